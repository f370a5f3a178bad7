import Derived.Test.YtcigiaecigedmaaGreatDoorP1
import Derived.Test.YtcigiaecigedmaaGreatDoorP5
import Derived.Test.YtcigiaecigedmaaGreatDoorTie
import Derived.Test.YtcigiaecigedmaaGreatDoorCards
import Derived.SevenTiedAt
namespace Go.Proofs.YtcigiaecigedmaaGreatDoor
open Go.Vc Go.ChangeShapes Go.WideShapes Go.ChangeAt Go.RowKit
set_option maxRecDepth 100000
theorem zbu:Tryz.f4.params=#[3,3,3,3,3,28]:=by kernel_rfl
theorem q7a {H:Type} {enc:TypeId×Value->H} {W:World} {base:Nat} {args:Array Value} {ds:List (DataW H)} {p:List MemPlace} (hval:∀(j:Nat) t v,Tryz.f4.params[j]?=some t->args[j]?=some v->Value.okWide Tryz.prog W .any base t v)
  (hT:Tab W) (hA:DataW.TrodAll enc Tryz.prog W 0 (fun _=>true) true Tryz.f4.params.toList args.toList ds p):(∃d1 d2 d3 d4 d5 d6,ds=[d1,d2,d3,d4,d5,d6])/\Calls Tryz.prog 4 args W fun e w'=>e=.returned (.bool true)/\Below W.heap.size W w':=by
 rw [zbu] at hA hval;obtain ⟨v0,vs0,d0,ds0,p0,q0,hargs,rfl,rfl,h0,r0⟩:=trodAll_cons hA;obtain ⟨v1,vs1,d1,ds1,p1,q1,rfl,rfl,rfl,h1,r1⟩:=trodAll_cons r0;obtain ⟨v2,vs2,d2,ds2,p2,q2,rfl,rfl,rfl,h2,r2⟩:=trodAll_cons r1;obtain ⟨v3,vs3,d3,ds3,p3,q3,rfl,rfl,rfl,h3,r3⟩:=trodAll_cons r2;obtain ⟨v4,vs4,d4,ds4,p4,q4,rfl,rfl,rfl,h4,r4⟩:=trodAll_cons r3;obtain ⟨v5,vs5,d5,ds5,p5,q5,rfl,rfl,rfl,h5,r5⟩:=trodAll_cons r4;obtain ⟨rfl,rfl,rfl⟩:=trodAll_nil r5;obtain rfl:args=#[v0,v1,v2,v3,v4,v5]:=by cases args;simp_all
 refine ⟨⟨_,_,_,_,_,_,rfl⟩,?_⟩;obtain ⟨x0,rfl,_,_,wf0⟩:=open_int (k:=.i64) (by kernel_rfl) (hval 0 3 v0 rfl rfl) h0;obtain ⟨x1,rfl,_,_,wf1⟩:=open_int (k:=.i64) (by kernel_rfl) (hval 1 3 v1 rfl rfl) h1;obtain ⟨x2,rfl,_,_,wf2⟩:=open_int (k:=.i64) (by kernel_rfl) (hval 2 3 v2 rfl rfl) h2;obtain ⟨x3,rfl,_,_,wf3⟩:=open_int (k:=.i64) (by kernel_rfl) (hval 3 3 v3 rfl rfl) h3;obtain ⟨x4,rfl,_,_,wf4⟩:=open_int (k:=.i64) (by kernel_rfl) (hval 4 3 v4 rfl rfl) h4;obtain ⟨s5,xs5,rfl,hrd5,hq5⟩:=zcq (by kernel_rfl) (hval 5 28 v5 rfl rfl) h5;refine Calls.mono (zff hT x0 x1 x2 x3 x4 hrd5 (K:=fun b w'=>b=true/\Below W.heap.size W w') fun w' hB=>⟨rfl,hB⟩) ?_;rintro e w' ⟨r,rfl,rfl,hB⟩;exact ⟨rfl,hB⟩
theorem q4x (os:Os) (started:os.Started) (H:Type) (enc:TypeId×Value->H) :
  ReturnsInHanded {} Tryz.checked os 4 .any (fun w args=>(Rows.topSizesSpec.pre enc Tryz.prog Tryz.f4 Rows.topSizesRow.domain false w args/\laidMetH Tryz.prog tabs w)/\sizedMet enc Tryz.prog Tryz.f4 (OpenSpec.ofChange Rows.topSizesSpec) false w args)
   (Rows.topSizesSpec.post enc Tryz.prog Tryz.f4 false true false false):=by
 refine returnsInHanded_of_change_and (C:=Tryz.checked) (X:=fun w _=>laidMetH Tryz.prog tabs w) (fun _ _ _ hh h=>h.of_heap hh) own started (by kernel_rfl) Tryz.func4
  (ChangeSpec.witness_shaped (enc:=enc) (C:=Tryz.checked) (os:=os) (X:=fun w _=>laidMetH Tryz.prog tabs w) false (World.laidAll Tryz.prog os tabs) #[.int .i64 0,.int .i64 0,.int .i64 0,.int .i64 0,.int .i64 0,.slice none 0 0] 8 (World.laidAll_os _ _ _)
   (zag os) (by kernel_rfl) (by kernel_rfl) (by kernel_rfl) (zg3 os _)) ?_
 intro W base args ds gs before hval hW _ _ hX _;have hW':=hW;obtain ⟨p,q,hA,_,_,_,_⟩:=hW;obtain ⟨⟨d1,d2,d3,d4,d5,d6,rfl⟩,hw⟩:=q7a hval (q96 hX) hA;refine hw.mono ?_;rintro e W' ⟨rfl,hB⟩;exact ⟨_,rfl,zg4 zhz (tb:=4) (by kernel_rfl) (by kernel_rfl) (by kernel_rfl) rfl rfl hW' hB⟩
theorem zi5 {P:Program} {f:FuncId} (h:P.unfollowed f=true):P.recurses f=true:=by
 unfold Program.recurses;rw [h];rfl
theorem zak:jnA Tryz.checked.prog Tryz.f4 Rows.topSizesSpec Rows.topSizesRow=true:=by kernel_rfl
theorem za2:(Rows.topSizesRow.inPlace==Tryz.checked.prog.inPlace 4)=true:=by unfold Program.inPlace;rw [q5l];kernel_rfl
theorem q2o:(Rows.topSizesRow.unfollowed==Tryz.checked.prog.unfollowed 4)=true:=by unfold Program.unfollowed;rw [q5l];kernel_rfl
theorem zas:(Rows.topSizesRow.recurses==Tryz.checked.prog.recurses 4)=true:=by rw [zi5 (eq_of_beq q2o).symm];rfl
theorem zae:(Rows.topSizesRow.named==Tryz.checked.prog.varsNamed 4)=true:=by unfold Program.varsNamed;rw [q5l];kernel_rfl
theorem q9z:jnB Tryz.checked.prog Tryz.f4 Rows.topSizesSpec Rows.topSizesRow=true:=by kernel_rfl
theorem zap:jnC Tryz.checked.prog Tryz.f4 Rows.topSizesSpec Rows.topSizesRow=true:=by kernel_rfl
theorem topSizes_holds:Rows.TopSizesSaid :=
 OpenClaim.holds_of_wide 4 Tryz.f4 rfl rfl rfl rfl rfl rfl rfl ⟨rfl,rfl,rfl,rfl,rfl⟩ rfl rfl rfl rfl rfl (by kernel_rfl) Tryz.func4 (zek zak za2 q2o zas zae q9z zap)
  (oTq (by kernel_rfl)) (by unfold Func.isWrapper;first | (rw [if_pos (by decide +kernel)];kernel_rfl) | (rw [if_neg (by decide +kernel)];exact ⟨rfl,rfl⟩))
  (fun os started H enc _=>q4x os started H enc)
theorem topSizes_card:Rows.TopSizesCardSaid :=
 Claim7.holds_tied_plain_at .later [] [.data, .data, .data, .data, .pinned] true (true, "bb521231f4e427300a3b6d4343bfc2c570d2d72440a9ad0c217cbd9b5b242316") true topSizes_holds (fun _ h => by cases h) (by kernel_rfl) (fun _ h => by cases h) topSizes_row_tie rfl ⟨rfl, rfl⟩ (by kernel_rfl) rfl
  (fun f fn hf hfn=>by
   obtain rfl : f = 4 := Option.some.inj ((show Tryz.prog.funcNamed "phosphor/phosphortop.TopSizes" = some 4 by kernel_rfl).symm.trans hf) |>.symm
   obtain rfl:fn=Tryz.f4:=(Option.some.inj (Tryz.func4.symm.trans hfn)).symm;exact ⟨by kernel_rfl,fun j t ht=>by
    rw [zbu] at ht;have hm:t∈[3,3,3,3,3,28]:=by simpa using Array.mem_of_getElem? ht
    have hall:([3,3,3,3,3,28].all fun u=>!Tryz.prog.wantsStandIn u)=true:=by kernel_rfl
    exact (show Tryz.prog.wantsStandIn t=false by simpa using List.all_eq_true.1 hall t hm)⟩)
  (q7n q9c _ rfl).symm
#print axioms topSizes_card
end Go.Proofs.YtcigiaecigedmaaGreatDoor
