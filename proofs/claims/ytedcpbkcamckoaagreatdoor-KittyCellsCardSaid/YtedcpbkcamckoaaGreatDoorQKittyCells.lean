import Derived.Test.YtedcpbkcamckoaaGreatDoorP1
import Derived.Test.YtedcpbkcamckoaaGreatDoorP5
import Derived.Test.YtedcpbkcamckoaaGreatDoorTie
import Derived.Test.YtedcpbkcamckoaaGreatDoorCards
import Derived.SevenTiedAt
namespace Go.Proofs.YtedcpbkcamckoaaGreatDoor
open Go.Vc Go.ChangeShapes Go.WideShapes Go.ChangeAt Go.RowKit
set_option maxRecDepth 100000
theorem zdf:Tryz.f3.params=#[3,3,3,3,3,3]:=by kernel_rfl
theorem q4y {H:Type} {enc:TypeId×Value->H} {W:World} {base:Nat} {args:Array Value} {ds:List (DataW H)} {p:List MemPlace} (hval:∀(j:Nat) t v,Tryz.f3.params[j]?=some t->args[j]?=some v->Value.okWide Tryz.prog W .any base t v)
  (hT:Tab W) (hA:DataW.TrodAll enc Tryz.prog W 0 (fun _=>true) true Tryz.f3.params.toList args.toList ds p):(∃d1 d2 d3 d4 d5 d6,ds=[d1,d2,d3,d4,d5,d6])/\Calls Tryz.prog 3 args W fun e w'=>e=.returned (.bool true)/\Below W.heap.size W w':=by
 rw [zdf] at hA hval;obtain ⟨v0,vs0,d0,ds0,p0,q0,hargs,rfl,rfl,h0,r0⟩:=trodAll_cons hA;obtain ⟨v1,vs1,d1,ds1,p1,q1,rfl,rfl,rfl,h1,r1⟩:=trodAll_cons r0;obtain ⟨v2,vs2,d2,ds2,p2,q2,rfl,rfl,rfl,h2,r2⟩:=trodAll_cons r1;obtain ⟨v3,vs3,d3,ds3,p3,q3,rfl,rfl,rfl,h3,r3⟩:=trodAll_cons r2;obtain ⟨v4,vs4,d4,ds4,p4,q4,rfl,rfl,rfl,h4,r4⟩:=trodAll_cons r3;obtain ⟨v5,vs5,d5,ds5,p5,q5,rfl,rfl,rfl,h5,r5⟩:=trodAll_cons r4;obtain ⟨rfl,rfl,rfl⟩:=trodAll_nil r5;obtain rfl:args=#[v0,v1,v2,v3,v4,v5]:=by cases args;simp_all
 refine ⟨⟨_,_,_,_,_,_,rfl⟩,?_⟩;obtain ⟨x0,rfl,_,_,wf0⟩:=open_int (k:=.i64) (by kernel_rfl) (hval 0 3 v0 rfl rfl) h0;obtain ⟨x1,rfl,_,_,wf1⟩:=open_int (k:=.i64) (by kernel_rfl) (hval 1 3 v1 rfl rfl) h1;obtain ⟨x2,rfl,_,_,wf2⟩:=open_int (k:=.i64) (by kernel_rfl) (hval 2 3 v2 rfl rfl) h2;obtain ⟨x3,rfl,_,_,wf3⟩:=open_int (k:=.i64) (by kernel_rfl) (hval 3 3 v3 rfl rfl) h3;obtain ⟨x4,rfl,_,_,wf4⟩:=open_int (k:=.i64) (by kernel_rfl) (hval 4 3 v4 rfl rfl) h4;obtain ⟨x5,rfl,_,_,wf5⟩:=open_int (k:=.i64) (by kernel_rfl) (hval 5 3 v5 rfl rfl) h5;refine Calls.mono (zh8 hT x0 x1 x2 x3 x4 x5 (K:=fun b w'=>b=true/\Below W.heap.size W w') fun w' hB=>⟨rfl,hB⟩) ?_;rintro e w' ⟨r,rfl,rfl,hB⟩;exact ⟨rfl,hB⟩
theorem q21 (os:Os) (started:os.Started) (H:Type) (enc:TypeId×Value->H) :
  ReturnsInHanded {} Tryz.checked os 3 .any (fun w args=>(Rows.kittyCellsSpec.pre enc Tryz.prog Tryz.f3 Rows.kittyCellsRow.domain false w args/\laidMetH Tryz.prog tabs w)/\sizedMet enc Tryz.prog Tryz.f3 (OpenSpec.ofChange Rows.kittyCellsSpec) false w args)
   (Rows.kittyCellsSpec.post enc Tryz.prog Tryz.f3 false true false false):=by
 refine returnsInHanded_of_change_and (C:=Tryz.checked) (X:=fun w _=>laidMetH Tryz.prog tabs w) (fun _ _ _ hh h=>h.of_heap hh) own started (by kernel_rfl) Tryz.func3
  (ChangeSpec.witness_shaped (enc:=enc) (C:=Tryz.checked) (os:=os) (X:=fun w _=>laidMetH Tryz.prog tabs w) false (World.laidAll Tryz.prog os tabs) #[.int .i64 0,.int .i64 0,.int .i64 0,.int .i64 0,.int .i64 0,.int .i64 0] 8 (World.laidAll_os _ _ _)
   (q3y os) (by kernel_rfl) (by kernel_rfl) (by kernel_rfl) (za7 os _)) ?_
 intro W base args ds gs before hval hW _ _ hX _;have hW':=hW;obtain ⟨p,q,hA,_,_,_,_⟩:=hW;obtain ⟨⟨d1,d2,d3,d4,d5,d6,rfl⟩,hw⟩:=q4y hval (q3q hX) hA;refine hw.mono ?_;rintro e W' ⟨rfl,hB⟩;exact ⟨_,rfl,zbf zdj (tb:=4) (by kernel_rfl) (by kernel_rfl) (by kernel_rfl) rfl rfl hW' hB⟩
theorem q9q:jnA Tryz.checked.prog Tryz.f3 Rows.kittyCellsSpec Rows.kittyCellsRow=true:=by kernel_rfl
theorem q9j:(Rows.kittyCellsRow.inPlace==Tryz.checked.prog.inPlace 3)=true:=by kernel_rfl
theorem q9h:(Rows.kittyCellsRow.unfollowed==Tryz.checked.prog.unfollowed 3)=true:=by kernel_rfl
theorem q85:(Rows.kittyCellsRow.recurses==Tryz.checked.prog.recurses 3)=true:=by kernel_rfl
theorem q87:(Rows.kittyCellsRow.named==Tryz.checked.prog.varsNamed 3)=true:=by kernel_rfl
theorem q9d:jnB Tryz.checked.prog Tryz.f3 Rows.kittyCellsSpec Rows.kittyCellsRow=true:=by kernel_rfl
theorem q9a:jnC Tryz.checked.prog Tryz.f3 Rows.kittyCellsSpec Rows.kittyCellsRow=true:=by kernel_rfl
theorem kittyCells_holds:Rows.KittyCellsSaid :=
 OpenClaim.holds_of_wide 3 Tryz.f3 rfl rfl rfl rfl rfl rfl rfl ⟨rfl,rfl,rfl,rfl,rfl⟩ rfl rfl rfl rfl rfl (by kernel_rfl) Tryz.func3 (q74 q9q q9j q9h q85 q87 q9d q9a)
  (oTq (by kernel_rfl)) (by unfold Func.isWrapper;first | (rw [if_pos (by decide +kernel)];kernel_rfl) | (rw [if_neg (by decide +kernel)];exact ⟨rfl,rfl⟩))
  (fun os started H enc _=>q21 os started H enc)
theorem kittyCells_card:Rows.KittyCellsCardSaid :=
 Claim7.holds_tied_plain_at .later [] [.data, .data, .data, .data, .pinned] true (true, "fa1bc12d9d552c0af6ea24f8149c90922ec70d7c3696316cd74ec4dfe27e28d5") true kittyCells_holds (fun _ h => by cases h) (by kernel_rfl) (fun _ h => by cases h) kittyCells_row_tie rfl ⟨rfl, rfl⟩ (by kernel_rfl) rfl
  (fun f fn hf hfn=>by
   obtain rfl : f = 3 := Option.some.inj ((show Tryz.prog.funcNamed "phosphor/phosphorlaw23.KittyCells" = some 3 by kernel_rfl).symm.trans hf) |>.symm
   obtain rfl:fn=Tryz.f3:=(Option.some.inj (Tryz.func3.symm.trans hfn)).symm;exact ⟨by kernel_rfl,fun j t ht=>by
    rw [zdf] at ht;have hm:t∈[3,3,3,3,3,3]:=by simpa using Array.mem_of_getElem? ht
    have hall:([3,3,3,3,3,3].all fun u=>!Tryz.prog.wantsStandIn u)=true:=by kernel_rfl
    exact (show Tryz.prog.wantsStandIn t=false by simpa using List.all_eq_true.1 hall t hm)⟩)
  (by kernel_rfl)
#print axioms kittyCells_card
end Go.Proofs.YtedcpbkcamckoaaGreatDoor
