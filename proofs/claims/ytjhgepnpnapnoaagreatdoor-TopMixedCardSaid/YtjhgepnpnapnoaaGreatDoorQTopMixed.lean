/- The card of TopMixed: for every input the law returns true and leaves its arguments as they were; the listed tables are as the program's text lays them. -/
import Derived.Test.YtjhgepnpnapnoaaGreatDoorP8
import Derived.Test.YtjhgepnpnapnoaaGreatDoorTie
import Derived.Test.YtjhgepnpnapnoaaGreatDoorCards
import Derived.SevenTiedAt
namespace Go.Proofs.YtjhgepnpnapnoaaGreatDoor
open Go.Vc Go.ChangeShapes Go.WideShapes Go.ChangeAt Go.RowKit
set_option maxRecDepth 100000
theorem params3:Tryz.f3.params=#[3,3,3]:=by kernel_rfl
theorem topMixed_walk {H:Type} {enc:TypeId×Value→H} {W:World} {base:Nat} {args:Array Value} {ds:List (DataW H)} {p:List MemPlace} (hval:∀(j:Nat) t v,Tryz.f3.params[j]?=some t→args[j]?=some v→Value.okWide Tryz.prog W .any base t v)
  (hT:Tab W) (hA:DataW.TrodAll enc Tryz.prog W 0 (fun _=>true) true Tryz.f3.params.toList args.toList ds p):(∃d1 d2 d3,ds=[d1,d2,d3])∧Calls Tryz.prog 3 args W fun e w'=>e=.returned (.bool true)∧Below W.heap.size W w':=by
 rw [params3] at hA hval;obtain ⟨v0,vs0,d0,ds0,p0,q0,hargs,rfl,rfl,h0,r0⟩:=trodAll_cons hA;obtain ⟨v1,vs1,d1,ds1,p1,q1,rfl,rfl,rfl,h1,r1⟩:=trodAll_cons r0;obtain ⟨v2,vs2,d2,ds2,p2,q2,rfl,rfl,rfl,h2,r2⟩:=trodAll_cons r1;obtain ⟨rfl,rfl,rfl⟩:=trodAll_nil r2;obtain rfl:args=#[v0,v1,v2]:=by cases args;simp_all
 refine ⟨⟨_,_,_,rfl⟩,?_⟩;obtain ⟨x0,rfl,_,_,wf0⟩:=open_int (k:=.i64) (by kernel_rfl) (hval 0 3 v0 rfl rfl) h0;obtain ⟨x1,rfl,_,_,wf1⟩:=open_int (k:=.i64) (by kernel_rfl) (hval 1 3 v1 rfl rfl) h1;obtain ⟨x2,rfl,_,_,wf2⟩:=open_int (k:=.i64) (by kernel_rfl) (hval 2 3 v2 rfl rfl) h2;refine Calls.mono (zf3 hT (K:=fun b w'=>b=true∧Below W.heap.size W w') fun w' hB=>⟨rfl,hB⟩) ?_;rintro e w' ⟨r,rfl,rfl,hB⟩;exact ⟨rfl,hB⟩
theorem topMixed_lifted (os:Os) (started:os.Started) (H:Type) (enc:TypeId×Value→H) :
  ReturnsInHanded {} Tryz.checked os 3 .any (fun w args=>(Rows.topMixedSpec.pre enc Tryz.prog Tryz.f3 Rows.topMixedRow.domain false w args∧laidMetH Tryz.prog q5u w)∧sizedMet enc Tryz.prog Tryz.f3 (OpenSpec.ofChange Rows.topMixedSpec) false w args)
   (Rows.topMixedSpec.post enc Tryz.prog Tryz.f3 false true false false):=by
 refine returnsInHanded_of_change_and (C:=Tryz.checked) (X:=fun w _=>laidMetH Tryz.prog q5u w) (fun _ _ _ hh h=>h.of_heap hh) own started (by kernel_rfl) Tryz.func3
  (ChangeSpec.witness_shaped (enc:=enc) (C:=Tryz.checked) (os:=os) (X:=fun w _=>laidMetH Tryz.prog q5u w) false (World.laidAll Tryz.prog os q5u) #[.int .i64 0,.int .i64 0,.int .i64 0] 8 (World.laidAll_os _ _ _)
   (q63 os) (by kernel_rfl) (by kernel_rfl) (by kernel_rfl) (zif os _)) ?_
 intro W base args ds gs before hval hW _ _ hX _;have hW':=hW;obtain ⟨p,q,hA,_,_,_,_⟩:=hW;obtain ⟨⟨d1,d2,d3,rfl⟩,hw⟩:=topMixed_walk hval (q8i hX) hA;refine hw.mono ?_;rintro e W' ⟨rfl,hB⟩;exact ⟨_,rfl,law_post zlg (tb:=4) (by kernel_rfl) (by kernel_rfl) (by kernel_rfl) rfl rfl hW' hB⟩
theorem rec_of {P:Program} {f:FuncId} (h:P.unfollowed f=true):P.recurses f=true:=by
 unfold Program.recurses;rw [h];rfl
theorem topMixed_rows:mapsRowed Tryz.checked.prog=true:=by kernel_rfl
theorem topMixed_j1:jnA Tryz.checked.prog Tryz.f3 Rows.topMixedSpec Rows.topMixedRow=true:=jnA_of zlg topMixed_rows (by kernel_rfl)
theorem topMixed_j2:(Rows.topMixedRow.inPlace==Tryz.checked.prog.inPlace 3)=true:=by unfold Program.inPlace;rw [clo3_eq];kernel_rfl
theorem topMixed_j3:(Rows.topMixedRow.unfollowed==Tryz.checked.prog.unfollowed 3)=true:=by unfold Program.unfollowed;rw [clo3_eq];kernel_rfl
theorem topMixed_j4:(Rows.topMixedRow.recurses==Tryz.checked.prog.recurses 3)=true:=by rw [rec_of (eq_of_beq topMixed_j3).symm];rfl
theorem topMixed_j5:(Rows.topMixedRow.named==Tryz.checked.prog.varsNamed 3)=true:=by unfold Program.varsNamed;rw [clo3_eq];kernel_rfl
theorem topMixed_j6:jnB Tryz.checked.prog Tryz.f3 Rows.topMixedSpec Rows.topMixedRow=true:=by kernel_rfl
theorem topMixed_plain:(Rows.topMixedRow.plainKeys==Tryz.checked.prog.plainKeys)=true:=by kernel_rfl
theorem topMixed_heard:Tryz.checked.prog.stopsHeard=true:=by kernel_rfl
theorem topMixed_enter:Tryz.checked.prog.mayEnter=true:=by kernel_rfl
theorem topMixed_j7:jnC Tryz.checked.prog Tryz.f3 Rows.topMixedSpec Rows.topMixedRow=true:=jnC_of topMixed_plain topMixed_heard topMixed_enter (by kernel_rfl)
theorem topMixed_holds:Rows.TopMixedSaid :=
 OpenClaim.holds_of_wide 3 Tryz.f3 rfl rfl rfl rfl rfl rfl rfl ⟨rfl,rfl,rfl,rfl,rfl⟩ rfl rfl rfl rfl rfl (by kernel_rfl) Tryz.func3 (joined_of topMixed_j1 topMixed_j2 topMixed_j3 topMixed_j4 topMixed_j5 topMixed_j6 topMixed_j7)
  (of_decide_eq_true (by kernel_rfl)) (by unfold Func.isWrapper;first | (rw [if_pos (by decide +kernel)];kernel_rfl) | (rw [if_neg (by decide +kernel)];exact ⟨rfl,rfl⟩))
  (fun os started H enc _=>topMixed_lifted os started H enc)
theorem topMixed_card:Rows.TopMixedCardSaid :=
 Claim7.holds_tied_plain_at .later [] [.data, .data, .data, .data, .pinned] true (true, "eef4bb749417f270e3c166be60ad86df8a8d3ffb4beea9ce057ef515ada1d5bd") true topMixed_holds (fun _ h => by cases h) (by kernel_rfl) (fun _ h => by cases h) topMixed_row_tie rfl ⟨rfl, rfl⟩ (by kernel_rfl) rfl
  (fun f fn hf hfn=>by
   obtain rfl : f = 3 := Option.some.inj ((show Tryz.prog.funcNamed "phosphor/phosphortop.TopMixed" = some 3 by kernel_rfl).symm.trans hf) |>.symm
   obtain rfl:fn=Tryz.f3:=(Option.some.inj (Tryz.func3.symm.trans hfn)).symm;exact ⟨by kernel_rfl,fun j t ht=>by
    rw [params3] at ht;have hm:t∈[3,3,3]:=by simpa using Array.mem_of_getElem? ht
    have hall:([3,3,3].all fun u=>!Tryz.prog.wantsStandIn u)=true:=by kernel_rfl
    exact (show Tryz.prog.wantsStandIn t=false by simpa using List.all_eq_true.1 hall t hm)⟩)
  (goesBy_false nobody_goes _ rfl).symm
#print axioms topMixed_card
end Go.Proofs.YtjhgepnpnapnoaaGreatDoor
