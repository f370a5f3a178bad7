import Derived.ProofKit
import Derived.OpenShut
import Derived.ChangeOld
import Derived.ChangeSame
import Derived.Carry
import Derived.Deep.Slices
import Derived.Below
import Derived.JoinedOf
import GoSem.ClaimSeven
import Derived.DataShut
import Derived.Lay
import Derived.MakeChecks
import Derived.LaidMore
import Derived.Stop.Joined
import Derived.Lib.LaidTab
import Derived.ChangeMaps5
import Derived.Test.YtjhgepnpnapnoaaGreatDoorChecked
import Derived.Test.YtjhgepnpnapnoaaGreatDoorP7
set_option linter.unusedVariables false
set_option maxRecDepth 100000
namespace Go.Vc
open Go.ChangeShapes Go.WideShapes Go.ChangeAt Go.RowKit Go.Deep
section
variable {H:Type} {enc:TypeId×Value→H} {P:Program} {w:World} {base:Nat} {spare:Nat→Bool} {held:Bool}
end
theorem trodAll_stays {H:Type} {enc:TypeId×Value→H} {P:Program} (hl:laidOutB P=true) {W W':World} (hb:Below W.heap.size W W'):∀(ts:List TypeId) {vs:List Value} {ds:List (DataW H)} {ps:List MemPlace},
  ts.all (fun t=>P.readableRec t && decide (t<P.types.size))=true→DataW.TrodAll enc P W 0 (fun _=>true) true ts vs ds ps→(∀x∈ps,x.block<W.heap.size)→DataW.TrodAll enc P W' 0 (fun b=>decide (b<W.heap.size)) true ts vs ds ps
 | [],vs,ds,ps,_,h,_=>by
  obtain ⟨rfl,rfl,rfl⟩:=trodAll_nil h;exact trodAll_mk0
 | t::ts,vs,ds,ps,hr,h,hlt=>by
  obtain ⟨v,vs',d,ds',p,q,rfl,rfl,rfl,h0,h1⟩:=trodAll_cons h;simp only [List.all_cons,Bool.and_eq_true,decide_eq_true_eq] at hr;exact trodAll_cons_mk (Below.trod hl hr.1.1 hr.1.2 h0 hb fun x hx=>hlt x (List.mem_append.2 (.inl hx))) (trodAll_stays hl hb ts (by simpa using hr.2) h1 fun x hx=>hlt x (List.mem_append.2 (.inr hx)))
theorem law_post {H:Type} {enc:TypeId×Value→H} {P:Program} {f:Func} {s:ChangeSpec} {W W':World} {args:Array Value} {ds gs:List (DataW H)} {before:List MemPlace} {tb:TypeId} (hl:laidOutB P=true) (hrt:f.resultTypes=#[tb]) (htb:P.underlying tb=some .bool)
  (hr:f.params.toList.all (fun t=>P.readableRec t && decide (t<P.types.size))=true) (hv:s.vars=[]) (hfn:s.fn H (ds++[])={ results:=[.lit (.bool true)],args:=ds }) (hW:DataW.Whole enc P f.params.toList s.vars false W args.toList ds gs before)
  (hb:Below W.heap.size W W'):s.post enc P f false true false false W args (.bool true) W':=by
 have hW':=hW;have hlt:=hW.lt;obtain ⟨p,q,hA0,hV,rfl,hfz,hnd⟩:=hW;rw [hv] at hV;obtain ⟨rfl,rfl⟩:=trodVars_none hV;refine ⟨ds,[],p++[],[],p,[],hW',?_,?_,?_,hb.frame _,fun h=>by cases h⟩
 ·rw [hrt,hfn];exact trodAll_mk1 (shut_bool htb _)
 ·rw [hfn];exact trodAll_stays hl hb _ hr hA0 fun x hx=>hlt x (by simpa using hx)
 ·rw [hfn,hv];exact rfl
end Go.Vc
namespace Go.Proofs.YtjhgepnpnapnoaaGreatDoor
def jnA (P:Program) (fn:Func) (s:ChangeSpec) (c:OpenClaim):Bool :=
 c.wf (OpenSpec.ofChange s) && laidOutB P && mapsRowed P && fn.params.all (P.readableRec ·) && namedTie P c.named s.vars && (c.stops==[]) && (P.stops==[]) && (c.knobs==[]) && (P.stopKnobs==[])
def jnB (P:Program) (fn:Func) (s:ChangeSpec) (c:OpenClaim):Bool :=
 (c.maps==(fn.params.toList++s.plain.varTypes P).any (P.mapsRec ·)) && (c.ifaces==(fn.params.toList++s.plain.varTypes P).any (P.ifacesRec ·)) && (c.mapsOut==P.mapsAmong fn.resultTypes.toList) &&
 (c.loops==(fn.params.toList++s.plain.varTypes P).any (P.loopsFrom ·)) && (c.wideKeys==(fn.params.toList++s.plain.varTypes P++fn.resultTypes.toList).any (P.wideKeysFrom ·)) &&
 s.vars.all (P.varReadable ·) && fn.resultTypes.all (fun t=>P.readableRec t && decide (t<P.types.size)) && (c.ifacesOut==fn.resultTypes.toList.any (P.ifacesRec ·)) && (c.loopsOut==fn.resultTypes.toList.any (P.loopsFrom ·))
def jnC (P:Program) (fn:Func) (s:ChangeSpec) (c:OpenClaim):Bool :=
 (c.plainKeys==P.plainKeys) && c.shortTexts.isNone && P.stopsHeard && P.mayEnter && (c.lifted==P.liftsFinal) && (P.make==some c.make) && (c.kinds==(if c.domain.isEmpty then [] else fn.params.toList.map fun t=>match P.underlying t with | some (.int k)=>some k | _=>none)) && (c.pinned==c.pinnedBy) &&
 (c.veiled==(fn.params.toList++s.plain.varTypes P++fn.resultTypes.toList).any (P.veiledRec ·)) && c.veiledFits P fn.params.toList (fn.params.toList++s.plain.varTypes P++fn.resultTypes.toList)
theorem joined_of {P:Program} {f:FuncId} {fn:Func} {s:ChangeSpec} {c:OpenClaim} (a:jnA P fn s c=true) (b1:(c.inPlace==P.inPlace f)=true) (b2:(c.unfollowed==P.unfollowed f)=true) (b3:(c.recurses==P.recurses f)=true) (b4:(c.named==P.varsNamed f)=true)
  (d:jnB P fn s c=true) (e:jnC P fn s c=true):joinedFacts P f fn s c=true:=by
 unfold jnA at a;unfold jnB at d;unfold jnC at e;unfold joinedFacts;simp only [Bool.and_eq_true,and_assoc] at a d e ⊢;exact ⟨a.1,a.2.1,a.2.2.1,a.2.2.2.1,a.2.2.2.2.1,a.2.2.2.2.2.1,a.2.2.2.2.2.2.1,a.2.2.2.2.2.2.2.1,a.2.2.2.2.2.2.2.2,b1,b2,b3,b4,d.1,d.2.1,d.2.2.1,d.2.2.2.1,d.2.2.2.2.1,d.2.2.2.2.2.1,d.2.2.2.2.2.2.1,d.2.2.2.2.2.2.2.1,d.2.2.2.2.2.2.2.2,e⟩
def jnA0 (P:Program) (fn:Func) (s:ChangeSpec) (c:OpenClaim):Bool :=
 c.wf (OpenSpec.ofChange s) && fn.params.all (P.readableRec ·) && namedTie P c.named s.vars && (c.stops==[]) && (P.stops==[]) && (c.knobs==[]) && (P.stopKnobs==[])
def jnC0 (P:Program) (fn:Func) (s:ChangeSpec) (c:OpenClaim):Bool :=
 c.shortTexts.isNone && (c.lifted==P.liftsFinal) && (P.make==some c.make) && (c.kinds==(if c.domain.isEmpty then [] else fn.params.toList.map fun t=>match P.underlying t with | some (.int k)=>some k | _=>none)) && (c.pinned==c.pinnedBy) &&
 (c.veiled==(fn.params.toList++s.plain.varTypes P++fn.resultTypes.toList).any (P.veiledRec ·)) && c.veiledFits P fn.params.toList (fn.params.toList++s.plain.varTypes P++fn.resultTypes.toList)
theorem jnA_of {P:Program} {fn:Func} {s:ChangeSpec} {c:OpenClaim} (l:laidOutB P=true) (m:mapsRowed P=true) (a:jnA0 P fn s c=true):jnA P fn s c=true:=by
 unfold jnA0 at a;unfold jnA;simp only [Bool.and_eq_true,and_assoc] at a ⊢;exact ⟨a.1,l,m,a.2⟩
theorem jnC_of {P:Program} {fn:Func} {s:ChangeSpec} {c:OpenClaim} (k:(c.plainKeys==P.plainKeys)=true) (h:P.stopsHeard=true) (m:P.mayEnter=true) (a:jnC0 P fn s c=true):jnC P fn s c=true:=by
 unfold jnC0 at a;unfold jnC;simp only [Bool.and_eq_true,and_assoc] at a ⊢;exact ⟨k,a.1,h,m,a.2⟩
def closB (T:List (List Nat)):Nat→List Nat→List Nat→Nat→List Nat
 | 0,_,seen,_=>seen.reverse
 | _+1,[],seen,_=>seen.reverse
 | n+1,f::todo,seen,m=>cond (Nat.testBit m f) (closB T n todo seen m) (closB T n ((T[f]?).getD []++todo) (f::seen) (m ||| 1 <<< f))
theorem closB_eq {P:Program} {T:List (List Nat)} (hT:P.funcs.toList.map P.leadsTo=T):∀(n:Nat) (todo seen:List FuncId) (m:Nat),(∀f,seen.contains f=Nat.testBit m f)→P.closureVia n todo seen=closB T n todo seen m:=by
 have hg:∀f:Nat,(P.funcs[f]?).elim [] P.leadsTo=(T[f]?).getD []:=fun f=>by
  rw [←hT,List.getElem?_map,Array.getElem?_toList];cases P.funcs[f]?<;>rfl
 intro n
 induction n with
 | zero=>intro todo seen m h;cases todo<;>rfl
 | succ n ih =>
  intro todo seen m h;cases todo with
  | nil=>rfl
  | cons f todo =>
   show (if seen.contains f then P.closureVia n todo seen else P.closureVia n ((P.funcs[f]?).elim [] P.leadsTo++todo) (f::seen))=cond (Nat.testBit m f) (closB T n todo seen m) (closB T n ((T[f]?).getD []++todo) (f::seen) (m ||| 1 <<< f));rw [h f];cases hb:Nat.testBit m f
   ·rw [if_neg (by decide),hg];refine ih _ _ _ fun x=>?_;rw [List.contains_cons,h x,Nat.testBit_or,Nat.one_shiftLeft,Nat.testBit_two_pow,Bool.or_comm];congr 1;by_cases e:x=f
    ·subst e;simp
    ·rw [beq_eq_false_iff_ne.2 e,decide_eq_false (fun h=>e h.symm)]
   ·rw [if_pos rfl];exact ih _ _ _ h
theorem closure_eq {P:Program} {T:List (List Nat)} (hT:P.funcs.toList.map P.leadsTo=T) (f:FuncId):P.closure f=closB T (1+(T.map fun l=>l.length+1).sum) [f] [] 0:=by
 unfold Program.closure;rw [closB_eq hT _ _ _ 0 (fun f=>by rw [Nat.zero_testBit];rfl)];subst hT;rw [List.map_map];rfl
theorem goesBy_false {P:Program} (h:P.funcs.any Func.goes=false) (c:OpenClaim) (hs:c.start=.entering):c.goesBy P=false:=by
 have hg:∀f,P.goes f=false:=fun f=>by
  unfold Program.goes;rw [h,Bool.and_false,Bool.or_false,List.any_eq_false];intro g _ hx;cases hp:P.funcs[g]? with
  | none=>rw [hp] at hx;cases hx
  | some fn =>
   rw [hp] at hx;rw [Array.any_eq_false] at h;obtain ⟨hi,rfl⟩:=Array.getElem?_eq_some_iff.1 hp;exact h g hi hx
 unfold OpenClaim.goesBy Program.goesAt Program.goesFrom;rw [hs];cases P.funcNamed c.func with
 | none=>rfl
 | some f=>simp [hg f]
def leadT0:List (List Nat):=[[],[],[1],[4,5,5,6,6,7,8,7,5,9,9,9,10,11,10,12,13,14],[6,9,15,16,17,14],[],[18],[],[19,19,19,19,19,19],[21,20],[22],[23,24],[26,25],[16,27,28,29,30,30,31,32,33],[34],[37,36,35],[39,40,38],[41,42,44,43,46,45],[47,48,49],[19],[50,51,52],[53,54,55,56,57,58,59,60],[61],[],[],[62,63],[64],[39,65,38],[],[66],[67],[68,68,68,68],[10,10,12,12,69,71,72,71,72,70,11,11,73,73,74],[15,15,74,75],[],[76,76,76,76,77,78],[79,16,80,68,10,12],[23],[],[81,82],[83,84],[84,85],[86],[86],[87],[88,89,90,91],[],[92,93,93,94],[95,96],[97,98],[99,100,101],[102,103,105,104,106,107],[],[108],[109,110,109,109,111,112],[112,113,79,114,59,115],[],[79,116,115],[48],[117,118,119,120],[121,122,123,124,124],[125],[126],[128,127],[],[129,84],[],[],[130],[],[],[131],[132],[],[75],[],[],[133],[134],[135,67,136,137]]
def leadT1:List (List Nat):=[[138],[],[139,140],[],[],[141,141],[142],[],[],[],[143],[144,145],[146,146,146,146,146,146],[147,147,148,149],[150,151,152,153],[],[],[],[],[],[],[24],[154,106,106,107,155],[156,155,157,158],[],[159],[],[],[160],[],[161],[163,162,164],[111],[165,24],[166,164,168,167,111],[146,169,146,170],[171,172,173,174,175,176,177,178],[179,180],[170,181,170,169,170],[182,183],[184,185,186,188,187,187,189,190,189,187,191],[],[193,192],[194,195],[196,192],[197],[],[198,199,200,201,202,203,204,205,206,127,127],[207,208],[],[136],[209],[],[],[],[150],[],[81,195],[210,211,212],[140],[],[],[],[],[213,214],[215],[],[],[],[216],[81,217],[218],[],[],[24],[219,220,221,222],[219,105,104,105,104,223,104],[219,219,220,221,224,225],[154],[]]
def leadT2:List (List Nat):=[[],[226,165,227],[228],[229],[230],[226,231,232,231,231,233],[234,235,235,236,237,228,238,24,34],[239,240,178,178],[],[81,242,241,170],[150,243,243],[244,245,245],[168,246,247],[248,111,174,178,249],[236],[250,178,173],[251,178,167,252],[253,12,254,255,256],[257,258],[259],[260,150,170,169,170,169,81,262,261],[265,266,267],[150,268,81,269,170],[170,169,270,271,272,273,274],[],[150,153,152],[275,276,276],[],[189,189],[277],[130],[184,184,187,188,187,187,278,279,272,273,280,281,282,283,284,285,286,81,242,241,287],[255,288],[290,289],[291],[],[292,289],[],[204],[293,293],[294,295],[296,296,296,297],[],[204,204,204],[298,298],[204,204],[204,204,204,204],[],[],[132],[],[299],[],[],[300],[301,302,301,303,304],[268],[],[267],[],[156],[],[107,107],[305,305],[],[224,306],[],[233],[307,26,62,309,237],[],[310,289],[],[231,311,160],[],[133],[],[],[],[],[23,312,312,313,314,314]]
def leadT3:List (List Nat):=[[315,316,289],[216,317,216,317,318],[],[],[319],[],[320],[321,322,323,322,324,324,325],[326,327,328],[329,174,178,330],[331,332],[253,23],[],[],[333,289],[335,237],[],[],[189,336],[],[87,338,337,339,337],[83,340,83],[263,264],[41,341,343,342,41],[41,344],[],[],[345,25],[343],[83,340,83],[81,242,241,170],[265,265],[],[152,150,243,243],[217,149,346,195,94],[170],[272,150,347,273],[348],[349,349,350],[150,184,243,184,243,275],[],[],[150,180],[150,347,347,347,347,347,81,346],[150,347],[150,347,263,351,81,352,261],[81,242,241,170],[353,354,170,170,170,355,170,355,184,170,181,170,356,170,170],[],[],[210],[357],[],[204,204],[128],[],[297],[358,358,358],[],[359,359,360,360],[],[361],[],[],[],[],[],[308],[362,362],[],[],[],[],[314,314,314,314,314,363,363],[],[364,364,364,364,364,364,364,364,364],[],[365],[366],[367,75,368,367,75,303,368,367,75,369]]
def leadT4:List (List Nat):=[[370,371,372],[373,325],[301],[],[301],[],[374],[],[375],[376,327,328,377,375,378,379],[166,178,164,178,167],[380,380],[],[334],[210,210,210,210,210,210],[382,381],[383,384,384,384,46],[],[],[],[41,41,343,342],[],[385],[],[85],[386],[387],[81,242,388,136,81,195],[389,390,391,392],[],[393],[41,341,343,342,41],[242],[170],[150,170],[243],[265,266,267,394],[],[204],[],[395,360,360],[396],[],[],[],[],[317],[397],[],[398],[399,214],[399,400,372],[401],[402],[301,403,404],[],[403,404,405],[406],[407],[408,409,410],[],[411],[],[86,412],[86],[],[],[],[413,261],[],[208,415,416],[],[417,418],[],[419],[420,420,420],[],[],[],[]]
def leadT5:List (List Nat):=[[],[361,304,361,303,304,421],[422],[],[],[],[],[423,424,425,426],[427],[428,429,407,430],[427],[],[431],[414],[41,344],[],[],[],[432,433],[],[],[434],[],[435,436],[437,438,439,440,438,441,442,377,443,438],[],[442],[77],[444,445,446],[448,447],[77,450,451,447],[],[],[],[],[],[],[],[],[],[377,455,456,457,458,459,457,457,457,24],[],[441],[],[461,460],[443,443,462],[463,464],[465,466],[450,449],[467],[],[449,452,453,454],[468,24,469],[467],[470,470,470,470,470],[24],[471],[],[472,473,474,475,476],[],[477,75,478],[],[450,479],[],[],[480],[481,481],[],[],[482],[483],[484],[456,485,486,486],[487,456,456],[456,488,489,490],[456,456,456,456,486,491,486,486],[492,490,489,493,456,492,494,456,489],[],[443,495,497,496,443,24],[498]]
def leadT6:List (List Nat):=[[],[],[499],[],[],[],[500,501],[],[457,457,455,456],[],[],[492,456],[484,471,456],[],[],[502,503],[],[],[],[],[],[504],[99],[],[],[],[],[],[],[],[],[],[],[],[],[],[],[],[],[],[],[],[531],[],[],[326,34],[527,522],[528,530,529],[532,532],[],[],[],[533,534,535,534],[],[],[534],[537,538,539],[313,76,76,76,76],[540,540,234],[234,234,540,540,542,542,541],[],[],[],[544,522],[546,545],[528,530,530],[529],[76,76],[],[],[],[],[],[],[],[],[],[],[],[]]
def leadT7:List (List Nat):=[[]]
def leadT:List (List Nat):=leadT0++leadT1++leadT2++leadT3++leadT4++leadT5++leadT6++leadT7
theorem leads_eq:Tryz.checked.prog.funcs.toList.map Tryz.checked.prog.leadsTo=leadT:=by kernel_rfl
theorem nobody_goes:Tryz.checked.prog.funcs.any Func.goes=false:=by kernel_rfl
def clo3:List Nat:=[3,4,6,18,47,92,146,93,147,148,149,216,268,343,94,150,81,217,151,218,267,345,386,25,62,126,63,128,207,208,127,198,204,298,199,293,200,294,295,201,296,297,358,202,203,205,206,152,153,48,95,96,49,97,98,9,21,53,108,160,54,109,110,161,226,165,231,232,311,233,227,111,163,229,162,228,307,308,362,26,64,309,237,164,230,310,289,112,55,113,24,79,135,67,136,137,195,114,166,234,133,235,236,238,34,168,167,239,23,312,313,314,363,240,315,364,316,178,257,258,189,277,348,389,390,415,416,391,392,417,418,432,433,336,383,86,142,412,431,384,46,59,117,179,259,180,260,87,338,337,339,170,243,169,242,241,317,365,318,366,262,263,41,84,85,141,341,342,385,264,344,261,83,340,118,181,265,266,119,182,269,183,270,271,272,273,274,346,387,120,184,185,186,275,276,347,388,413,414,188,187,190,130,191,278,349,350,393,279,280,281,282,283,284,285,351,352,286,287,353,354,355,356,394,419,115,56,57,116,171,244,319,367,397,75,368,303,369,398,245,172,246,320,370,399,214,300,371,400,372,401,361,396,304,421,434,247,321,373,402,422,325,322,301,323,324,173,248,326,374,403,404,327,328,375,174,249,329,376,405,377,406,378,407,423,435,436,424,437,438,439,440,455,456,471,484,457,458,472,485,486,500,501,504,473,487,474,488,489,490,475,491,492,476,493,494,459,441,442,443,425,426,379,408,427,77,409,428,444,461,460,477,478,495,502,99,503,497,496,445,462,450,479,498,446,463,464,429,448,449,467,447,465,480,466,481,430,451,452,468,469,482,499,453,454,470,483,410,330,175,250,331,380,332,176,251,253,252,177,12,254,333,334,210,255,335,382,381,411,256,58,60,121,122,193,290,192,288,123,194,291,357,124,196,292,20,50,100,101,51,102,154,106,107,155,219,220,156,105,159,104,223,305,221,222,103,157,224,225,306,158,52,15,37,36,16,39,82,139,140,40,38,80,138,211,299,359,360,395,420,212,68,10,22,61,125,197,35,76,78,134,17,42,44,43,45,88,89,90,143,91,144,213,145,215,302,14,5,7,8,19,11,13,27,65,129,28,29,66,30,31,32,69,71,131,209,132,72,70,73,74,33]
theorem clo3_eq:Tryz.checked.prog.closure 3=clo3:=(closure_eq leads_eq 3).trans (by kernel_rfl)
end Go.Proofs.YtjhgepnpnapnoaaGreatDoor
