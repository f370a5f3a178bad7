import Derived.Test.YtcigiaecigedmaaGreatDoorDefs
set_option maxRecDepth 100000
set_option linter.unusedVariables false
namespace Go.Proofs.YtcigiaecigedmaaGreatDoor
open Go.Vc

end Go.Proofs.YtcigiaecigedmaaGreatDoor
