/- The answers that the document fixes are reckoned. No condition. -/
import Derived.Test.YtagjgpkomcmkbaaGreatDoorBase
set_option maxRecDepth 100000
namespace Go.Proofs.YtagjgpkomcmkbaaGreatDoor
open Go Go.Scr
theorem awake_run : (callG irT gT natT 10000 60 false (.fn 9) [] ⟨[], [], 0⟩).map (·.1) = some (.bool true) := by kernel_rfl
end Go.Proofs.YtagjgpkomcmkbaaGreatDoor
