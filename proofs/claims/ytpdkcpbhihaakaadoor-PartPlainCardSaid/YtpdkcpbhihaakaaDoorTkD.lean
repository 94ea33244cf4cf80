/- The examples of chapter 16 are as they should be. No condition. -/
import Derived.Test.YtpdkcpbhihaakaaDoorTkC
namespace Go.Proofs
open Go Go.Am

def keepAll : FuncId → List Nat := fun _ => []

theorem ev8 : packOut (evF Tryd.prog (specsOf tkS2) tkPu2 tkM keepAll tkLS 60 (.fn 8) [] [] (fun o h => some (o, h))) = some (.ret (.bool true), []) := by kernel_rfl

end Go.Proofs
