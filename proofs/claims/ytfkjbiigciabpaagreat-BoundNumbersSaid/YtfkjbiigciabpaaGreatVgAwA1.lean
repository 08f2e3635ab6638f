/- The example of law 30, its making. No condition. -/
import Derived.Test.YtfkjbiigciabpaaGreatVgStA
namespace Go.Proofs
open Go.Vg
theorem awA1 : walkN Tryz.G (wrF Tryz.G.ty) Tryz.ct 3 (1000 + 2) (fnB Tryz.G 48).body (SL.frame [] (fnB Tryz.G 48).ntmps) = some stA1 := by kernel_rfl
end Go.Proofs
