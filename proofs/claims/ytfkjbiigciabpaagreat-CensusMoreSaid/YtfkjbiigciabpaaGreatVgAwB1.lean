/- The example of law 36, its making. No condition. -/
import Derived.Test.YtfkjbiigciabpaaGreatVgStB
namespace Go.Proofs
open Go.Vg
theorem awB1 : walkN Tryz.G (wrF Tryz.G.ty) Tryz.ct 2 (1000 + 2) (fnB Tryz.G 70).body (SL.frame [] (fnB Tryz.G 70).ntmps) = some stB1 := by kernel_rfl
end Go.Proofs
