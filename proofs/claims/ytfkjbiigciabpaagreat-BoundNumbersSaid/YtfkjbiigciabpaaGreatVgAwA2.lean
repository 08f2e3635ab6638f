/- The example of law 30, its first recovery. No condition. -/
import Derived.Test.YtfkjbiigciabpaaGreatVgStA
namespace Go.Proofs
open Go.Vg
theorem awA2 : walkN Tryz.G (wrF Tryz.G.ty) Tryz.ct 2 1000 (tlC 3 (fnB Tryz.G 48).body) stA1 = some stA2 := by kernel_rfl
end Go.Proofs
