/- The example of law 36, its first recovery. No condition. -/
import Derived.Test.YtfkjbiigciabpaaGreatVgStB
namespace Go.Proofs
open Go.Vg
theorem awB2 : walkN Tryz.G (wrF Tryz.G.ty) Tryz.ct 2 1000 (tlC 2 (fnB Tryz.G 70).body) stB1 = some stB2 := by kernel_rfl
end Go.Proofs
