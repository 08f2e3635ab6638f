/- The example of law 36, all behind its first recovery; and the whole of it: it returns true. No condition. -/
import Derived.Test.YtfkjbiigciabpaaGreatVgStB
import Derived.Test.YtfkjbiigciabpaaGreatVgAwB1
import Derived.Test.YtfkjbiigciabpaaGreatVgAwB2
namespace Go.Proofs
open Go.Vg
theorem awB3 : restT Tryz.G 70 (exec Tryz.G (wrF Tryz.G.ty) Tryz.ct 1000 (tlC 2 (tlC 2 (fnB Tryz.G 70).body)) stB2) = true := by kernel_rfl
theorem awB : True0 Tryz.prog 70 := true0_of_exec (fuel := 1000 + 2 + 2) Tryz.G_ok Tryz.W Tryz.T (isT_cut2 (by kernel_rfl) awB1 awB2 awB3)
end Go.Proofs
