/- The example of law 30, all behind its first recovery; and the whole of it: it returns true. No condition. -/
import Derived.Test.YtfkjbiigciabpaaGreatVgStA
import Derived.Test.YtfkjbiigciabpaaGreatVgAwA1
import Derived.Test.YtfkjbiigciabpaaGreatVgAwA2
namespace Go.Proofs
open Go.Vg
theorem awA3 : restT Tryz.G 48 (exec Tryz.G (wrF Tryz.G.ty) Tryz.ct 1000 (tlC 2 (tlC 3 (fnB Tryz.G 48).body)) stA2) = true := by kernel_rfl
theorem awA : True0 Tryz.prog 48 := true0_of_exec (fuel := 1000 + 2 + 3) Tryz.G_ok Tryz.W Tryz.T (isT_cut2 (by kernel_rfl) awA1 awA2 awA3)
end Go.Proofs
