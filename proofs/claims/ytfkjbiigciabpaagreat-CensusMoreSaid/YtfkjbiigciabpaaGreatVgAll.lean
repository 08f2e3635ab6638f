/- What the whole program is, as far as every row asks it. No condition. -/
import Derived.Test.YtfkjbiigciabpaaGreatRows
import Derived.Test.YtfkjbiigciabpaaGreatVgFacts
namespace Go.Proofs.YtfkjbiigciabpaaGreat
open Go.ChangeShapes Go.WideShapes Go.ChangeAt Go.RowKit Go.Vg
theorem own : ownKnob Tryz.prog.godebug = none := by kernel_rfl
theorem laidOut : laidOutB Tryz.prog = true := by kernel_rfl
theorem rowed : mapsRowed Tryz.prog = true := by kernel_rfl
theorem stops0 : Tryz.prog.stops = [] := by kernel_rfl
theorem knobs0 : Tryz.prog.stopKnobs = [] := by kernel_rfl
theorem keys0 : Rows.boundNumbersRow.plainKeys = Tryz.prog.plainKeys := by kernel_rfl
theorem heard0 : Tryz.prog.stopsHeard = true := by kernel_rfl
theorem may0 : Tryz.prog.mayEnter = true := by kernel_rfl
theorem lifted0 : Rows.boundNumbersRow.lifted = Tryz.prog.liftsFinal := by kernel_rfl
theorem make0 : Tryz.prog.make = some Rows.boundNumbersRow.make := by kernel_rfl
end Go.Proofs.YtfkjbiigciabpaaGreat
