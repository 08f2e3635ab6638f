/- What the program is for the row censusMore: its function, and what that reaches. No condition. -/
import Derived.Test.YtfkjbiigciabpaaGreatRows
import Derived.Test.YtfkjbiigciabpaaGreatVgFacts
namespace Go.Proofs.YtfkjbiigciabpaaGreat
open Go.ChangeShapes Go.WideShapes Go.ChangeAt Go.RowKit Go.Vg
theorem Cm_named : Tryz.prog.funcNamed Rows.censusMoreRow.func = some 13 := by kernel_rfl
theorem Cm_inPlace : Rows.censusMoreRow.inPlace = Tryz.prog.inPlace 13 := by kernel_rfl
theorem Cm_unf : Rows.censusMoreRow.unfollowed = Tryz.prog.unfollowed 13 := by kernel_rfl
theorem Cm_rec : Rows.censusMoreRow.recurses = Tryz.prog.recurses 13 := by kernel_rfl
theorem Cm_vars : Rows.censusMoreRow.named = Tryz.prog.varsNamed 13 := by kernel_rfl
theorem Cm_light : lightFacts Tryz.prog Tryz.f13 Rows.censusMoreSpec Rows.censusMoreRow = true := by kernel_rfl
theorem Cm_inst : Tryz.f13.isInstance Tryz.prog Rows.censusMoreRow.origin Rows.censusMoreRow.targs := of_decide_eq_true (by kernel_rfl)
theorem Cm_wrap : Tryz.f13.isWrapper Tryz.prog Rows.censusMoreRow.wrapper Rows.censusMoreRow.mainSum := by unfold Func.isWrapper; rw [if_neg (of_decide_eq_false (by kernel_rfl))]; exact ⟨rfl, rfl⟩
end Go.Proofs.YtfkjbiigciabpaaGreat
