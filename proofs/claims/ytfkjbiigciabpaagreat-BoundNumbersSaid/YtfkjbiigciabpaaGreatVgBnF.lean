/- What the program is for the row boundNumbers: its function, and what that reaches. No condition. -/
import Derived.Test.YtfkjbiigciabpaaGreatRows
import Derived.Test.YtfkjbiigciabpaaGreatVgFacts
namespace Go.Proofs.YtfkjbiigciabpaaGreat
open Go.ChangeShapes Go.WideShapes Go.ChangeAt Go.RowKit Go.Vg
theorem Bn_named : Tryz.prog.funcNamed Rows.boundNumbersRow.func = some 7 := by kernel_rfl
theorem Bn_inPlace : Rows.boundNumbersRow.inPlace = Tryz.prog.inPlace 7 := by kernel_rfl
theorem Bn_unf : Rows.boundNumbersRow.unfollowed = Tryz.prog.unfollowed 7 := by kernel_rfl
theorem Bn_rec : Rows.boundNumbersRow.recurses = Tryz.prog.recurses 7 := by kernel_rfl
theorem Bn_vars : Rows.boundNumbersRow.named = Tryz.prog.varsNamed 7 := by kernel_rfl
theorem Bn_light : lightFacts Tryz.prog Tryz.f7 Rows.boundNumbersSpec Rows.boundNumbersRow = true := by kernel_rfl
theorem Bn_inst : Tryz.f7.isInstance Tryz.prog Rows.boundNumbersRow.origin Rows.boundNumbersRow.targs := of_decide_eq_true (by kernel_rfl)
theorem Bn_wrap : Tryz.f7.isWrapper Tryz.prog Rows.boundNumbersRow.wrapper Rows.boundNumbersRow.mainSum := by unfold Func.isWrapper; rw [if_neg (of_decide_eq_false (by kernel_rfl))]; exact ⟨rfl, rfl⟩
end Go.Proofs.YtfkjbiigciabpaaGreat
