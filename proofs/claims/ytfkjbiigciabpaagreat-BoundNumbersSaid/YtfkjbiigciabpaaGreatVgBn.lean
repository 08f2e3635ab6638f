/- BoundNumbers: for every config the law returns true; the config reads behind the call as before. Conditions: none beyond the row's own. -/
import Derived.Test.YtfkjbiigciabpaaGreatRows
import Derived.Test.YtfkjbiigciabpaaGreatVgPlain
import Derived.Test.YtfkjbiigciabpaaGreatVgAll
import Derived.Test.YtfkjbiigciabpaaGreatVgBnF
import Derived.Test.YtfkjbiigciabpaaGreatVgAwA3
namespace Go.Proofs.YtfkjbiigciabpaaGreat
open Go.ChangeShapes Go.WideShapes Go.ChangeAt Go.RowKit Go.Vg

noncomputable def ctBn : CT := ctOf [(48, trueT)]
theorem ctBn_ok : ∀ F, SoundT (I2 sumF) Tryz.prog F ctBn := ctOf_sound (fun p hp => by
  simp only [List.mem_cons, List.not_mem_nil, or_false] at hp
  subst hp
  exact fun F => trueT_sound awA)

theorem bn_walk (ns : List Int) (hn : ns.length = 4) (hr : ∀ (i : Nat) (k : IntKind) (n : Int), [IntKind.i64, .i64, .i64, .i64][i]? = some k → ns[i]? = some n → k.has n) (w : World) :
    Calls Tryz.prog 7 #[.agg (List.zipWith Value.int [.i64, .i64, .i64, .i64] ns).toArray] w fun e w' => e = .returned (.bool true) ∧ Only w w' := by
  have h := walk_of_view (I := I2 sumF) (fuel := 100000) (n := 4) (ns := ns) (g := 7) (args := [.agg [.int .i64 (.var 0), .int .i64 (.var 1), .int .i64 (.var 2), .int .i64 (.var 3)]]) Tryz.G_ok Tryz.W ctBn_ok
    (vs := [(.bool (.lit true), [.cond (.lss (.var 0) (.lit 1)) true]),
    (.bool (.lit true), [.cond (.lss (.lit 64) (.var 0)) true, .cond (.lss (.var 0) (.lit 1)) false]),
    (.bool (.lit true), [.cond (.lss (.var 1) (.lit 1)) true, .cond (.lss (.lit 64) (.var 0)) false, .cond (.lss (.var 0) (.lit 1)) false]),
    (.bool (.lit true), [.cond (.lss (.lit 65536) (.var 1)) true, .cond (.lss (.var 1) (.lit 1)) false, .cond (.lss (.lit 64) (.var 0)) false, .cond (.lss (.var 0) (.lit 1)) false]),
    (.bool (.lit true), [.cond (.lss (.var 2) (.lit 1)) true, .cond (.lss (.lit 65536) (.var 1)) false, .cond (.lss (.var 1) (.lit 1)) false, .cond (.lss (.lit 64) (.var 0)) false, .cond (.lss (.var 0) (.lit 1)) false]),
    (.bool (.lit true), [.cond (.lss (.lit 64) (.var 2)) true, .cond (.lss (.var 2) (.lit 1)) false, .cond (.lss (.lit 65536) (.var 1)) false, .cond (.lss (.var 1) (.lit 1)) false, .cond (.lss (.lit 64) (.var 0)) false, .cond (.lss (.var 0) (.lit 1)) false]),
    (.bool (.lit true), [.cond (.lss (.var 3) (.lit 1)) true, .cond (.lss (.lit 64) (.var 2)) false, .cond (.lss (.var 2) (.lit 1)) false, .cond (.lss (.lit 65536) (.var 1)) false, .cond (.lss (.var 1) (.lit 1)) false, .cond (.lss (.lit 64) (.var 0)) false, .cond (.lss (.var 0) (.lit 1)) false]),
    (.bool (.lit true), [.cond (.lss (.lit 64) (.var 3)) true, .cond (.lss (.var 3) (.lit 1)) false, .cond (.lss (.lit 64) (.var 2)) false, .cond (.lss (.var 2) (.lit 1)) false, .cond (.lss (.lit 65536) (.var 1)) false, .cond (.lss (.var 1) (.lit 1)) false, .cond (.lss (.lit 64) (.var 0)) false, .cond (.lss (.var 0) (.lit 1)) false]),
    (.bool (.not (.lss (.bin .mul .i64 (.lit 160) (.bin .add .i64 (.var 1) (.bin .mul .i64 (.var 0) (.var 2)))) (.bin .add .i64 (.bin .add .i64 (.bin .add .i64 (.bin .add .i64 (.bin .mul .i64 (.lit 12) (.var 1)) (.bin .mul .i64 (.bin .mul .i64 (.lit 4) (.var 0)) (.var 2))) (.bin .mul .i64 (.lit 8) (.var 0))) (.bin .mul .i64 (.lit 4) (.var 3))) (.lit 40)))), [.cond (.lss (.lit 64) (.var 3)) false, .cond (.lss (.var 3) (.lit 1)) false, .cond (.lss (.lit 64) (.var 2)) false, .cond (.lss (.var 2) (.lit 1)) false, .cond (.lss (.lit 65536) (.var 1)) false, .cond (.lss (.var 1) (.lit 1)) false, .cond (.lss (.lit 64) (.var 0)) false, .cond (.lss (.var 0) (.lit 1)) false])])
    (by kernel_rfl) (by simp [bdL, SV.bd, IE.bd]) (fun p hp ρ hi hh => by
      simp only [List.mem_cons, List.not_mem_nil, or_false] at hp
      rcases hp with rfl | rfl | rfl | rfl | rfl | rfl | rfl | rfl | rfl
      case inr.inr.inr.inr.inr.inr.inr.inr =>
        obtain ⟨h1, h2, h3, h4, h5, h6, h7, h8, _⟩ := hh
        have h1 := of_decide_eq_false h1
        have h2 := of_decide_eq_false h2
        have h3 := of_decide_eq_false h3
        have h4 := of_decide_eq_false h4
        have h5 := of_decide_eq_false h5
        have h6 := of_decide_eq_false h6
        have h7 := of_decide_eq_false h7
        have h8 := of_decide_eq_false h8
        simp only [IE.den] at h1 h2 h3 h4 h5 h6 h7 h8
        have hb := bound_plain (ρ.i 0) (ρ.i 1) (ρ.i 2) (ρ.i 3) (by omega) (by omega) (by omega) (by omega) (by omega) (by omega) (by omega) (by omega)
        simp only [SV.den, BE.den, IE.den, hb, decide_false, Bool.not_false]
      all_goals rfl) w
  obtain ⟨a, b, c, d, rfl⟩ := len4 hn
  rw [row4] at h
  exact h

theorem bn_params : ∀ t ∈ Tryz.f7.params.toList, Tryz.prog.readableRec t = true ∧ t < Tryz.prog.types.size := fun t ht => by
  have h : Tryz.f7.params.toList.all (fun t => Tryz.prog.readableRec t && decide (t < Tryz.prog.types.size)) = true := by kernel_rfl
  have h2 := List.all_eq_true.1 h t ht
  rw [Bool.and_eq_true] at h2
  exact ⟨h2.1, of_decide_eq_true h2.2⟩

set_option maxRecDepth 100000 in
theorem bn_lifted (os : Os) (started : os.Started) (H : Type) (enc : TypeId × Value → H) :
    ReturnsInHanded {} Tryz.checked os 7 .any (Rows.boundNumbersSpec.pre6 enc Tryz.prog Tryz.f7 Rows.boundNumbersRow.domain false) (Rows.boundNumbersSpec.post enc Tryz.prog Tryz.f7 false true false false) :=
  law_lifted (C := Tryz.checked) own laidOut started (by kernel_rfl) Tryz.func7 (tb := 4) (by kernel_rfl) (by kernel_rfl) bn_params rfl (fun ds hd => by
      match ds, (show ds.length = 1 from hd) with
      | [d], _ => exact ⟨rfl, rfl, rfl⟩)
    (ChangeSpec.witness6 (enc := enc) (C := Tryz.checked) false ⟨#[], #[.agg #[.int .i64 0, .int .i64 0, .int .i64 0, .int .i64 0]], []⟩ 8 (by kernel_rfl) (by kernel_rfl) (by kernel_rfl) (by kernel_rfl))
    (fun W base args ds p hval hA _ _ => by
      have hl := (trodAll_length hA).1
      obtain ⟨args⟩ := args
      match args, (show args.length = 1 from hl) with
      | [v], _ =>
        obtain ⟨ns, rfl, hn, hr⟩ := arg_ints (P := Tryz.prog) [.i64, .i64, .i64, .i64] (by kernel_rfl) (by kernel_rfl) (by kernel_rfl) (hval 0 (Tryz.f7.params[0]!) v (by kernel_rfl) rfl)
        exact bn_walk ns hn hr W)

theorem boundNumbers_holds : Rows.BoundNumbersSaid :=
  OpenClaim.holds_of_wide 7 Tryz.f7 rfl rfl rfl rfl rfl rfl rfl ⟨rfl, rfl, rfl, rfl, rfl⟩ rfl rfl rfl rfl rfl Bn_named Tryz.func7
    (joined_of Bn_light laidOut rowed stops0 knobs0 Bn_inPlace Bn_unf Bn_rec Bn_vars keys0 heard0 may0 lifted0 make0) Bn_inst Bn_wrap (fun os started H enc _ => bn_lifted os started H enc)
end Go.Proofs.YtfkjbiigciabpaaGreat
