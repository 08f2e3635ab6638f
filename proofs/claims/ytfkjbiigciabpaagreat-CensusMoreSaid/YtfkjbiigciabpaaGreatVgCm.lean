/- CensusMore: for every two rows of seven numbers of 32 bits the law returns true; both read behind the call as before. Conditions: none beyond the row's own. -/
import Derived.Test.YtfkjbiigciabpaaGreatRows
import Derived.Test.YtfkjbiigciabpaaGreatVgPlain
import Derived.Test.YtfkjbiigciabpaaGreatVgAll
import Derived.Test.YtfkjbiigciabpaaGreatVgCmF
import Derived.Test.YtfkjbiigciabpaaGreatVgAwB3
namespace Go.Proofs.YtfkjbiigciabpaaGreat
open Go.ChangeShapes Go.WideShapes Go.ChangeAt Go.RowKit Go.Vg

noncomputable def ctCm : CT := ctOf [(70, trueT)]
theorem ctCm_ok : ∀ F, SoundT (I2 sumF) Tryz.prog F ctCm := ctOf_sound (fun p hp => by
  simp only [List.mem_cons, List.not_mem_nil, or_false] at hp
  subst hp
  exact fun F => trueT_sound awB)

def ks7 : List IntKind := [.u32, .u32, .u32, .u32, .u32, .u32, .u32]

set_option maxRecDepth 100000 in
theorem cm_walk (xs ys : List Int) (ha : xs.length = 7) (hb : ys.length = 7) (h0 : ∀ (i : Nat) (k : IntKind) (n : Int), ks7[i]? = some k → xs[i]? = some n → k.has n) (h1 : ∀ (i : Nat) (k : IntKind) (n : Int), ks7[i]? = some k → ys[i]? = some n → k.has n) (w : World) :
    Calls Tryz.prog 13 #[.agg (List.zipWith Value.int ks7 xs).toArray, .agg (List.zipWith Value.int ks7 ys).toArray] w fun e w' => e = .returned (.bool true) ∧ Only w w' := by
  have hr : ∀ j, j < 14 → 0 ≤ (xs ++ ys).getD j 0 ∧ (xs ++ ys).getD j 0 ≤ 4294967295 := fun j hj => by
    have hk : ∀ i, i < 7 → ks7[i]? = some .u32 := fun i hi => by
      match i, hi with
      | 0, _ | 1, _ | 2, _ | 3, _ | 4, _ | 5, _ | 6, _ => rfl
    have hu : ∀ n : Int, IntKind.u32.has n → 0 ≤ n ∧ n ≤ 4294967295 := fun n h => by
      simp only [IntKind.has, IntKind.min, IntKind.max, IntKind.signed, IntKind.bits] at h
      simp at h; omega
    rw [List.getD_eq_getElem?_getD]
    by_cases h : j < 7
    · rw [List.getElem?_append_left (by omega), List.getElem?_eq_getElem (by omega : j < xs.length)]
      exact hu _ (h0 j _ _ (hk j h) (List.getElem?_eq_getElem (by omega : j < xs.length)))
    · rw [List.getElem?_append_right (by omega), List.getElem?_eq_getElem (by omega : j - xs.length < ys.length)]
      exact hu _ (h1 (j - xs.length) _ _ (hk _ (by omega)) (List.getElem?_eq_getElem (by omega : j - xs.length < ys.length)))
  have h := walk_of_view (I := I2 sumF) (fuel := 100000) (n := 14) (ns := xs ++ ys) (g := 13) (args := [.agg [.int .u32 (.var 0), .int .u32 (.var 1), .int .u32 (.var 2), .int .u32 (.var 3), .int .u32 (.var 4), .int .u32 (.var 5), .int .u32 (.var 6)],
      .agg [.int .u32 (.var 7), .int .u32 (.var 8), .int .u32 (.var 9), .int .u32 (.var 10), .int .u32 (.var 11), .int .u32 (.var 12), .int .u32 (.var 13)]]) Tryz.G_ok Tryz.W ctCm_ok
    (vs := [(.bool (.lit false), [.cond (.eql (.bin .sub .i64 (.bin .add .i64 (.bin .add .i64 (.bin .add .i64 (.bin .add .i64 (.bin .add .i64 (.bin .add .i64 (.bin .add .i64 (.lit 1) (.wrap .i64 (.var 7))) (.wrap .i64 (.var 8))) (.lit 0)) (.lit 0)) (.lit 0)) (.wrap .i64 (.var 9))) (.wrap .i64 (.var 10))) (.bin .add .i64 (.bin .add .i64 (.bin .add .i64 (.bin .add .i64 (.bin .add .i64 (.bin .add .i64 (.bin .add .i64 (.lit 1) (.wrap .i64 (.var 0))) (.wrap .i64 (.var 1))) (.wrap .i64 (.var 2))) (.wrap .i64 (.var 3))) (.wrap .i64 (.var 4))) (.lit 0)) (.lit 0))) (.bin .sub .i64 (.bin .add .i64 (.bin .add .i64 (.bin .add .i64 (.bin .add .i64 (.bin .add .i64 (.bin .add .i64 (.bin .add .i64 (.lit 1) (.bin .sub .i64 (.wrap .i64 (.var 7)) (.wrap .i64 (.var 0)))) (.bin .sub .i64 (.wrap .i64 (.var 8)) (.wrap .i64 (.var 1)))) (.bin .sub .i64 (.lit 0) (.wrap .i64 (.var 2)))) (.bin .sub .i64 (.lit 0) (.wrap .i64 (.var 3)))) (.bin .sub .i64 (.lit 0) (.wrap .i64 (.var 4)))) (.bin .sub .i64 (.wrap .i64 (.var 9)) (.lit 0))) (.bin .sub .i64 (.wrap .i64 (.var 10)) (.lit 0))) (.lit 1))) false]),
    (.bool (.lit false), [.cond (.eql (.bin .sub .i64 (.wrap .i64 (.var 9)) (.lit 0)) (.wrap .i64 (.var 9))) false, .cond (.eql (.bin .sub .i64 (.bin .add .i64 (.bin .add .i64 (.bin .add .i64 (.bin .add .i64 (.bin .add .i64 (.bin .add .i64 (.bin .add .i64 (.lit 1) (.wrap .i64 (.var 7))) (.wrap .i64 (.var 8))) (.lit 0)) (.lit 0)) (.lit 0)) (.wrap .i64 (.var 9))) (.wrap .i64 (.var 10))) (.bin .add .i64 (.bin .add .i64 (.bin .add .i64 (.bin .add .i64 (.bin .add .i64 (.bin .add .i64 (.bin .add .i64 (.lit 1) (.wrap .i64 (.var 0))) (.wrap .i64 (.var 1))) (.wrap .i64 (.var 2))) (.wrap .i64 (.var 3))) (.wrap .i64 (.var 4))) (.lit 0)) (.lit 0))) (.bin .sub .i64 (.bin .add .i64 (.bin .add .i64 (.bin .add .i64 (.bin .add .i64 (.bin .add .i64 (.bin .add .i64 (.bin .add .i64 (.lit 1) (.bin .sub .i64 (.wrap .i64 (.var 7)) (.wrap .i64 (.var 0)))) (.bin .sub .i64 (.wrap .i64 (.var 8)) (.wrap .i64 (.var 1)))) (.bin .sub .i64 (.lit 0) (.wrap .i64 (.var 2)))) (.bin .sub .i64 (.lit 0) (.wrap .i64 (.var 3)))) (.bin .sub .i64 (.lit 0) (.wrap .i64 (.var 4)))) (.bin .sub .i64 (.wrap .i64 (.var 9)) (.lit 0))) (.bin .sub .i64 (.wrap .i64 (.var 10)) (.lit 0))) (.lit 1))) true]),
    (.bool (.lit false), [.cond (.eql (.bin .sub .i64 (.wrap .i64 (.var 0)) (.wrap .i64 (.var 7))) (.bin .sub .i64 (.lit 0) (.bin .sub .i64 (.wrap .i64 (.var 7)) (.wrap .i64 (.var 0))))) false, .cond (.eql (.bin .sub .i64 (.wrap .i64 (.var 9)) (.lit 0)) (.wrap .i64 (.var 9))) true, .cond (.eql (.bin .sub .i64 (.bin .add .i64 (.bin .add .i64 (.bin .add .i64 (.bin .add .i64 (.bin .add .i64 (.bin .add .i64 (.bin .add .i64 (.lit 1) (.wrap .i64 (.var 7))) (.wrap .i64 (.var 8))) (.lit 0)) (.lit 0)) (.lit 0)) (.wrap .i64 (.var 9))) (.wrap .i64 (.var 10))) (.bin .add .i64 (.bin .add .i64 (.bin .add .i64 (.bin .add .i64 (.bin .add .i64 (.bin .add .i64 (.bin .add .i64 (.lit 1) (.wrap .i64 (.var 0))) (.wrap .i64 (.var 1))) (.wrap .i64 (.var 2))) (.wrap .i64 (.var 3))) (.wrap .i64 (.var 4))) (.lit 0)) (.lit 0))) (.bin .sub .i64 (.bin .add .i64 (.bin .add .i64 (.bin .add .i64 (.bin .add .i64 (.bin .add .i64 (.bin .add .i64 (.bin .add .i64 (.lit 1) (.bin .sub .i64 (.wrap .i64 (.var 7)) (.wrap .i64 (.var 0)))) (.bin .sub .i64 (.wrap .i64 (.var 8)) (.wrap .i64 (.var 1)))) (.bin .sub .i64 (.lit 0) (.wrap .i64 (.var 2)))) (.bin .sub .i64 (.lit 0) (.wrap .i64 (.var 3)))) (.bin .sub .i64 (.lit 0) (.wrap .i64 (.var 4)))) (.bin .sub .i64 (.wrap .i64 (.var 9)) (.lit 0))) (.bin .sub .i64 (.wrap .i64 (.var 10)) (.lit 0))) (.lit 1))) true]),
    (.bool (.lit false), [.cond (.eql (.bin .sub .i64 (.lit 0) (.wrap .i64 (.var 13))) (.bin .sub .i64 (.lit 0) (.bin .sub .i64 (.wrap .i64 (.var 13)) (.lit 0)))) false, .cond (.eql (.bin .sub .i64 (.wrap .i64 (.var 0)) (.wrap .i64 (.var 7))) (.bin .sub .i64 (.lit 0) (.bin .sub .i64 (.wrap .i64 (.var 7)) (.wrap .i64 (.var 0))))) true, .cond (.eql (.bin .sub .i64 (.wrap .i64 (.var 9)) (.lit 0)) (.wrap .i64 (.var 9))) true, .cond (.eql (.bin .sub .i64 (.bin .add .i64 (.bin .add .i64 (.bin .add .i64 (.bin .add .i64 (.bin .add .i64 (.bin .add .i64 (.bin .add .i64 (.lit 1) (.wrap .i64 (.var 7))) (.wrap .i64 (.var 8))) (.lit 0)) (.lit 0)) (.lit 0)) (.wrap .i64 (.var 9))) (.wrap .i64 (.var 10))) (.bin .add .i64 (.bin .add .i64 (.bin .add .i64 (.bin .add .i64 (.bin .add .i64 (.bin .add .i64 (.bin .add .i64 (.lit 1) (.wrap .i64 (.var 0))) (.wrap .i64 (.var 1))) (.wrap .i64 (.var 2))) (.wrap .i64 (.var 3))) (.wrap .i64 (.var 4))) (.lit 0)) (.lit 0))) (.bin .sub .i64 (.bin .add .i64 (.bin .add .i64 (.bin .add .i64 (.bin .add .i64 (.bin .add .i64 (.bin .add .i64 (.bin .add .i64 (.lit 1) (.bin .sub .i64 (.wrap .i64 (.var 7)) (.wrap .i64 (.var 0)))) (.bin .sub .i64 (.wrap .i64 (.var 8)) (.wrap .i64 (.var 1)))) (.bin .sub .i64 (.lit 0) (.wrap .i64 (.var 2)))) (.bin .sub .i64 (.lit 0) (.wrap .i64 (.var 3)))) (.bin .sub .i64 (.lit 0) (.wrap .i64 (.var 4)))) (.bin .sub .i64 (.wrap .i64 (.var 9)) (.lit 0))) (.bin .sub .i64 (.wrap .i64 (.var 10)) (.lit 0))) (.lit 1))) true]),
    (.bool (.ite (.eql (.bin .sub .i64 (.wrap .i64 (.var 0)) (.wrap .i64 (.var 0))) (.lit 0)) (.ite (.eql (.bin .sub .i64 (.wrap .i64 (.var 1)) (.wrap .i64 (.var 1))) (.lit 0)) (.ite (.eql (.bin .sub .i64 (.wrap .i64 (.var 2)) (.wrap .i64 (.var 2))) (.lit 0)) (.ite (.eql (.bin .sub .i64 (.wrap .i64 (.var 3)) (.wrap .i64 (.var 3))) (.lit 0)) (.ite (.eql (.bin .sub .i64 (.wrap .i64 (.var 4)) (.wrap .i64 (.var 4))) (.lit 0)) (.ite (.eql (.bin .sub .i64 (.wrap .i64 (.var 6)) (.wrap .i64 (.var 6))) (.lit 0)) (.ite (.eql (.bin .sub .i64 (.wrap .i64 (.var 5)) (.wrap .i64 (.var 5))) (.lit 0)) (.lit true) (.lit false)) (.lit false)) (.lit false)) (.lit false)) (.lit false)) (.lit false)) (.lit false)), [.cond (.eql (.bin .sub .i64 (.lit 0) (.wrap .i64 (.var 13))) (.bin .sub .i64 (.lit 0) (.bin .sub .i64 (.wrap .i64 (.var 13)) (.lit 0)))) true, .cond (.eql (.bin .sub .i64 (.wrap .i64 (.var 0)) (.wrap .i64 (.var 7))) (.bin .sub .i64 (.lit 0) (.bin .sub .i64 (.wrap .i64 (.var 7)) (.wrap .i64 (.var 0))))) true, .cond (.eql (.bin .sub .i64 (.wrap .i64 (.var 9)) (.lit 0)) (.wrap .i64 (.var 9))) true, .cond (.eql (.bin .sub .i64 (.bin .add .i64 (.bin .add .i64 (.bin .add .i64 (.bin .add .i64 (.bin .add .i64 (.bin .add .i64 (.bin .add .i64 (.lit 1) (.wrap .i64 (.var 7))) (.wrap .i64 (.var 8))) (.lit 0)) (.lit 0)) (.lit 0)) (.wrap .i64 (.var 9))) (.wrap .i64 (.var 10))) (.bin .add .i64 (.bin .add .i64 (.bin .add .i64 (.bin .add .i64 (.bin .add .i64 (.bin .add .i64 (.bin .add .i64 (.lit 1) (.wrap .i64 (.var 0))) (.wrap .i64 (.var 1))) (.wrap .i64 (.var 2))) (.wrap .i64 (.var 3))) (.wrap .i64 (.var 4))) (.lit 0)) (.lit 0))) (.bin .sub .i64 (.bin .add .i64 (.bin .add .i64 (.bin .add .i64 (.bin .add .i64 (.bin .add .i64 (.bin .add .i64 (.bin .add .i64 (.lit 1) (.bin .sub .i64 (.wrap .i64 (.var 7)) (.wrap .i64 (.var 0)))) (.bin .sub .i64 (.wrap .i64 (.var 8)) (.wrap .i64 (.var 1)))) (.bin .sub .i64 (.lit 0) (.wrap .i64 (.var 2)))) (.bin .sub .i64 (.lit 0) (.wrap .i64 (.var 3)))) (.bin .sub .i64 (.lit 0) (.wrap .i64 (.var 4)))) (.bin .sub .i64 (.wrap .i64 (.var 9)) (.lit 0))) (.bin .sub .i64 (.wrap .i64 (.var 10)) (.lit 0))) (.lit 1))) true])])
    (by kernel_rfl) (by simp [bdL, SV.bd, IE.bd]) (fun p hp ρ hi hh => by
      have r : ∀ j, j < 14 → 0 ≤ ρ.i j ∧ ρ.i j ≤ 4294967295 := fun j hj => by rw [hi j hj]; exact hr j hj
      obtain ⟨a0, b0⟩ := r 0 (by omega)
      obtain ⟨a1, b1⟩ := r 1 (by omega)
      obtain ⟨a2, b2⟩ := r 2 (by omega)
      obtain ⟨a3, b3⟩ := r 3 (by omega)
      obtain ⟨a4, b4⟩ := r 4 (by omega)
      obtain ⟨a5, b5⟩ := r 5 (by omega)
      obtain ⟨a6, b6⟩ := r 6 (by omega)
      obtain ⟨a7, b7⟩ := r 7 (by omega)
      obtain ⟨a8, b8⟩ := r 8 (by omega)
      obtain ⟨a9, b9⟩ := r 9 (by omega)
      obtain ⟨a10, b10⟩ := r 10 (by omega)
      obtain ⟨a13, b13⟩ := r 13 (by omega)
      simp only [List.mem_cons, List.not_mem_nil, or_false] at hp
      rcases hp with rfl | rfl | rfl | rfl | rfl
      case inr.inr.inr.inr =>
        simp (disch := omega) only [SV.den, BE.den, IE.den, opI, Go.Vg.wrap64, Int.sub_self, decide_true, cond_true]
      all_goals
        exfalso
        have hh := hh.1
        simp (disch := omega) only [PI.holds, BE.den, IE.den, opI, Go.Vg.wrap64, decide_eq_false_iff_not] at hh
        omega) w
  obtain ⟨x0, x1, x2, x3, x4, x5, x6, rfl⟩ := len7 ha
  obtain ⟨y0, y1, y2, y3, y4, y5, y6, rfl⟩ := len7 hb
  rw [row77] at h
  exact h

theorem cm_params : ∀ t ∈ Tryz.f13.params.toList, Tryz.prog.readableRec t = true ∧ t < Tryz.prog.types.size := fun t ht => by
  have h : Tryz.f13.params.toList.all (fun t => Tryz.prog.readableRec t && decide (t < Tryz.prog.types.size)) = true := by kernel_rfl
  have h2 := List.all_eq_true.1 h t ht
  rw [Bool.and_eq_true] at h2
  exact ⟨h2.1, of_decide_eq_true h2.2⟩

set_option maxRecDepth 100000 in
theorem cm_lifted (os : Os) (started : os.Started) (H : Type) (enc : TypeId × Value → H) :
    ReturnsInHanded {} Tryz.checked os 13 .any (Rows.censusMoreSpec.pre6 enc Tryz.prog Tryz.f13 Rows.censusMoreRow.domain false) (Rows.censusMoreSpec.post enc Tryz.prog Tryz.f13 false true false false) :=
  law_lifted (C := Tryz.checked) own laidOut started (by kernel_rfl) Tryz.func13 (tb := 4) (by kernel_rfl) (by kernel_rfl) cm_params rfl (fun ds hd => by
      match ds, (show ds.length = 2 from hd) with
      | [d, d'], _ => exact ⟨rfl, rfl, rfl⟩)
    (ChangeSpec.witness6 (enc := enc) (C := Tryz.checked) false ⟨#[], #[.agg #[.int .u32 0, .int .u32 0, .int .u32 0, .int .u32 0, .int .u32 0, .int .u32 0, .int .u32 0], .agg #[.int .u32 0, .int .u32 0, .int .u32 0, .int .u32 0, .int .u32 0, .int .u32 0, .int .u32 0]], []⟩ 8 (by kernel_rfl) (by kernel_rfl) (by kernel_rfl) (by kernel_rfl))
    (fun W base args ds p hval hA _ _ => by
      have hl := (trodAll_length hA).1
      obtain ⟨args⟩ := args
      match args, (show args.length = 2 from hl) with
      | [v, v'], _ =>
        obtain ⟨ns, rfl, hn, hr⟩ := arg_ints (P := Tryz.prog) ks7 (by kernel_rfl) (by kernel_rfl) (by kernel_rfl) (hval 0 (Tryz.f13.params[0]!) v (by kernel_rfl) rfl)
        obtain ⟨ms, rfl, hm, hq⟩ := arg_ints (P := Tryz.prog) ks7 (by kernel_rfl) (by kernel_rfl) (by kernel_rfl) (hval 1 (Tryz.f13.params[1]!) v' (by kernel_rfl) rfl)
        exact cm_walk ns ms hn hm hr hq W)

theorem censusMore_holds : Rows.CensusMoreSaid :=
  OpenClaim.holds_of_wide 13 Tryz.f13 rfl rfl rfl rfl rfl rfl rfl ⟨rfl, rfl, rfl, rfl, rfl⟩ rfl rfl rfl rfl rfl Cm_named Tryz.func13
    (joined_of Cm_light laidOut rowed stops0 knobs0 Cm_inPlace Cm_unf Cm_rec Cm_vars keys0 heard0 may0 lifted0 make0) Cm_inst Cm_wrap (fun os started H enc _ => cm_lifted os started H enc)
end Go.Proofs.YtfkjbiigciabpaaGreat
