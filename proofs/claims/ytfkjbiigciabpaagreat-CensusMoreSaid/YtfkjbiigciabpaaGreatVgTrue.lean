/- Functions of nothing that return true and leave all that lies there as it lies: from the engine's walk of their body, and as contracts in other walks. Conditions: those of the walk. -/
import Derived.Test.YtfkjbiigciabpaaGreatVgPure
namespace Go.Vg

def isT : Option COuts → Bool
  | some [(some (.bool (.lit true)), _)] => true
  | _ => false

def True0 (P : Program) (g : Nat) : Prop :=
  (∃ fn : Func, P.funcs[g]? = some fn ∧ fn.body.isSome ∧ fn.name ≠ "runtime.NumGoroutine") ∧
  ∀ w : World, CallsIn Fence.wide 0 P g #[] w fun e w' => e = .returned (.bool true) ∧ Only w w'

def trueT : List SV → SS → Option COuts := fun args S =>
  match args with
  | [] => some [(some (.bool (.lit true)), S)]
  | _ => none

section
variable {P : Program} {I : Interp Unit}

theorem trueT_sound {g : Nat} (h2 : True0 P g) {F : Fr} :
    ∀ (args : List SV) (S : SS) (outs : COuts), trueT args S = some outs → GoodC I outs → bdL S.next args → ∀ (ρ : Env Unit) (w : World), PreC I F ρ S w →
    (∃ fn : Func, P.funcs[g]? = some fn ∧ fn.body.isSome ∧ fn.name ≠ "runtime.NumGoroutine") ∧ CallsIn Fence.wide 0 P g (denL ρ args).toArray w (PostC I F ρ S outs) := by
  intro args S outs h hg hb ρ w hpre
  refine ⟨h2.1, ?_⟩
  obtain ⟨hp, hh⟩ := hpre.heap
  unfold trueT at h
  split at h
  case h_2 => cases h
  cases h
  refine CallsIn.mono (h2.2 w) fun e w' he => ?_
  exact ⟨.bool (.lit true), S, ρ, by simp, by rw [he.1]; rfl, Env.Agree.refl _ _, hpre.path, hpre.bd, ⟨hp, hh.only he.2⟩, by simp [SV.bd, BE.bd], Nat.le_refl _, rfl, rfl, rfl, rfl⟩

theorem true0_of_exec {G : GT} (hG : GOk P G) {wr : SS → Op → Option (Option SV × SS)} (hW : ∀ F, SoundW I P F wr) {ct : CT} (hT : ∀ F, SoundT I P F ct) {fuel g : Nat}
    (h : isT (inl G (exec G wr ct fuel) g [] SL) = true) : True0 P g := by
  obtain ⟨outs, ho⟩ : ∃ outs, inl G (exec G wr ct fuel) g [] SL = some outs := by
    cases hi : inl G (exec G wr ct fuel) g [] SL with
    | none => rw [hi] at h; cases h
    | some outs => exact ⟨outs, rfl⟩
  have hs : ∃ S', outs = [(some (.bool (.lit true)), S')] := by
    rw [ho] at h
    unfold isT at h
    split at h
    · rename_i S' he; cases he; exact ⟨S', rfl⟩
    · cases h
  obtain ⟨S1, rfl⟩ := hs
  have hfn : ∃ i, G.fn g = some i := by
    unfold inl at ho
    split at ho
    · rename_i fi hfi; exact ⟨fi, hfi⟩
    · cases ho
  obtain ⟨i, hi⟩ := hfn
  obtain ⟨fn, q1, q2, q3, q4, q5⟩ := hG.fn g i hi
  refine ⟨⟨fn, q1, by rw [q4]; rfl, q5⟩, fun w => ?_⟩
  let ρ : Env Unit := { i := fun _ => 0, b := fun _ => false, k := fun _ => 0, v := fun _ => .nilIface, u := fun _ => (), r := fun _ => [] }
  have hc := (inl_sound hG (exec_sound hG hW hT fuel (Fall w)) g _ SL _ ho (fun S hS => by simp at hS) (by simp [bdL]) ρ w (preC_SL ρ w)).2
  have ha : (denL ρ []).toArray = #[] := by simp [denL]
  rw [ha] at hc
  refine CallsIn.mono hc fun e w' he => ?_
  obtain ⟨v, S', ρ', hm, hr, hag, hpath, hbd, ⟨hp, hh⟩, _⟩ := he.ex
  simp only [List.mem_singleton, Prod.mk.injEq, Option.some.injEq] at hm
  refine ⟨?_, ⟨fun b hb => (hh.frame b hb).1, hh.grow, hh.os, hh.output, hh.tape⟩⟩
  rw [hr, hm.1]; rfl
end
end Go.Vg
