/- The sums of the program: what a bit, a byte and a word turn a state into; contracts of two integers out of a walk's view. Conditions: those of the walk. -/
import Derived.Test.YtfkjbiigciabpaaGreatVgPure
namespace Go.Vg

def bitL (s b : Int) : Int := cond (ieq (foldI .and .u32 (foldI .xor .u32 s b) 1) 1) (foldI .xor .u32 (foldI .shr .u32 s 1) 2197175160) (foldI .shr .u32 s 1)
def byteL (s b : Int) : Int :=
  bitL (bitL (bitL (bitL (bitL (bitL (bitL (bitL s (wrapF .u32 (foldI .shr .u8 b 0))) (wrapF .u32 (foldI .shr .u8 b 1))) (wrapF .u32 (foldI .shr .u8 b 2))) (wrapF .u32 (foldI .shr .u8 b 3)))
    (wrapF .u32 (foldI .shr .u8 b 4))) (wrapF .u32 (foldI .shr .u8 b 5))) (wrapF .u32 (foldI .shr .u8 b 6))) (wrapF .u32 (foldI .shr .u8 b 7))
def wordL (s w : Int) : Int :=
  byteL (byteL (byteL (byteL (byteL (byteL (byteL (byteL s (wrapF .u8 (foldI .shr .u64 w 0))) (wrapF .u8 (foldI .shr .u64 w 8))) (wrapF .u8 (foldI .shr .u64 w 16))) (wrapF .u8 (foldI .shr .u64 w 24)))
    (wrapF .u8 (foldI .shr .u64 w 32))) (wrapF .u8 (foldI .shr .u64 w 40))) (wrapF .u8 (foldI .shr .u64 w 48))) (wrapF .u8 (foldI .shr .u64 w 56))

def sumF (p : Nat) : Int → Int → Int :=
  match p with
  | 0 => bitL
  | 1 => byteL
  | _ => wordL

def ctOf (l : List (Nat × (List SV → SS → Option COuts))) : CT := fun g =>
  match l with
  | [] => none
  | (h, t) :: l => cond (Nat.beq g h) (some t) (ctOf l g)

theorem ctOf_sound {U : Type} {I : Interp U} {P : Program} {l : List (Nat × (List SV → SS → Option COuts))} (h : ∀ p ∈ l, ∀ F, ∀ (args : List SV) (S : SS) (outs : COuts), p.2 args S = some outs → GoodC I outs → bdL S.next args → ∀ (ρ : Env U) (w : World), PreC I F ρ S w →
    (∃ fn : Func, P.funcs[p.1]? = some fn ∧ fn.body.isSome ∧ fn.name ≠ "runtime.NumGoroutine") ∧ CallsIn Fence.wide 0 P p.1 (denL ρ args).toArray w (PostC I F ρ S outs)) : ∀ F, SoundT I P F (ctOf l) := by
  intro F g t hg
  induction l with
  | nil => cases hg
  | cons p l ih =>
    obtain ⟨k, u⟩ := p
    simp only [ctOf] at hg
    cases hk : Nat.beq g k with
    | true =>
      rw [hk] at hg
      cases hg
      have := Nat.eq_of_beq_eq_true hk
      subst this
      exact h (g, t) (by simp) F
    | false =>
      rw [hk] at hg
      exact ih (fun q hq => h q (by simp [hq])) hg

theorem pure2_of_view {P : Program} {I : Interp Unit} {G : GT} (hG : GOk P G) {wr : SS → Op → Option (Option SV × SS)} (hW : ∀ F, SoundW I P F wr) {ct : CT} (hT : ∀ F, SoundT I P F ct) {fuel g : Nat} {ka kb kr : IntKind}
    {vs : List (SV × List PI)} (h : (inl G (exec G wr ct fuel) g [.int ka (.var 0), .int kb (.var 1)] SL).map (fun l => l.map fun p => (p.1, p.2.path)) = some (vs.map fun p => (some p.1, p.2))) {f : Int → Int → Int}
    (hv : ∀ p ∈ vs, ∀ ρ : Env Unit, holds I ρ p.2 → p.1.den ρ = .int kr (f (ρ.i 0) (ρ.i 1))) : Pure2 P g ka kb kr f := by
  obtain ⟨outs, ho, hm⟩ := Option.map_eq_some_iff.1 h
  refine pure2_of_exec hG hW hT ho (fun S hS => ?_) (fun v S' hS ρ hh => ?_)
  · have : ((none : Option SV), S.path) ∈ vs.map fun p => (some p.1, p.2) := by rw [← hm]; exact List.mem_map.2 ⟨_, hS, rfl⟩
    obtain ⟨q, _, hq⟩ := List.mem_map.1 this
    cases hq
  · have : (some v, S'.path) ∈ vs.map fun p => (some p.1, p.2) := by rw [← hm]; exact List.mem_map.2 ⟨_, hS, rfl⟩
    obtain ⟨q, hq, he⟩ := List.mem_map.1 this
    simp only [Prod.mk.injEq, Option.some.injEq] at he
    rw [← he.1]
    exact hv q hq ρ (by rw [he.2]; exact hh)

end Go.Vg
