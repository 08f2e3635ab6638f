/- A walk in pieces: the engine's walk of a body up to one place, and on from there. No condition. -/
import Derived.Test.YtfkjbiigciabpaaGreatVgTrue
namespace Go.Vg

section
variable (G : GT) (wr : SS → Op → Option (Option SV × SS)) (ct : CT)

/-- The state behind the first parts of a sequence, each of which has one end. -/
def walkN : Nat → Nat → Code → SS → Option SS
  | 0, _, _, S => some S
  | n + 1, f, .seq a b, S => match exec G wr ct (f + n) a S with
    | some [(.normal, T)] => walkN n f b T
    | _ => none
  | _, _, _, _ => none
end
def tlC : Nat → Code → Code
  | n + 1, .seq _ b => tlC n b
  | _, c => c
def fnB (G : GT) (g : Nat) : FI := (G.fn g).getD ⟨0, [], .skip⟩
def restT (G : GT) (g : Nat) (o : Option Outs) : Bool :=
  match o with
  | some outs => isT (inlL G.ty SL (fnB G g).results outs)
  | none => false

section
variable {G : GT} {wr : SS → Op → Option (Option SV × SS)} {ct : CT}

theorem walkN_exec : ∀ {n f : Nat} {c : Code} {S T : SS}, walkN G wr ct n f c S = some T → exec G wr ct (f + n) c S = exec G wr ct f (tlC n c) T
  | 0, f, c, S, T, h => by simp only [walkN, Option.some.injEq] at h; subst h; rfl
  | n + 1, f, .seq a b, S, T, h => by
    simp only [walkN] at h
    split at h
    · rename_i T1 h1
      have ih := walkN_exec h
      show bindS (exec G wr ct (f + n) a S) (thenS (exec G wr ct (f + n) b)) = _
      rw [h1]
      simp only [bindS, bindL, thenS, tlC, ih]
      cases exec G wr ct f (tlC n b) T with
      | none => rfl
      | some l => simp
    · cases h

theorem fnB_eq {g : Nat} (h : (G.fn g).isSome = true) : G.fn g = some (fnB G g) := by
  unfold fnB
  cases hg : G.fn g with
  | none => rw [hg] at h; cases h
  | some i => rfl

theorem isT_of_rest {f g : Nat} (hg : (G.fn g).isSome = true) (h : restT G g (exec G wr ct f (fnB G g).body (SL.frame [] (fnB G g).ntmps)) = true) : isT (inl G (exec G wr ct f) g [] SL) = true := by
  unfold inl
  rw [fnB_eq hg]
  simp only
  unfold restT at h
  split at h
  · rename_i outs ho; rw [ho]; exact h
  · cases h

theorem isT_cut2 {f g n m : Nat} {S1 S2 : SS} (hg : (G.fn g).isSome = true) (h1 : walkN G wr ct n (f + m) (fnB G g).body (SL.frame [] (fnB G g).ntmps) = some S1)
    (h2 : walkN G wr ct m f (tlC n (fnB G g).body) S1 = some S2) (h3 : restT G g (exec G wr ct f (tlC m (tlC n (fnB G g).body)) S2) = true) : isT (inl G (exec G wr ct (f + m + n)) g [] SL) = true := by
  refine isT_of_rest hg ?_
  rw [walkN_exec h1, walkN_exec h2]
  exact h3
end
end Go.Vg
