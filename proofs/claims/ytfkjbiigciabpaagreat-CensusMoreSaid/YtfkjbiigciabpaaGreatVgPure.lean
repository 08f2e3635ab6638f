/- Functions of two integers that leave all that lies there as it lies: from the engine's walk of their body, and as contracts in other walks. Conditions: those of the walk. -/
import Derived.Test.YtfkjbiigciabpaaGreatVgSound
import Derived.Test.YtfkjbiigciabpaaGreatVgWr3
import Derived.Test.YtfkjbiigciabpaaGreatVgFastW
namespace Go.Vg

/-- What of integers the facts by number mean. -/
def I2 (F2 : Nat → Int → Int → Int) : Interp Unit where
  hp _ _ _ _ _ _ _ := False
  fc p is _ _ _ _ := match is with | [r, a, b] => r = F2 p a b | _ => False

/-- All that lay there lies there still. -/
structure Only (w w' : World) : Prop where
  heap : ∀ b, b < w.heap.size → w'.heap[b]? = w.heap[b]?
  size : w.heap.size ≤ w'.heap.size
  os : w'.os = w.os
  output : w'.output = w.output
  tape : w'.tape = w.tape

def Pure2 (P : Program) (g : Nat) (ka kb kr : IntKind) (f : Int → Int → Int) : Prop :=
  (∃ fn : Func, P.funcs[g]? = some fn ∧ fn.body.isSome ∧ fn.name ≠ "runtime.NumGoroutine") ∧
  ∀ (x y : Int) (w : World), CallsIn Fence.wide 0 P g #[.int ka x, .int kb y] w fun e w' => e = .returned (.int kr (f x y)) ∧ Only w w'

def binT (p : Nat) (ka kb kr : IntKind) (f : Int → Int → Int) : List SV → SS → Option COuts := fun args S =>
  match args with
  | [.int k (.lit x), .int k' (.lit y)] => whenB (IntKind.beq k ka && IntKind.beq k' kb) (some [(some (.int kr (.lit (f x y))), S)])
  | [.int k a, .int k' b] => whenB (IntKind.beq k ka && IntKind.beq k' kb) (some [(some (.int kr (.var S.next)), { S with path := .fact p [.var S.next, a, b] [] [] [] [] :: S.path, next := S.next + 1 })])
  | _ => none

section
variable {F2 : Nat → Int → Int → Int} {P : Program} {ρ : Env Unit}

theorem HSat.only {U : Type} {I : Interp U} {ρ : Env U} {F : Fr} {H : Tr Ch} {w w' : World} {hp : Nat → PHeap} (hs : HSat I ρ F H w hp) (ho : Only w w') : HSat I ρ F H w' hp := by
  have lt : ∀ {j : Nat} {o' : Obj}, w.heap[j]? = some o' → j < w.heap.size := fun h => (Array.getElem?_eq_some_iff.1 h).1
  refine ⟨hs.sat, hs.disj, fun n c b o h1 h2 => ?_, hs.off, fun b hb => ?_, Nat.le_trans hs.grow ho.size, ho.os.trans hs.os, ho.output.trans hs.output, ho.tape.trans hs.tape⟩
  · have := hs.inw n c b o h1 h2
    rw [ho.heap b (lt this)]; exact this
  · obtain ⟨h1, h2⟩ := hs.frame b hb
    exact ⟨(ho.heap b h2).trans h1, Nat.lt_of_lt_of_le h2 ho.size⟩

def Env.withI {U : Type} (ρ : Env U) (n : Nat) (c : Int) : Env U := { ρ with i := fun j => if j = n then c else ρ.i j }
theorem withI_agree {U : Type} (ρ : Env U) (n : Nat) (c : Int) : Env.Agree n ρ (ρ.withI n c) :=
  ⟨fun j h => by simp [Env.withI, Nat.ne_of_lt h], fun _ _ => rfl, fun _ _ => rfl, fun _ _ => rfl, fun _ _ => rfl, fun _ _ => rfl⟩

theorem binT_sound {p g : Nat} {ka kb kr : IntKind} {f fL : Int → Int → Int} (hf : ∀ x y, fL x y = f x y) (hp2 : ∀ x y, F2 p x y = f x y) (h2 : Pure2 P g ka kb kr f) {F : Fr} :
    ∀ (args : List SV) (S : SS) (outs : COuts), binT p ka kb kr fL args S = some outs → GoodC (I2 F2) outs → bdL S.next args → ∀ (ρ : Env Unit) (w : World), PreC (I2 F2) F ρ S w →
    (∃ fn : Func, P.funcs[g]? = some fn ∧ fn.body.isSome ∧ fn.name ≠ "runtime.NumGoroutine") ∧ CallsIn Fence.wide 0 P g (denL ρ args).toArray w (PostC (I2 F2) F ρ S outs) := by
  intro args S outs h hg hb ρ w hpre
  refine ⟨h2.1, ?_⟩
  obtain ⟨hp, hh⟩ := hpre.heap
  unfold binT at h
  split at h
  case h_3 => cases h
  · rename_i k x k' y
    obtain ⟨hk, h9⟩ := whenB_some h
    clear h
    rw [Bool.and_eq_true] at hk
    have e1 := IntKind.beq_eq hk.1
    have e2 := IntKind.beq_eq hk.2
    subst e1 e2
    cases h9
    have hc := h2.2 x y w
    have ha : (denL ρ [.int k (.lit x), .int k' (.lit y)]).toArray = #[.int k x, .int k' y] := by simp [denL, SV.den, IE.den]
    rw [ha]
    refine CallsIn.mono hc fun e w' he => ?_
    exact ⟨.int kr (.lit (fL x y)), S, ρ, by simp, by rw [he.1, ← hf]; rfl, Env.Agree.refl _ _, hpre.path, hpre.bd, ⟨hp, hh.only he.2⟩, by simp [SV.bd, IE.bd], Nat.le_refl _, rfl, rfl, rfl, rfl⟩
  · rename_i k a k' b _
    obtain ⟨hk, h9⟩ := whenB_some h
    clear h
    rw [Bool.and_eq_true] at hk
    have e1 := IntKind.beq_eq hk.1
    have e2 := IntKind.beq_eq hk.2
    subst e1 e2
    cases h9
    have hc := h2.2 (a.den ρ) (b.den ρ) w
    have ha : (denL ρ [.int k a, .int k' b]).toArray = #[.int k (a.den ρ), .int k' (b.den ρ)] := by simp [denL, SV.den]
    rw [ha]
    simp only [bdL, SV.bd] at hb
    refine CallsIn.mono hc fun e w' he => ?_
    have hag := withI_agree ρ S.next (f (a.den ρ) (b.den ρ))
    have hi : (ρ.withI S.next (f (a.den ρ) (b.den ρ))).i S.next = f (a.den ρ) (b.den ρ) := by simp [Env.withI]
    refine ⟨_, _, ρ.withI S.next (f (a.den ρ) (b.den ρ)), List.mem_singleton.2 rfl, ?_, hag, ⟨?_, holds_congr hag hpre.bd.path hpre.path⟩, ?_, ⟨hp, HSat.congr hag hpre.bd.hp (hh.only he.2)⟩, by simp [SV.bd, IE.bd], Nat.le_succ _, rfl, rfl, rfl, rfl⟩
    · rw [he.1]; simp [SV.den, IE.den, hi]
    · show IE.den _ (.var S.next) = F2 p (IE.den _ a) (IE.den _ b)
      rw [hp2, ← IE.den_congr hag a hb.1, ← IE.den_congr hag b hb.2.1]
      exact hi
    · refine ⟨hpre.bd.tm.mono (Nat.le_succ _), hpre.bd.hp.mono (Nat.le_succ _), fun q hq => ?_, fun d hd => Nat.lt_succ_of_lt (hpre.bd.df d hd), fun d hd => Nat.lt_succ_of_lt (hpre.bd.ro d hd)⟩
      cases hq with
      | head =>
        refine ⟨fun e he => ?_, fun e he => (by cases he), fun e he => (by cases he), fun e he => (by cases he), trivial⟩
        simp only [List.mem_cons, List.not_mem_nil, or_false] at he
        rcases he with rfl | rfl | rfl
        · exact Nat.lt_succ_self _
        · exact IE.bd_mono (Nat.le_succ _) _ hb.1
        · exact IE.bd_mono (Nat.le_succ _) _ hb.2.1
      | tail _ hq => exact PI.bd_mono (Nat.le_succ _) q (hpre.bd.path q hq)

/-- A state with nothing in it but two numbers. -/
def SL : SS := { tm := .lf, nt := 0, df := [], hp := .lf, path := [], next := 2, ro := none }
def Fall (w : World) : Fr := ⟨fun b => b < w.heap.size, w⟩

theorem preC_SL {I : Interp Unit} (ρ : Env Unit) (w : World) : PreC I (Fall w) ρ SL w := by
  refine ⟨⟨fun t v h => (by cases h), fun m c h => (by cases h), fun p h => (by cases h), fun d h => (by cases h), fun d h => (by cases h)⟩, trivial, ⟨fun _ _ => none, ?_⟩⟩
  refine ⟨fun n c h => (by cases h), fun n m c d b o o' _ h => (by cases h), fun n c b o h => (by cases h), fun n c b o h => (by cases h), fun b hb => ⟨rfl, hb⟩, Nat.le_refl _, rfl, rfl, rfl⟩

theorem pure2_of_exec {I : Interp Unit} {G : GT} (hG : GOk P G) {wr : SS → Op → Option (Option SV × SS)} (hW : ∀ F, SoundW I P F wr) {ct : CT} (hT : ∀ F, SoundT I P F ct) {fuel g : Nat} {ka kb kr : IntKind} {outs : COuts}
    (h : inl G (exec G wr ct fuel) g [.int ka (.var 0), .int kb (.var 1)] SL = some outs) (hg : GoodC I outs) {f : Int → Int → Int}
    (hv : ∀ v S', (some v, S') ∈ outs → ∀ ρ : Env Unit, holds I ρ S'.path → v.den ρ = .int kr (f (ρ.i 0) (ρ.i 1))) : Pure2 P g ka kb kr f := by
  have hfn : ∃ i, G.fn g = some i := by
    unfold inl at h
    split at h
    · rename_i fi hfi; exact ⟨fi, hfi⟩
    · cases h
  obtain ⟨i, hi⟩ := hfn
  obtain ⟨fn, q1, q2, q3, q4, q5⟩ := hG.fn g i hi
  refine ⟨⟨fn, q1, by rw [q4]; rfl, q5⟩, fun x y w => ?_⟩
  let ρ : Env Unit := { i := fun j => if j = 0 then x else y, b := fun _ => false, k := fun _ => 0, v := fun _ => .nilIface, u := fun _ => (), r := fun _ => [] }
  have hc := (inl_sound hG (exec_sound hG hW hT fuel (Fall w)) g _ SL outs h hg (by simp [bdL, SV.bd, IE.bd, SL]) ρ w (preC_SL ρ w)).2
  have ha : (denL ρ [.int ka (.var 0), .int kb (.var 1)]).toArray = #[.int ka x, .int kb y] := by simp [denL, SV.den, IE.den, ρ]
  rw [ha] at hc
  refine CallsIn.mono hc fun e w' he => ?_
  obtain ⟨v, S', ρ', hm, hr, hag, hpath, hbd, ⟨hp, hh⟩, _⟩ := he.ex
  refine ⟨?_, ⟨fun b hb => (hh.frame b hb).1, hh.grow, hh.os, hh.output, hh.tape⟩⟩
  rw [hr, hv v S' hm ρ' hpath, ← hag.i 0 (by simp [SL]), ← hag.i 1 (by simp [SL])]
  simp [ρ]

end
end Go.Vg
