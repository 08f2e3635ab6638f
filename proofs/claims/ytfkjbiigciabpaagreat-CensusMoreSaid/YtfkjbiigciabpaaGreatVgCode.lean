/- The engine's walk of code: sequences, branches, blocks, loops, over whatever runs regions and ranges. Conditions: those of what it is handed. -/
import Derived.Test.YtfkjbiigciabpaaGreatVgWr2
import Derived.Test.YtfkjbiigciabpaaGreatVgFast
import Derived.LoopNIn
namespace Go.Vg

abbrev Outs := List (SX × SS)

def bindL : Outs → (SX → SS → Option Outs) → Option Outs
  | [], _ => some []
  | (x, S) :: l, k => match k x S with
    | some a => match bindL l k with
      | some b => some (a ++ b)
      | none => none
    | none => none
def bindS (o : Option Outs) (k : SX → SS → Option Outs) : Option Outs :=
  match o with
  | some l => bindL l k
  | none => none

/-- Go on where it has come to the end; hand on all else. -/
def thenS (k : SS → Option Outs) : SX → SS → Option Outs
  | .normal, S => k S
  | x, S => some [(x, S)]

/-- What is assumed on a way. -/
def assume (S : SS) : BE → Bool → SS
  | .not a, w => match S with | { tm, nt, hp, path, next, df, ro } => { tm, nt, hp, path := .cond a (!w) :: path, next, df, ro }
  | b, w => match S with | { tm, nt, hp, path, next, df, ro } => { tm, nt, hp, path := .cond b w :: path, next, df, ro }

def catchB (id : Nat) : SX → SS → Option Outs
  | .exit n, S => some [(cond (Nat.beq n id) .normal (.exit n), S)]
  | x, S => some [(x, S)]

def loopS (ex : SS → Option Outs) : Nat → SS → Option Outs
  | 0, _ => none
  | f + 1, S => bindS (ex S) (thenS (loopS ex f))

section
variable {U : Type} (I : Interp U) (P : Program) (F : Fr)

def marks (ρ : Env U) (l : List Nat) : List Deferred := l.map fun n => { target := .collected (ρ.k n), args := #[] }
def Fof (ρ : Env U) (ro : Option Nat) : Fence :=
  match ro with
  | none => Fence.wide
  | some n => Fence.wide.inRound (ρ.k n)

structure Pre (ρ : Env U) (S : SS) (a : Act) (w : World) : Prop where
  bd : S.Bd
  path : holds I ρ S.path
  ts : TSat ρ S.tm S.nt a.tmps
  df : a.defers = marks ρ S.df
  heap : ∃ hp, HSat I ρ F S.hp w hp

def Match : SX → Exit → Prop
  | .normal, .normal => True
  | .exit n, .exit m => n = m
  | .goto n, .goto m => n = m
  | .ret, .ret => True
  | _, _ => False

structure Post (ρ : Env U) (S : SS) (outs : Outs) (e : Exit) (a : Act) (w : World) : Prop where
  ex : ∃ x S' ρ', (x, S') ∈ outs ∧ Match x e ∧ Env.Agree S.next ρ ρ' ∧ Pre I F ρ' S' a w ∧ S.next ≤ S'.next ∧ S'.ro = S.ro

def Good (outs : Outs) : Prop := ∀ S, (SX.bad, S) ∈ outs → ∀ ρ : Env U, ¬ holds I ρ S.path

/-- A walker of code is sound. -/
def SoundX (ex : Code → SS → Option Outs) : Prop :=
  ∀ (c : Code) (S : SS) (outs : Outs), ex c S = some outs → Good I outs → ∀ (ρ : Env U) (a : Act) (w : World), Pre I F ρ S a w →
    c.wpIn (Fof ρ S.ro) 0 P (Post I F ρ S outs) a w
end

section
variable {U : Type} {I : Interp U} {P : Program} {F : Fr} {ρ ρ' : Env U}

theorem Fof_congr {n : Nat} (h : Env.Agree n ρ ρ') {ro : Option Nat} (hr : ∀ d, ro = some d → d < n) : Fof ρ ro = Fof ρ' ro := by
  cases ro with
  | none => rfl
  | some d => simp only [Fof, h.k d (hr d rfl)]
theorem Fof_fn (ρ : Env U) (ro : Option Nat) (f : FuncId) : (Fof ρ ro).fn f := by cases ro <;> trivial
theorem Fof_depth (ρ : Env U) (ro : Option Nat) : (Fof ρ ro).depth = none := by cases ro <;> rfl
theorem marks_congr {n : Nat} (h : Env.Agree n ρ ρ') {l : List Nat} (hl : ∀ d ∈ l, d < n) : marks ρ l = marks ρ' l :=
  List.map_congr_left fun d hd => by rw [h.k d (hl d hd)]

theorem bindL_mem {k : SX → SS → Option Outs} : ∀ {l outs : Outs}, bindL l k = some outs → ∀ {x S}, (x, S) ∈ l → ∃ o, k x S = some o ∧ ∀ p ∈ o, p ∈ outs
  | [], _, _, _, _, hm => by cases hm
  | (y, T) :: l, outs, h, x, S, hm => by
    simp only [bindL] at h
    split at h
    case h_2 => cases h
    rename_i a ha
    split at h
    case h_2 => cases h
    rename_i b hb
    cases h
    cases hm with
    | head => exact ⟨a, ha, fun p hp => List.mem_append_left _ hp⟩
    | tail _ hm =>
      obtain ⟨o, ho, hs⟩ := bindL_mem hb hm
      exact ⟨o, ho, fun p hp => List.mem_append_right _ (hs p hp)⟩

theorem Good.sub {o outs : Outs} (h : Good I outs) (hs : ∀ p ∈ o, p ∈ outs) : Good I o := fun S hS => h S (hs _ hS)

/-- What has come behind a first part, and then behind a second one. -/
theorem Post.bind {S : SS} {outs : Outs} {e : Exit} {a : Act} {w : World} {S' : SS} {o : Outs}
    (hag : Env.Agree S.next ρ ρ') (hn : S.next ≤ S'.next) (hro : S'.ro = S.ro) (hs : ∀ p ∈ o, p ∈ outs) (h : Post I F ρ' S' o e a w) : Post I F ρ S outs e a w := by
  obtain ⟨y, S2, ρ2, hm, hx, h2, hp, hn2, hr2⟩ := h.ex
  exact ⟨y, S2, ρ2, hs _ hm, hx, hag.trans (h2.mono hn), hp, Nat.le_trans hn hn2, hr2.trans hro⟩

theorem assume_hp (S : SS) (b : BE) (w : Bool) : (assume S b w).hp = S.hp ∧ (assume S b w).tm = S.tm ∧ (assume S b w).nt = S.nt ∧ (assume S b w).df = S.df ∧ (assume S b w).next = S.next ∧ (assume S b w).ro = S.ro := by
  unfold assume; split <;> exact ⟨rfl, rfl, rfl, rfl, rfl, rfl⟩
theorem assume_holds {S : SS} {b : BE} {w : Bool} (h : holds I ρ S.path) (hb : b.den ρ = w) : holds I ρ (assume S b w).path := by
  unfold assume; split
  · refine ⟨?_, h⟩
    simp only [BE.den] at hb
    simp only [PI.holds, ← hb, Bool.not_not]
  · exact ⟨hb, h⟩
theorem assume_bd {S : SS} {b : BE} {w : Bool} (h : S.Bd) (hb : b.bd S.next) : (assume S b w).Bd := by
  unfold assume; split
  · exact ⟨h.tm, h.hp, fun p hp => by cases hp with | head => exact hb | tail _ hp => exact h.path p hp, h.df, h.ro⟩
  · exact ⟨h.tm, h.hp, fun p hp => by cases hp with | head => exact hb | tail _ hp => exact h.path p hp, h.df, h.ro⟩
theorem Pre.assume {S : SS} {a : Act} {w : World} (h : Pre I F ρ S a w) {b : BE} {v : Bool} (hb : b.bd S.next) (hv : b.den ρ = v) : Pre I F ρ (Vg.assume S b v) a w := by
  obtain ⟨h1, h2, h3, h4, _, _⟩ := assume_hp S b v
  exact ⟨assume_bd h.bd hb, assume_holds h.path hv, by rw [h2, h3]; exact h.ts, by rw [h4]; exact h.df, by rw [h1]; exact h.heap⟩

theorem eval_opnd {tm : Tr SV} {nt : Nat} {a : Act} (ht : TSat ρ tm nt a.tmps) {x : Operand} {v : SV} (h : opnd tm x = some v) : a.eval x = v.den ρ := by
  cases x <;> simp only [opnd] at h
  · rename_i t
    have := ht.2 t v h
    simp [Act.eval, this]
  · cases h; simp [Act.eval, ofV_den]
  · cases h
  · cases h; simp [Act.eval, SV.den, SFn.den, denL]

theorem Good.ofBind {l outs : Outs} {k : SS → Option Outs} (hb : bindL l (thenS k) = some outs) (hg : Good I outs) : Good I l := fun S hS => by
  obtain ⟨o, ho, hs⟩ := bindL_mem hb hS
  simp only [thenS, Option.some.injEq] at ho
  exact hg S (hs _ (by rw [← ho]; simp))

/-- What a part that has not come to its end hands on. -/
theorem Post.hand {S : SS} {l outs : Outs} {k : SS → Option Outs} (hb : bindL l (thenS k) = some outs) {e : Exit} {a : Act} {w : World} (he : e ≠ .normal)
    (h : Post I F ρ S l e a w) : Post I F ρ S outs e a w := by
  obtain ⟨x, S', ρ', hm, hx, h2⟩ := h.ex
  obtain ⟨o, ho, hs⟩ := bindL_mem hb hm
  have hxn : x ≠ .normal := fun e' => by subst e'; cases e <;> simp [Match] at hx he
  have ho' : o = [(x, S')] := by
    cases x <;> first | (exact absurd rfl hxn) | (simp only [thenS, Option.some.injEq] at ho; exact ho.symm)
  exact ⟨x, S', ρ', hs _ (by rw [ho']; simp), hx, h2⟩

theorem post_then {S : SS} {l outs : Outs} {k : SS → Option Outs} (hb : bindL l (thenS k) = some outs) {Y : Act → World → Prop} {Q : Exit → Act → World → Prop}
    (hQ : ∀ e a w, Post I F ρ S outs e a w → Q e a w)
    (next : ∀ (S' : SS) (o : Outs), k S' = some o → (∀ p ∈ o, p ∈ outs) → ∀ ρ' a w, Env.Agree S.next ρ ρ' → Pre I F ρ' S' a w → S.next ≤ S'.next → S'.ro = S.ro → Y a w) :
    ∀ e a w, Post I F ρ S l e a w → Exit.then Y Q e a w := by
  intro e a w h
  by_cases he : e = .normal
  · subst he
    obtain ⟨x, S', ρ', hm, hx, hag, hp, hn, hro⟩ := h.ex
    have hxn : x = .normal := by cases x <;> simp [Match] at hx ⊢
    subst hxn
    obtain ⟨o, ho, hs⟩ := bindL_mem hb hm
    exact next S' o ho hs ρ' a w hag hp hn hro
  · have := hQ e a w (h.hand hb he)
    cases e <;> first | (exact absurd rfl he) | exact this

theorem roundsIn_mono' {Fe : Fence} {n : Nat} {c : Code} {Q Q' : Exit → Act → World → Prop} : ∀ {m : Nat} {a : Act} {w : World}, Code.roundsIn Fe n P c Q m a w → (∀ e a w, Q e a w → Q' e a w) → Code.roundsIn Fe n P c Q' m a w
  | 0, _, _, h, _ => h
  | m + 1, a, w, h, hq => by
    rw [roundsIn_succ] at h ⊢
    refine wpIn_mono h fun e a w h => ?_
    cases e with
    | normal => exact roundsIn_mono' (m := m) h hq
    | _ => exact hq _ _ _ h

theorem loopS_sound {ex : Code → SS → Option Outs} (hex : SoundX I P F ex) {c : Code} : ∀ (f : Nat) (S : SS) (outs : Outs), loopS (ex c) f S = some outs → Good I outs →
    ∀ (ρ : Env U) (a : Act) (w : World), Pre I F ρ S a w → Code.roundsIn (Fof ρ S.ro) 0 P c (Post I F ρ S outs) f a w
  | 0, S, outs, h, _, ρ, a, w, _ => by simp [loopS] at h
  | f + 1, S, outs, h, hg, ρ, a, w, hpre => by
    simp only [loopS, bindS] at h
    split at h
    case h_2 => cases h
    rename_i l hl
    rw [roundsIn_succ]
    refine wpIn_mono (hex c S l hl (Good.ofBind h hg) ρ a w hpre) ?_
    refine post_then h (fun _ _ _ h => h) ?_
    intro S' o ho hs ρ' a' w' hag hp hn hro
    have := loopS_sound hex f S' o ho (hg.sub hs) ρ' a' w' hp
    rw [hro, ← Fof_congr hag hpre.bd.ro] at this
    exact roundsIn_mono' this fun e a w h => h.bind hag hn hro hs
end
end Go.Vg
