/- Calls by a method's name, of receivers that are pointers: which function they enter. Conditions: the table is the program's. -/
import Derived.Test.YtfkjbiigciabpaaGreatVgSound
namespace Go.Vg

def lookN : List (String × Nat) → String → Option Nat
  | [], _ => none
  | (s, f) :: l, m => if s = m then some f else lookN l m

def MeOk (P : Program) (t : Nat) (l : List (String × Nat)) : Prop :=
  ∃ (i : TypeInfo) (e : TypeId), P.info? t = some i ∧ P.underlying t = some (.pointer e) ∧ ∀ p ∈ l, ∃ m, i.methods.find? (·.name == p.1) = some m ∧ m.path = #[] ∧ m.func = some (p.2, true)

theorem lookN_mem : ∀ {l : List (String × Nat)} {m : String} {g : Nat}, lookN l m = some g → (m, g) ∈ l
  | (s, f) :: l, m, g, h => by
    simp only [lookN] at h
    split at h
    · rename_i hs; cases h; subst hs; simp
    · exact List.mem_cons_of_mem _ (lookN_mem h)

theorem meOk_run {P : Program} {t : Nat} {l : List (String × Nat)} (h : MeOk P t l) {m : String} {g : Nat} (hl : lookN l m = some g) (hf : ∃ fn : Func, P.funcs[g]? = some fn ∧ fn.body.isSome ∧ fn.name ≠ "runtime.NumGoroutine")
    (v : Value) (args : Array Value) (w : World) : (callMethod (.iface t v) m args).run P w = .ok (.enter g (#[v] ++ args)) w := by
  obtain ⟨i, e, h1, h2, h3⟩ := h
  obtain ⟨me, q1, q2, q3⟩ := h3 _ (lookN_mem hl)
  have hm : ∀ n : Nat, (method (n + 1) t v m).run P w = .ok (g, v) w := fun n => by
    simp only [method, Sem.run_bind, typeInfo, run_program, Result.andThen_ok, h1, Sem.run_pure]
    simp only [q1, q2, q3, Sem.run_bind, follow, Sem.run_pure, Result.andThen_ok, receiverAt, run_underlying h2, Place.get]
  have hm' : (method (P.types.size + Made.depth) t v m).run P w = .ok (g, v) w := hm (P.types.size + 99)
  simp only [callMethod, Sem.run_bind, run_program, Result.andThen_ok, hm', run_callFunc hf]
def meChk (i : TypeInfo) (p : String × Nat) : Bool :=
  match i.methods.find? (·.name == p.1) with
  | some m => m.path.isEmpty && (match m.func with | some (f, true) => Nat.beq f p.2 | _ => false)
  | none => false
theorem meOk_of {P : Program} {t : Nat} {i : TypeInfo} {e : TypeId} {l : List (String × Nat)} (h1 : P.types[t]? = some i) (h2 : P.underlying t = some (.pointer e)) (h : l.all (meChk i) = true) : MeOk P t l := by
  refine ⟨i, e, by rw [Tables.info?, if_pos (Array.getElem?_eq_some_iff.1 h1).1]; exact h1, h2, fun p hp => ?_⟩
  have := List.all_eq_true.1 h p hp
  unfold meChk at this
  split at this
  case h_2 => cases this
  rename_i m hm
  rw [Bool.and_eq_true] at this
  refine ⟨m, hm, by simpa using this.1, ?_⟩
  have h3 := this.2
  split at h3
  · rename_i f hf; rw [hf, Nat.eq_of_beq_eq_true h3]
  · cases h3
end Go.Vg
