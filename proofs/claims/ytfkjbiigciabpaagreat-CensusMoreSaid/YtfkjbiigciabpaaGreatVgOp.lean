/- The engine's step of one operation, calls and all, and of a region whose order is fixed. Conditions: those of what runs the calls. -/
import Derived.Test.YtfkjbiigciabpaaGreatVgCode
namespace Go.Vg

structure FI where
  ntmps : Nat
  results : List ResultVar
  body : Code

structure GT where
  ty : Nat → Option TI
  fn : Nat → Option FI
  me : Nat → String → Option Nat

abbrev COuts := List (Option SV × SS)
abbrev CallF := Nat → List SV → SS → Option COuts

def needs0 (ty : Nat → Option TI) (tm : Tr SV) : Op → List BE
  | .binOp op _ _ y _ => match op, opnd tm y with
    | .shl, some (.int _ e) | .shr, some (.int _ e) => [mkNot (mkLss e (.lit 0))]
    | .quo, some (.int _ e) | .rem, some (.int _ e) => [mkNot (mkEql e (.lit 0))]
    | _, _ => []
  | .indexAddr t x ix => match opnd tm x, opnd tm ix with
    | some (.slice _ l _), some (.int _ e) => [mkNot (mkLss e (.lit 0)), mkLss e l]
    | some (.nils _ _), some (.int _ _) => [.lit false]
    | some (.ptr _), some (.int _ e) => match ty t with
      | some i => match i.und with | .array n _ => [mkNot (mkLss e (.lit 0)), mkLss e (.lit (.ofNat n))] | _ => []
      | none => []
    | _, _ => []
  | .nilCheck x => match opnd tm x with
    | some .nilp | some .nilf | some .nili => [.lit false]
    | _ => []
  | _ => []

def ndBin (tm : Tr SV) (op : BinOp) (y : Operand) : List BE :=
  match op, opnd tm y with
  | .shl, some (.int _ e) | .shr, some (.int _ e) => [mkNot (mkLss e (.lit 0))]
  | .quo, some (.int _ e) | .rem, some (.int _ e) => [mkNot (mkEql e (.lit 0))]
  | _, _ => []
def ndIdx (ty : Nat → Option TI) (tm : Tr SV) (t : Nat) (x ix : Operand) : List BE :=
  match opnd tm x, opnd tm ix with
  | some (.slice _ l _), some (.int _ e) => [mkNot (mkLss e (.lit 0)), mkLss e l]
  | some (.nils _ _), some (.int _ _) => [.lit false]
  | some (.ptr _), some (.int _ e) => match ty t with
    | some i => match i.und with | .array n _ => [mkNot (mkLss e (.lit 0)), mkLss e (.lit (.ofNat n))] | _ => []
    | none => []
  | _, _ => []
def ndNil (tm : Tr SV) (x : Operand) : List BE :=
  match opnd tm x with
  | some .nilp | some .nilf | some .nili => [.lit false]
  | _ => []
def needs (ty : Nat → Option TI) (tm : Tr SV) (op : Op) : List BE :=
  match op with
  | .binOp op _ _ y _ => ndBin tm op y
  | .indexAddr t x ix => ndIdx ty tm t x ix
  | .nilCheck x => ndNil tm x
  | _ => []
theorem needs_eq (ty : Nat → Option TI) (tm : Tr SV) (op : Op) : needs ty tm op = needs0 ty tm op := by cases op <;> rfl

def forkNeeds : List BE → SS → Outs × Option SS
  | [], S => ([], some S)
  | c :: cs, S => match known S.path c with
    | some true => forkNeeds cs S
    | some false => ([(.bad, S)], none)
    | none => match forkNeeds cs (assume S c true) with | (l, r) => ((.bad, assume S c false) :: l, r)

def dstOk (S : SS) : Option Tmp → Bool
  | none => true
  | some d => Nat.blt d S.nt
def setD (tm : Tr SV) : Option Tmp → SV → Tr SV
  | none, _ => tm
  | some d, v => tm.set d v
def delD (tm : Tr SV) : Option Tmp → Tr SV
  | none => tm
  | some d => tm.del d
def SS.setD (S : SS) (d : Option Tmp) (v : SV) : SS :=
  match S with
  | { tm, nt, hp, path, next, df, ro } => { tm := Vg.setD tm d v, nt, hp, path, next, df, ro }
def SS.delD (S : SS) (d : Option Tmp) : SS :=
  match S with
  | { tm, nt, hp, path, next, df, ro } => { tm := Vg.delD tm d, nt, hp, path, next, df, ro }
/-- A slot that was passed by. -/
def SS.nil (S : SS) (d : Option Tmp) : SS := S.setD d (.tup [])

def liftC (d : Option Tmp) : COuts → Outs
  | [] => []
  | (some v, S) :: l => (.normal, S.setD d v) :: liftC d l
  | (none, S) :: l => (.bad, S) :: liftC d l

def callOp0 (G : GT) (cf yf : CallF) (S : SS) (d : Option Tmp) : Op → Option Outs
  | .call { callee := .value f, args, .. } => match opnd S.tm f, opnds S.tm args.toList with
    | some (.func (.func g) first cap), some as => (cf g (first ++ as ++ cap) S).map (liftC d)
    | some (.func (.yld n) first _), some as => (yf n (first ++ as) S).map (liftC d)
    | _, _ => none
  | .call { callee := .invoke r m, args, .. } => match opnd S.tm r, opnds S.tm args.toList with
    | some (.iface t v), some as => match G.me t m with
      | some g => (cf g (v :: as) S).map (liftC d)
      | none => none
    | _, _ => none
  | _ => none

def coVal (cf yf : CallF) (S : SS) (d : Option Tmp) (f : Operand) (args : List Operand) : Option Outs :=
  match opnd S.tm f, opnds S.tm args with
  | some (.func (.func g) first cap), some as => (cf g (first ++ as ++ cap) S).map (liftC d)
  | some (.func (.yld n) first _), some as => (yf n (first ++ as) S).map (liftC d)
  | _, _ => none
def coInv (G : GT) (cf : CallF) (S : SS) (d : Option Tmp) (r : Operand) (m : String) (args : List Operand) : Option Outs :=
  match opnd S.tm r, opnds S.tm args with
  | some (.iface t v), some as => match G.me t m with
    | some g => (cf g (v :: as) S).map (liftC d)
    | none => none
  | _, _ => none
def coC (G : GT) (cf yf : CallF) (S : SS) (d : Option Tmp) (c : Callee) (args : List Operand) : Option Outs :=
  match c with
  | .value f => coVal cf yf S d f args
  | .invoke r m => coInv G cf S d r m args
  | .builtin _ => none
def callOp (G : GT) (cf yf : CallF) (S : SS) (d : Option Tmp) (op : Op) : Option Outs :=
  match op with
  | .call c => coC G cf yf S d c.callee c.args.toList
  | _ => none
theorem callOp_eq (G : GT) (cf yf : CallF) (S : SS) (d : Option Tmp) (op : Op) : callOp G cf yf S d op = callOp0 G cf yf S d op := by
  cases op with
  | call c => obtain ⟨callee, args, ats⟩ := c; cases callee <;> rfl
  | _ => rfl

def opCore (G : GT) (wr : SS → Op → Option (Option SV × SS)) (cf yf : CallF) (o : Oper) (S : SS) : Option Outs :=
  whenB (dstOk S o.dst) (match rd G.ty S.tm S.hp S.path o.op with
    | some v => some [(.normal, S.setD o.dst v)]
    | none => match wr S o.op with
      | some (some v, S') => some [(.normal, S'.setD o.dst v)]
      | some (none, S') => some [(.normal, S'.delD o.dst)]
      | none => callOp G cf yf S o.dst o.op)

def opS (G : GT) (wr : SS → Op → Option (Option SV × SS)) (cf yf : CallF) (o : Oper) (S : SS) : Option Outs :=
  match forkNeeds (needs G.ty S.tm o.op) S with
  | (l, none) => some l
  | (l, some S1) => match opCore G wr cf yf o S1 with
    | some l' => some (l ++ l')
    | none => none

/-- An operation under its guard. -/
def opG (G : GT) (wr : SS → Op → Option (Option SV × SS)) (cf yf : CallF) (ops : List Oper) (o : Oper) (S : SS) : Option Outs :=
  match o.guard with
  | none => opS G wr cf yf o S
  | some (j, want) => match ops[j]? with
    | some oj => match oj.dst with
      | some d => match S.tm.get d with
        | some (.bool e) => match known S.path e with
          | some b => cond (b == want) (opS G wr cf yf o S) (whenB (dstOk S o.dst) (some [(.normal, S.nil o.dst)]))
          | none => match opS G wr cf yf o (assume S e want) with
            | some l => whenB (dstOk S o.dst) (some ((.normal, (assume S e (!want)).nil o.dst) :: l))
            | none => none
        | some (.tup []) => whenB (dstOk S o.dst) (some [(.normal, S.nil o.dst)])
        | _ => none
      | none => none
    | none => none

def seqI (G : GT) (wr : SS → Op → Option (Option SV × SS)) (cf yf : CallF) (ops : List Oper) : List Nat → SS → Option Outs
  | [], S => some [(.normal, S)]
  | i :: is, S => match ops[i]? with
    | some o => bindS (opG G wr cf yf ops o S) (thenS (seqI G wr cf yf ops is))
    | none => none

section
variable {U : Type} (I : Interp U) (P : Program) (F : Fr)

structure GOk (G : GT) : Prop where
  ty : ∀ t i, G.ty t = some i → TyOk P t i
  fn : ∀ f i, G.fn f = some i → ∃ fn : Func, P.funcs[f]? = some fn ∧ fn.ntmps = i.ntmps ∧ fn.results.toList = i.results ∧ fn.body = some i.body ∧ fn.name ≠ "runtime.NumGoroutine"
  me : ∀ t m g, G.me t m = some g → (∃ i, G.fn g = some i) ∧ ∀ (v : Value) (args : Array Value) (w : World), (callMethod (.iface t v) m args).run P w = .ok (.enter g (#[v] ++ args)) w
  mixed : P.follows .mixedOrders = true

structure PostC (ρ : Env U) (S : SS) (outs : COuts) (e : Ending) (w : World) : Prop where
  ex : ∃ v S' ρ', (some v, S') ∈ outs ∧ e = .returned (v.den ρ') ∧ Env.Agree S.next ρ ρ' ∧ holds I ρ' S'.path ∧ S'.Bd ∧ (∃ hp, HSat I ρ' F S'.hp w hp) ∧ v.bd S'.next ∧
    S.next ≤ S'.next ∧ S'.tm = S.tm ∧ S'.nt = S.nt ∧ S'.df = S.df ∧ S'.ro = S.ro

def GoodC (outs : COuts) : Prop := ∀ S, ((none : Option SV), S) ∈ outs → ∀ ρ : Env U, ¬ holds I ρ S.path

structure PreC (ρ : Env U) (S : SS) (w : World) : Prop where
  bd : S.Bd
  path : holds I ρ S.path
  heap : ∃ hp, HSat I ρ F S.hp w hp

def SoundC (cf : CallF) : Prop :=
  ∀ (f : Nat) (args : List SV) (S : SS) (outs : COuts), cf f args S = some outs → GoodC I outs → bdL S.next args → ∀ (ρ : Env U) (w : World), PreC I F ρ S w →
    (∃ fn : Func, P.funcs[f]? = some fn ∧ fn.body.isSome ∧ fn.name ≠ "runtime.NumGoroutine") ∧ CallsIn Fence.wide 0 P f (denL ρ args).toArray w (PostC I F ρ S outs)

def SoundY (yf : CallF) : Prop :=
  ∀ (n : Nat) (args : List SV) (S : SS) (outs : COuts), yf n args S = some outs → GoodC I outs → bdL S.next args → ∀ (ρ : Env U) (w : World), PreC I F ρ S w →
    ∃ (l : Nat) (f : FuncId) (tmps : Array Value) (assign body : Code), (Instr.yield (ρ.k n) (denL ρ args).toArray).run P w = .ok (.round l f tmps assign body) w ∧
      RoundIn Fence.wide 0 P l f tmps assign body w (PostC I F ρ S outs)

def SoundW (wr : SS → Op → Option (Option SV × SS)) : Prop :=
  ∀ (S S' : SS) (o : Oper) (r : Option SV), wr S o.op = some (r, S') → ∀ (ρ : Env U) (w : World) (hp : Nat → PHeap), S.Bd → holds I ρ S.path → HSat I ρ F S.hp w hp →
    ∀ f : Operand → Value, (∀ x ∈ o.op.operands, ∀ u, opnd S.tm x = some u → f x = u.den ρ) →
    (∀ c, o.op ≠ .defer c) ∧ ∃ nx w' ρ', (execOp f o).run P w = .ok nx w' ∧ Came I F ρ S r S' nx w' ρ'
end

section
variable {U : Type} {I : Interp U} {P : Program} {F : Fr} {ρ ρ' : Env U}

theorem forkNeeds_sound : ∀ {cs : List BE} {S : SS} {l : Outs} {r : Option SS}, forkNeeds cs S = (l, r) → (∀ c ∈ cs, c.bd S.next) → ∀ {a : Act} {w : World}, Pre I F ρ S a w → Good I l →
    ∃ S', r = some S' ∧ Pre I F ρ S' a w ∧ S'.tm = S.tm ∧ S'.nt = S.nt ∧ S'.df = S.df ∧ S'.next = S.next ∧ S'.ro = S.ro ∧ S'.hp = S.hp
  | [], S, l, r, h, _, a, w, hp, _ => by
    simp only [forkNeeds, Prod.mk.injEq] at h
    exact ⟨S, h.2.symm, hp, rfl, rfl, rfl, rfl, rfl, rfl⟩
  | c :: cs, S, l, r, h, hc, a, w, hp, hg => by
    simp only [forkNeeds] at h
    split at h
    · exact forkNeeds_sound h (fun c' h' => hc c' (by simp [h'])) hp hg
    · simp only [Prod.mk.injEq] at h
      exact absurd hp.path (hg S (by rw [← h.1]; simp) ρ)
    · cases hr : forkNeeds cs (assume S c true) with
      | mk l' r' =>
        rw [hr] at h
        simp only [Prod.mk.injEq] at h
        have hcb := hc c (by simp)
        have hct : c.den ρ = true := by
          cases hcv : c.den ρ with
          | true => rfl
          | false => exact absurd (assume_holds hp.path hcv) (hg _ (by rw [← h.1]; simp) ρ)
        obtain ⟨h1, h2, h3, h4, h5, h6⟩ := assume_hp S c true
        obtain ⟨S', e1, e2, e3, e4, e5, e6, e7, e8⟩ := forkNeeds_sound hr (fun c' h' => by rw [h5]; exact hc c' (by simp [h'])) (hp.assume hcb hct) (hg.sub fun p hp => by rw [← h.1]; simp [hp])
        exact ⟨S', by rw [← h.2]; exact e1, e2, e3.trans h2, e4.trans h3, e5.trans h4, e6.trans h5, e7.trans h6, e8.trans h1⟩

theorem needs_bd {n : Nat} {tm : Tr SV} (ht : TBd n tm) {ty : Nat → Option TI} {op : Op} : ∀ c ∈ needs ty tm op, c.bd n := by
  intro c hc
  rw [needs_eq] at hc
  unfold needs0 at hc
  split at hc
  · split at hc
    case h_5 => simp at hc
    all_goals
      rename_i hy
      have := opnd_bd ht hy
      simp only [SV.bd] at this
      simp only [List.mem_singleton] at hc
      subst hc
      first | exact mkNot_bd (mkLss_bd this trivial) | exact mkNot_bd (mkEql_bd this trivial)
  · split at hc
    · rename_i hx hy
      have h1 := opnd_bd ht hx
      have h2 := opnd_bd ht hy
      simp only [SV.bd] at h1 h2
      simp only [List.mem_cons, List.not_mem_nil, or_false] at hc
      rcases hc with rfl | rfl
      · exact mkNot_bd (mkLss_bd h2 trivial)
      · exact mkLss_bd h2 h1.2.1
    · simp only [List.mem_singleton] at hc; subst hc; trivial
    · rename_i hx hy
      have h2 := opnd_bd ht hy
      simp only [SV.bd] at h2
      split at hc
      case h_2 => simp at hc
      split at hc
      case h_2 => simp at hc
      simp only [List.mem_cons, List.not_mem_nil, or_false] at hc
      rcases hc with rfl | rfl
      · exact mkNot_bd (mkLss_bd h2 trivial)
      · exact mkLss_bd h2 trivial
    · simp at hc
  · split at hc
    case h_4 => simp at hc
    all_goals
      simp only [List.mem_singleton] at hc; subst hc; trivial
  · simp at hc

def dstLt (n : Nat) : Option Tmp → Prop
  | none => True
  | some d => d < n
theorem TSat.put {tm : Tr SV} {nt : Nat} {a : Act} (h : TSat ρ tm nt a.tmps) {d : Option Tmp} {v : SV} (hd : dstLt nt d) :
    TSat ρ (setD tm d v) nt (a.put d (v.den ρ)).tmps := by
  cases d with
  | none => exact h
  | some d =>
    refine ⟨by simp [Act.put, h.1], fun t u hu => ?_⟩
    simp only [Vg.setD, Tr.get_set] at hu
    simp only [Act.put]
    by_cases e : t = d
    · subst e
      simp only [if_true, Option.some.injEq] at hu
      subst hu
      rw [Array.getElem?_setIfInBounds_self_of_lt (by rw [h.1]; exact hd)]
    · simp only [e, if_false] at hu
      rw [Array.getElem?_setIfInBounds_ne (fun x => e x.symm)]
      exact h.2 t u hu
theorem TSat.del {tm : Tr SV} {nt : Nat} {a : Act} (h : TSat ρ tm nt a.tmps) {d : Option Tmp} {v : Value} :
    TSat ρ (delD tm d) nt (a.put d v).tmps := by
  cases d with
  | none => exact h
  | some d =>
    refine ⟨by simp [Act.put, h.1], fun t u hu => ?_⟩
    simp only [Vg.delD, Tr.get_del] at hu
    simp only [Act.put]
    by_cases e : t = d
    · simp [e] at hu
    · simp only [e, if_false] at hu
      rw [Array.getElem?_setIfInBounds_ne (fun x => e x.symm)]
      exact h.2 t u hu
theorem TBd.set {n : Nat} {tm : Tr SV} (h : TBd n tm) {d : Option Tmp} {v : SV} (hv : v.bd n) : TBd n (setD tm d v) := by
  cases d with
  | none => exact h
  | some d =>
    intro t u hu
    simp only [setD, Tr.get_set] at hu
    split at hu
    · cases hu; exact hv
    · exact h t u hu
theorem TBd.del {n : Nat} {tm : Tr SV} (h : TBd n tm) {d : Option Tmp} : TBd n (delD tm d) := by
  cases d with
  | none => exact h
  | some d =>
    intro t u hu
    simp only [delD, Tr.get_del] at hu
    split at hu
    · cases hu
    · exact h t u hu
theorem put_defers (a : Act) (d : Option Tmp) (v : Value) : (a.put d v).defers = a.defers := by cases d <;> rfl
theorem dstOk_lt {S : SS} {d : Option Tmp} (h : dstOk S d = true) : dstLt S.nt d := by
  cases d with
  | none => trivial
  | some d => simpa [dstOk, dstLt] using h

/-- A state with a slot set. -/
theorem Pre.setD {S : SS} {a : Act} {w : World} (h : Pre I F ρ S a w) {d : Option Tmp} {v : SV} (hd : dstOk S d = true) (hv : v.bd S.next) : Pre I F ρ (S.setD d v) (a.put d (v.den ρ)) w :=
  ⟨⟨h.bd.tm.set hv, h.bd.hp, h.bd.path, h.bd.df, h.bd.ro⟩, h.path, h.ts.put (dstOk_lt hd), by rw [put_defers]; exact h.df, h.heap⟩
theorem Pre.delD {S : SS} {a : Act} {w : World} (h : Pre I F ρ S a w) {d : Option Tmp} {v : Value} : Pre I F ρ (S.delD d) (a.put d v) w :=
  ⟨⟨h.bd.tm.del, h.bd.hp, h.bd.path, h.bd.df, h.bd.ro⟩, h.path, h.ts.del, by rw [put_defers]; exact h.df, h.heap⟩
theorem Pre.nil {S : SS} {a : Act} {w : World} (h : Pre I F ρ S a w) {d : Option Tmp} (hd : dstOk S d = true) : Pre I F ρ (S.nil d) (a.put d undef) w := by
  have := h.setD (v := .tup []) hd (by simp [SV.bd, bdL])
  simpa [SV.den, denL, undef, SS.nil] using this
theorem Pre.preC {S : SS} {a : Act} {w : World} (h : Pre I F ρ S a w) : PreC I F ρ S w := ⟨h.bd, h.path, h.heap⟩

theorem liftC_mem {d : Option Tmp} {v : SV} {S : SS} : ∀ {l : COuts}, (some v, S) ∈ l → (SX.normal, S.setD d v) ∈ liftC d l
  | (some u, T) :: l, h => by
    simp only [liftC]
    cases h with
    | head => simp
    | tail _ h => exact List.mem_cons_of_mem _ (liftC_mem h)
  | (none, T) :: l, h => by
    simp only [liftC]
    cases h with
    | tail _ h => exact List.mem_cons_of_mem _ (liftC_mem h)
theorem liftC_bad {d : Option Tmp} {S : SS} : ∀ {l : COuts}, ((none : Option SV), S) ∈ l → (SX.bad, S) ∈ liftC d l
  | (some u, T) :: l, h => by
    simp only [liftC]
    cases h with
    | tail _ h => exact List.mem_cons_of_mem _ (liftC_bad h)
  | (none, T) :: l, h => by
    simp only [liftC]
    cases h with
    | head => simp
    | tail _ h => exact List.mem_cons_of_mem _ (liftC_bad h)
theorem goodC_of {d : Option Tmp} {l : COuts} (h : Good I (liftC d l)) : GoodC I l := fun S hS => h S (liftC_bad hS)

/-- What a call has come to, as what the operation has come to. -/
theorem PostC.post {S : SS} {outs : COuts} {d : Option Tmp} (hd : dstOk S d = true) {a : Act} {w : World} (hpre : Pre I F ρ S a w) {e : Ending} {w' : World} (h : PostC I F ρ S outs e w') :
    ∃ v, e = .returned v ∧ Post I F ρ S (liftC d outs) .normal (a.put d v) w' := by
  obtain ⟨v, S', ρ', hm, he, hag, hpath, hbd, hheap, hv, hn, htm, hnt, hdf, hro⟩ := h.ex
  refine ⟨v.den ρ', he, ⟨.normal, S'.setD d v, ρ', liftC_mem hm, trivial, hag, ?_, hn, hro⟩⟩
  have hp' : Pre I F ρ' S' a w' := ⟨hbd, hpath, by rw [htm, hnt]; exact hpre.ts.congr hag hpre.bd.tm, by rw [hdf, ← marks_congr hag hpre.bd.df]; exact hpre.df, hheap⟩
  exact hp'.setD (by unfold dstOk at hd ⊢; rw [hnt]; exact hd) hv

theorem upon_call {o : Oper} {a : Act} {w : World} {f : FuncId} {args : Array Value} {K : Act → World → Prop} {Q : Exit → Act → World → Prop} {ro : Option Nat} {R : Ending → World → Prop}
    (hc : CallsIn Fence.wide 0 P f args w R) (hR : ∀ e w', R e w' → ∃ v, e = .returned v ∧ K (a.put o.dst v) w') :
    o.uponIn (Fof ρ ro) 0 P a K Q (.ok (.enter f args) w) := by
  rw [Oper.uponIn_enter]
  refine And.intro (fun h => by rw [Fof_depth] at h; cases h) ?_
  have : CallsIn (Fof ρ ro) 0 P f args w R := by cases ro <;> exact hc
  exact CallsIn.mono this fun e w' h => by obtain ⟨v, rfl, hk⟩ := hR e w' h; exact hk
theorem upon_round {o : Oper} {a : Act} {w : World} {l : Nat} {f : FuncId} {tmps : Array Value} {assign body : Code} {K : Act → World → Prop} {Q : Exit → Act → World → Prop} {ro : Option Nat} {R : Ending → World → Prop}
    (hc : RoundIn Fence.wide 0 P l f tmps assign body w R) (hR : ∀ e w', R e w' → ∃ v, e = .returned v ∧ K (a.put o.dst v) w') :
    o.uponIn (Fof ρ ro) 0 P a K Q (.ok (.round l f tmps assign body) w) := by
  rw [Oper.uponIn_round]
  refine And.intro (fun h => by rw [Fof_depth] at h; cases h) ?_
  have : RoundIn (Fof ρ ro) 0 P l f tmps assign body w R := by cases ro <;> exact hc
  exact RoundIn.mono this fun e w' h => by obtain ⟨v, rfl, hk⟩ := hR e w' h; exact hk

theorem run_callFunc {f : Nat} (h : ∃ fn : Func, P.funcs[f]? = some fn ∧ fn.body.isSome ∧ fn.name ≠ "runtime.NumGoroutine") (args : Array Value) (w : World) : (callFunc f args).run P w = .ok (.enter f args) w := by
  obtain ⟨fn, h1, h2, h3⟩ := h
  have h2' : ¬ fn.body = none := by intro e; rw [e] at h2; cases h2
  simp [callFunc, h1, h3, h2']

theorem callOp_sound {G : GT} (hG : GOk P G) {cf yf : CallF} (hC : SoundC I P F cf) (hY : SoundY I P F yf) {o : Oper} {S : SS} {outs : Outs} (h : callOp G cf yf S o.dst o.op = some outs)
    (hg : Good I outs) {a av : Act} {w : World} (hpre : Pre I F ρ S av w) (hev' : ∀ x ∈ o.op.operands, ∀ u, opnd S.tm x = some u → a.eval x = u.den ρ) (hd : dstOk S o.dst = true)
    {K : Act → World → Prop} {Q : Exit → Act → World → Prop} (hK : ∀ x w', Post I F ρ S outs .normal (av.put o.dst x) w' → K (a.put o.dst x) w') : (∀ c, o.op ≠ .defer c) ∧ o.uponIn (Fof ρ S.ro) 0 P a K Q ((execOp a.eval o).run P w) := by
  have hevs := fun {xs : Array Operand} {vs : List SV} (h : opnds S.tm xs.toList = some vs) (hx : ∀ x ∈ xs.toList, x ∈ o.op.operands) => (by
    have := opnds_sound (ρ := ρ) (f := a.eval) h (fun x hxx u hu => hev' x (hx x hxx) u hu)
    rw [← this, ← Array.toList_map, Array.toArray_toList] : (denL ρ vs).toArray = xs.map a.eval)
  rw [callOp_eq] at h
  unfold callOp0 at h
  split at h
  case h_3 => cases h
  case h_1 f args ats hop =>
    refine ⟨fun c => by rw [hop]; simp, ?_⟩
    have hxs : ∀ x ∈ args.toList, x ∈ o.op.operands := fun x hx => by rw [hop]; simp only [Op.operands, Call.operands, Array.mem_append]; exact .inr (Array.mem_toList_iff.1 hx)
    have hxf : f ∈ o.op.operands := by rw [hop]; simp [Op.operands, Call.operands]
    split at h
    case h_3 => cases h
    case h_1 g first cap as hf has =>
      obtain ⟨co, hco, rfl⟩ := Option.map_eq_some_iff.1 h
      have hb1 := opnd_bd hpre.bd.tm hf
      simp only [SV.bd] at hb1
      obtain ⟨hfn, hcall⟩ := hC g (first ++ as ++ cap) S co hco (goodC_of hg) (bdL_append (bdL_append hb1.2.1 (opnds_bd hpre.bd.tm has)) hb1.2.2) ρ w hpre.preC
      have e1 := hev' _ hxf _ hf
      simp only [SV.den, SFn.den] at e1
      have hrun : (execOp a.eval o).run P w = .ok (.enter g (denL ρ (first ++ as ++ cap)).toArray) w := by
        simp only [execOp, hop, resolve, e1, Deferred.ofValue, Sem.run_bind, Sem.run_pure, Result.andThen_ok, invoke, ← hevs has hxs, run_callFunc hfn]
        simp [denL_append]
      rw [hrun]
      exact upon_call hcall fun e w' he => by
        obtain ⟨v, rfl, hp⟩ := he.post hd hpre
        exact ⟨v, rfl, hK _ _ hp⟩
    case h_2 n first cap as hf has =>
      obtain ⟨co, hco, rfl⟩ := Option.map_eq_some_iff.1 h
      have hb1 := opnd_bd hpre.bd.tm hf
      simp only [SV.bd] at hb1
      obtain ⟨l, f', tmps, assign, body, hy, hround⟩ := hY n (first ++ as) S co hco (goodC_of hg) (bdL_append hb1.2.1 (opnds_bd hpre.bd.tm has)) ρ w hpre.preC
      have e1 := hev' _ hxf _ hf
      simp only [SV.den, SFn.den] at e1
      have hrun : (execOp a.eval o).run P w = .ok (.round l f' tmps assign body) w := by
        simp only [execOp, hop, resolve, e1, Deferred.ofValue, Sem.run_bind, Sem.run_pure, Result.andThen_ok, invoke, ← hevs has hxs]
        rw [← hy]; simp [denL_append]
      rw [hrun]
      exact upon_round hround fun e w' he => by
        obtain ⟨v, rfl, hp⟩ := he.post hd hpre
        exact ⟨v, rfl, hK _ _ hp⟩
  case h_2 r m args ats hop =>
    refine ⟨fun c => by rw [hop]; simp, ?_⟩
    have hxs : ∀ x ∈ args.toList, x ∈ o.op.operands := fun x hx => by rw [hop]; simp only [Op.operands, Call.operands, Array.mem_append]; exact .inr (Array.mem_toList_iff.1 hx)
    have hxf : r ∈ o.op.operands := by rw [hop]; simp [Op.operands, Call.operands]
    split at h
    case h_2 => cases h
    rename_i t v as hr has
    split at h
    case h_2 => cases h
    rename_i g hme
    obtain ⟨co, hco, rfl⟩ := Option.map_eq_some_iff.1 h
    have hb1 := opnd_bd hpre.bd.tm hr
    simp only [SV.bd] at hb1
    obtain ⟨_, hcall⟩ := hC g (v :: as) S co hco (goodC_of hg) (by simp only [bdL]; exact ⟨hb1, opnds_bd hpre.bd.tm has⟩) ρ w hpre.preC
    have e1 := hev' _ hxf _ hr
    simp only [SV.den] at e1
    have hrun : (execOp a.eval o).run P w = .ok (.enter g (denL ρ (v :: as)).toArray) w := by
      simp only [execOp, hop, resolve, e1, Sem.run_bind, Sem.run_pure, Result.andThen_ok, invoke, ← hevs has hxs]
      have : (#[Value.iface t (v.den ρ)] ++ (denL ρ as).toArray)[0]? = some (Value.iface t (v.den ρ)) := by simp
      simp only [this]
      have e2 : (#[Value.iface t (v.den ρ)] ++ (denL ρ as).toArray).extract 1 (#[Value.iface t (v.den ρ)] ++ (denL ρ as).toArray).size = (denL ρ as).toArray := by simp
      rw [e2, (hG.me _ _ _ hme).2]
      simp [denL]
    rw [hrun]
    exact upon_call hcall fun e w' he => by
      obtain ⟨u, rfl, hp⟩ := he.post hd hpre
      exact ⟨u, rfl, hK _ _ hp⟩

end
end Go.Vg
