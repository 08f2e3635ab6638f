/- The engine's operators: what a binary operator, a unary one, a conversion gives. Conditions: the table of types is the program's; what must be known of the operands is known on the path. -/
import Derived.Test.YtfkjbiigciabpaaGreatVgRead
namespace Go.Vg

def isConst : Operand → Bool
  | .const _ => true
  | _ => false

/-- Of two values of which one is nil: are they equal? -/
def nilEq (und : TypeDesc) (c : Bool) : SV → SV → Option Bool
  | .nilp, .nilp => match und with | .pointer _ => some true | _ => none
  | .nilp, .ptr _ | .ptr _, .nilp => match und with | .pointer _ => some false | _ => none
  | .nils _ _, .nils _ _ => match und with | .slice _ => some true | _ => none
  | .nils _ _, .slice .. | .slice .., .nils _ _ => match und with | .slice _ => some false | _ => none
  | .nilf, .nilf => match und with | .func .. => some true | _ => none
  | .nilf, .func .. | .func .., .nilf => match und with | .func .. => some false | _ => none
  | .nili, .nili => match und with | .interface _ => whenB c (some true) | _ => none
  | .nili, .iface .. | .iface .., .nili => match und with | .interface _ => some false | _ => none
  | _, _ => none

def rdInt (ps : List PI) (op : BinOp) (k k' : IntKind) (a b : IE) : Option SV :=
  match op with
  | .shl | .shr => match known ps (mkLss b (.lit 0)) with | some false => some (.int k (mkBin op k a b)) | _ => none
  | .quo | .rem => whenB (IntKind.beq k k') (match known ps (mkEql b (.lit 0)) with | some false => some (.int k (mkBin op k a b)) | _ => none)
  | .add | .sub | .mul | .and | .or | .xor | .andNot => whenB (IntKind.beq k k') (some (.int k (mkBin op k a b)))
  | .eql => whenB (IntKind.beq k k') (some (.bool (mkEql a b)))
  | .neq => whenB (IntKind.beq k k') (some (.bool (mkNot (mkEql a b))))
  | .lss => whenB (IntKind.beq k k') (some (.bool (mkLss a b)))
  | .gtr => whenB (IntKind.beq k k') (some (.bool (mkLss b a)))
  | .leq => whenB (IntKind.beq k k') (some (.bool (mkNot (mkLss b a))))
  | .geq => whenB (IntKind.beq k k') (some (.bool (mkNot (mkLss a b))))

def mkIte (c a b : BE) : BE :=
  match c with
  | .lit true => a
  | .lit false => b
  | c => .ite c a b

def rdBin (ty : Nat → Option TI) (ps : List PI) (op : BinOp) (xt : Nat) (c : Bool) (x y : SV) : Option SV :=
  match x, y with
  | .int k a, .int k' b => rdInt ps op k k' a b
  | .bool a, .bool b => match op, ty xt with
    | .eql, some ⟨_, _, .bool, _, _⟩ => some (.bool (mkIte a b (mkNot b)))
    | .neq, some ⟨_, _, .bool, _, _⟩ => some (.bool (mkIte a (mkNot b) b))
    | _, _ => none
  | x, y => match ty xt with
    | some i => match op, nilEq i.und c x y with
      | .eql, some b => some (.bool (.lit b))
      | .neq, some b => some (.bool (.lit (!b)))
      | _, _ => none
    | none => none

section
variable {U : Type} {I : Interp U} {ρ : Env U} {P : Program} {w : World}

theorem mkIte_den (c a b : BE) : (mkIte c a b).den ρ = cond (c.den ρ) (a.den ρ) (b.den ρ) := by
  unfold mkIte; split <;> simp [BE.den]
theorem mkIte_bd {n : Nat} {c a b : BE} (hc : c.bd n) (ha : a.bd n) (hb : b.bd n) : (mkIte c a b).bd n := by
  unfold mkIte; split
  · exact ha
  · exact hb
  · exact ⟨hc, ha, hb⟩

/-- What a binary operator's run is, its guard and it. -/
def binRun (op : BinOp) (xt : Nat) (x y : Operand) (a b : Value) : Sem Value := do eqGuard op xt x y a b; binOp op xt a b

theorem guard_int {op : BinOp} {xt : Nat} {x y : Operand} {k k' : IntKind} {a b : Int} : (eqGuard op xt x y (.int k a) (.int k' b)).run P w = .ok () w := by
  unfold eqGuard; cases op <;> rfl

theorem rdInt_sound {ps : List PI} (hs : holds I ρ ps) {op : BinOp} {xt : Nat} {x y : Operand} {k k' : IntKind} {a b : IE} {v : SV} (h : rdInt ps op k k' a b = some v) :
    (binRun op xt x y (.int k (a.den ρ)) (.int k' (b.den ρ))).run P w = .ok (v.den ρ) w := by
  unfold binRun
  rw [Sem.run_bind, guard_int, Result.andThen_ok]
  have kk : ∀ {z : Option SV}, whenB (IntKind.beq k k') z = some v → k = k' ∧ z = some v := fun h => ⟨IntKind.beq_eq (whenB_some h).1, (whenB_some h).2⟩
  cases op <;> simp only [rdInt] at h
  case shl =>
    split at h <;> cases h
    rename_i hk
    have := known_sound hs _ _ hk
    rw [mkLss_den] at this
    have h0 : ¬ (b.den ρ < 0) := of_decide_eq_false this
    simp [binOp, Op.shift, h0, SV.den, mkBin_den, opI]
  case shr =>
    split at h <;> cases h
    rename_i hk
    have := known_sound hs _ _ hk
    rw [mkLss_den] at this
    have h0 : ¬ (b.den ρ < 0) := of_decide_eq_false this
    simp [binOp, Op.shift, h0, SV.den, mkBin_den, opI]
  case quo =>
    obtain ⟨e, h1⟩ := kk h
    clear h; subst e
    split at h1 <;> cases h1
    rename_i hk
    have := known_sound hs _ _ hk
    rw [mkEql_den] at this
    have h0 : ¬ (b.den ρ = 0) := of_decide_eq_false this
    simp [binOp, Op.intDiv, h0, SV.den, mkBin_den, opI]
  case rem =>
    obtain ⟨e, h1⟩ := kk h
    clear h; subst e
    split at h1 <;> cases h1
    rename_i hk
    have := known_sound hs _ _ hk
    rw [mkEql_den] at this
    have h0 : ¬ (b.den ρ = 0) := of_decide_eq_false this
    simp [binOp, Op.intDiv, h0, SV.den, mkBin_den, opI]
  all_goals
    obtain ⟨e, h1⟩ := kk h
    clear h; subst e
    cases h1
    simp [binOp, Op.intArith, Op.intBits, Op.intCmp, SV.den, mkBin_den, mkEql_den, mkLss_den, mkNot_den, opI]
  all_goals (try (rw [Bool.eq_iff_iff]; simp))

theorem equal_bool {xt : Nat} {a b : Bool} (hu : ∀ w, (underlying xt).run P w = .ok .bool w) : (Op.equal xt (.bool a) (.bool b)).run P w = .ok (a == b) w := by
  unfold Op.equal Op.maxDepth
  rw [show (10000 : Nat) = 9999 + 1 from rfl, Op.equalIn]
  simp [hu]

theorem nilEq_sound {xt : Nat} {i : TI} (ht : TyOk P xt i) {c : Bool} {x y : SV} {b : Bool} (h : nilEq i.und c x y = some b) :
    (Op.equal xt (x.den ρ) (y.den ρ)).run P w = .ok b w := by
  have hu := fun w => run_underlying' ht w
  unfold Op.equal Op.maxDepth
  rw [show (10000 : Nat) = 9999 + 1 from rfl, Op.equalIn]
  rw [Sem.run_bind, hu, Result.andThen_ok]
  unfold nilEq at h
  split at h <;> (try (cases h; done))
  all_goals
    split at h <;> (try (cases h; done))
    rename_i hund
    rw [hund]
    simp only [SV.den]
    first
      | (cases h; rfl)
      | (cases (whenB_some h).2; rfl)

theorem nilEq_guard {op : BinOp} {xt : Nat} {xo yo : Operand} {i : TI} {x y : SV} {b : Bool} (h : nilEq i.und (isConst xo || isConst yo) x y = some b) :
    (eqGuard op xt xo yo (x.den ρ) (y.den ρ)).run P w = .ok () w := by
  have h0 : nilEq i.und (isConst xo || isConst yo) x y = some b := h
  unfold nilEq at h
  split at h
  case h_10 =>
    split at h
    · have hc := (whenB_some h).1
      simp only [SV.den]
      unfold eqGuard
      cases op <;> first | rfl | (cases xo <;> cases yo <;> first | rfl | (simp [isConst] at hc; done))
    · cases h
  case h_13 => cases h
  all_goals
    simp only [SV.den]
    unfold eqGuard
    cases op <;> rfl

theorem nilEq_bin {xt : Nat} {c : Bool} {und : TypeDesc} {x y : SV} {b : Bool} (h : nilEq und c x y = some b) :
    binOp .eql xt (x.den ρ) (y.den ρ) = (do pure (.bool (← Op.equal xt (x.den ρ) (y.den ρ)))) ∧
    binOp .neq xt (x.den ρ) (y.den ρ) = (do pure (.bool (!(← Op.equal xt (x.den ρ) (y.den ρ))))) := by
  unfold nilEq at h
  split at h
  case h_13 => cases h
  all_goals
    simp only [SV.den]
    exact ⟨rfl, rfl⟩

theorem rdBin_sound {ty : Nat → Option TI} (hty : ∀ t i, ty t = some i → TyOk P t i) {ps : List PI} (hs : holds I ρ ps) {op : BinOp} {xt : Nat} {xo yo : Operand} {x y : SV} {v : SV}
    (h : rdBin ty ps op xt (isConst xo || isConst yo) x y = some v) : (binRun op xt xo yo (x.den ρ) (y.den ρ)).run P w = .ok (v.den ρ) w := by
  unfold rdBin at h
  split at h
  · simp only [SV.den]; exact rdInt_sound hs h
  · rename_i a b
    have key : ∀ i, ty xt = some i → i.und = .bool → (Op.equal xt (.bool (a.den ρ)) (.bool (b.den ρ))).run P w = .ok (a.den ρ == b.den ρ) w := fun i hi hu =>
      equal_bool fun w => by rw [run_underlying' (hty _ _ hi), hu]
    split at h <;> cases h
    · rename_i heq
      simp only [SV.den, binRun, Sem.run_bind]
      simp [eqGuard, binOp, key _ heq rfl, mkIte_den, mkNot_den]
      cases a.den ρ <;> cases b.den ρ <;> rfl
    · rename_i heq
      simp only [SV.den, binRun, Sem.run_bind]
      simp [eqGuard, binOp, key _ heq rfl, mkIte_den, mkNot_den]
      cases a.den ρ <;> cases b.den ρ <;> rfl
  · split at h
    case h_2 => cases h
    rename_i i hi
    split at h <;> cases h
    all_goals
      rename_i b hn
      have hg := fun op => nilEq_guard (ρ := ρ) (P := P) (w := w) (op := op) (xt := xt) hn
      have he := nilEq_sound (ρ := ρ) (P := P) (w := w) (hty _ _ hi) hn
      obtain ⟨e1, e2⟩ := nilEq_bin (ρ := ρ) (xt := xt) hn
      simp only [binRun, Sem.run_bind, hg, Result.andThen_ok, e1, e2, he]
      rfl
end
end Go.Vg
