/- Symbolic values of the engine, what they mean, and when two of them are one. No condition. -/
import Derived.Test.YtfkjbiigciabpaaGreatVgBase
namespace Go.Vg

/-- A symbolic address: a named block, an offset, and indexes that are not known, each with the size of what it counts. -/
structure SA where
  blk : Nat
  off : Nat
  dyn : List (IE × Nat) := []
  deriving Inhabited

inductive SFn where
  | func (f : Nat)
  | yld (n : Nat)
  deriving Inhabited

inductive SV where
  | int (k : IntKind) (e : IE)
  | bool (b : BE)
  | nilp
  | ptr (a : SA)
  | nils (len cap : IE)
  | slice (a : SA) (len cap : IE)
  | func (fn : SFn) (first cap : List SV)
  | nilf
  | iface (t : Nat) (v : SV)
  | nili
  | agg (l : List SV)
  | tup (l : List SV)
  | con (v : Value)
  | any (i : Nat)
  | at (r : Nat) (p : IE)
  | map (n : Nat)
  deriving Inhabited

/-- A value that is no aggregate; any other one counts as nil. -/
def clean : Value → Value
  | .agg _ | .tuple _ => .nilIface
  | v => v

section
variable {U : Type} (ρ : Env U)

def dynDen : List (IE × Nat) → Nat
  | [] => 0
  | (e, s) :: l => (e.den ρ).toNat * s + dynDen l
def SA.den (a : SA) : Addr := ⟨ρ.k a.blk, a.off + dynDen ρ a.dyn, none⟩
def SFn.den : SFn → Fn
  | .func f => .func f
  | .yld n => .yield (ρ.k n)

mutual
def SV.den : SV → Value
  | .int k e => .int k (e.den ρ)
  | .bool b => .bool (b.den ρ)
  | .nilp => .pointer none
  | .ptr a => .pointer (some (a.den ρ))
  | .nils l c => .slice none (l.den ρ).toNat (c.den ρ).toNat
  | .slice a l c => .slice (some (a.den ρ)) (l.den ρ).toNat (c.den ρ).toNat
  | .func fn fs cs => .func (fn.den ρ) (denL fs).toArray (denL cs).toArray
  | .nilf => .nilFunc
  | .iface t v => .iface t v.den
  | .nili => .nilIface
  | .agg l => .agg (denL l).toArray
  | .tup l => .tuple (denL l).toArray
  | .con v => v
  | .any i => clean (ρ.v i)
  | .at r p => clean (rowAt (ρ.r r) (p.den ρ))
  | .map n => .map (some (ρ.k n))
def denL : List SV → List Value
  | [] => []
  | v :: vs => v.den :: denL vs
end

theorem denL_eq (l : List SV) : denL ρ l = l.map (SV.den ρ) := by
  induction l with
  | nil => simp [denL]
  | cons v vs ih => simp [denL, ih]
theorem denL_length (l : List SV) : (denL ρ l).length = l.length := by simp [denL_eq]
theorem denL_append (l m : List SV) : denL ρ (l ++ m) = denL ρ l ++ denL ρ m := by simp [denL_eq]
theorem denL_getElem? (l : List SV) (i : Nat) : (denL ρ l)[i]? = (l[i]?).map (SV.den ρ) := by simp [denL_eq]

/-- Is it surely no aggregate? -/
def SV.one : SV → Bool
  | .agg _ | .tup _ | .con (.agg _) | .con (.tuple _) => false
  | _ => true
theorem SV.one_den {v : SV} (h : v.one = true) : (v.den ρ).oneCell' = true := by
  cases v <;> simp only [SV.den, Value.oneCell'] <;> try (simp [SV.one] at h; done)
  · rename_i v; cases v <;> simp_all [SV.one]
  · rename_i i; cases ρ.v i <;> simp [clean]
  · rename_i r p; cases rowAt (ρ.r r) (p.den ρ) <;> simp [clean]
theorem SV.one_cells {v : SV} (h : v.one = true) : (v.den ρ).cells = #[v.den ρ] := by
  have := SV.one_den ρ h
  cases hd : v.den ρ <;> simp_all [Value.oneCell', Value.cells]
end

def SA.bd (n : Nat) (a : SA) : Prop := a.blk < n ∧ ∀ p ∈ a.dyn, IE.bd n p.1
def SFn.bd (n : Nat) : SFn → Prop
  | .func _ => True
  | .yld m => m < n

mutual
def SV.bd (n : Nat) : SV → Prop
  | .int _ e => e.bd n
  | .bool b => b.bd n
  | .nilp | .nilf | .nili | .con _ => True
  | .ptr a => a.bd n
  | .nils l c => l.bd n ∧ c.bd n
  | .slice a l c => a.bd n ∧ l.bd n ∧ c.bd n
  | .func fn fs cs => fn.bd n ∧ bdL n fs ∧ bdL n cs
  | .iface _ v => v.bd n
  | .agg l | .tup l => bdL n l
  | .any i => i < n
  | .at r p => r < n ∧ p.bd n
  | .map i => i < n
def bdL (n : Nat) : List SV → Prop
  | [] => True
  | v :: vs => v.bd n ∧ bdL n vs
end

theorem bdL_iff {n : Nat} (l : List SV) : bdL n l ↔ ∀ v ∈ l, v.bd n := by
  induction l with
  | nil => simp [bdL]
  | cons v vs ih => simp [bdL, ih]

section
variable {U : Type} {n m : Nat} {ρ ρ' : Env U}

theorem dynDen_congr (h : Env.Agree n ρ ρ') : ∀ (d : List (IE × Nat)), (∀ p ∈ d, IE.bd n p.1) → dynDen ρ d = dynDen ρ' d
  | [], _ => rfl
  | (e, s) :: l, hb => by
    simp only [dynDen, IE.den_congr h e (hb (e, s) (by simp)), dynDen_congr h l (fun p hp => hb p (by simp [hp]))]
theorem SA.den_congr (h : Env.Agree n ρ ρ') (a : SA) (hb : a.bd n) : a.den ρ = a.den ρ' := by
  obtain ⟨b, o, d⟩ := a
  simp only [SA.den, h.k b hb.1, dynDen_congr h d hb.2]
theorem SFn.den_congr (h : Env.Agree n ρ ρ') (a : SFn) (hb : a.bd n) : a.den ρ = a.den ρ' := by
  cases a with
  | func f => rfl
  | yld m => simp only [SFn.den, h.k m hb]

mutual
theorem SV.den_congr (h : Env.Agree n ρ ρ') : ∀ v : SV, v.bd n → v.den ρ = v.den ρ'
  | .int k e, hb => by simp only [SV.bd] at hb; simp only [SV.den, IE.den_congr h e hb]
  | .bool b, hb => by simp only [SV.bd] at hb; simp only [SV.den, BE.den_congr h b hb]
  | .nilp, _ => by simp only [SV.den]
  | .nilf, _ => by simp only [SV.den]
  | .nili, _ => by simp only [SV.den]
  | .con _, _ => by simp only [SV.den]
  | .ptr a, hb => by simp only [SV.bd] at hb; simp only [SV.den, SA.den_congr h a hb]
  | .nils l c, hb => by simp only [SV.bd] at hb; simp only [SV.den, IE.den_congr h l hb.1, IE.den_congr h c hb.2]
  | .slice a l c, hb => by simp only [SV.bd] at hb; simp only [SV.den, SA.den_congr h a hb.1, IE.den_congr h l hb.2.1, IE.den_congr h c hb.2.2]
  | .func fn fs cs, hb => by simp only [SV.bd] at hb; simp only [SV.den, SFn.den_congr h fn hb.1, denL_congr h fs hb.2.1, denL_congr h cs hb.2.2]
  | .iface t v, hb => by simp only [SV.bd] at hb; simp only [SV.den, SV.den_congr h v hb]
  | .agg l, hb => by simp only [SV.bd] at hb; simp only [SV.den, denL_congr h l hb]
  | .tup l, hb => by simp only [SV.bd] at hb; simp only [SV.den, denL_congr h l hb]
  | .any i, hb => by simp only [SV.bd] at hb; simp only [SV.den, h.v i hb]
  | .at r p, hb => by simp only [SV.bd] at hb; simp only [SV.den, IE.den_congr h p hb.2, h.r r hb.1]
  | .map i, hb => by simp only [SV.bd] at hb; simp only [SV.den, h.k i hb]
theorem denL_congr (h : Env.Agree n ρ ρ') : ∀ l : List SV, bdL n l → denL ρ l = denL ρ' l
  | [], _ => by simp only [denL]
  | v :: vs, hb => by simp only [bdL] at hb; simp only [denL, SV.den_congr h v hb.1, denL_congr h vs hb.2]
end

theorem SA.bd_mono (h : n ≤ m) (a : SA) (hb : a.bd n) : a.bd m := ⟨Nat.lt_of_lt_of_le hb.1 h, fun p hp => IE.bd_mono h p.1 (hb.2 p hp)⟩
theorem SFn.bd_mono (h : n ≤ m) (a : SFn) (hb : a.bd n) : a.bd m := by
  cases a with
  | func f => trivial
  | yld k => exact Nat.lt_of_lt_of_le (show k < n from hb) h
mutual
theorem SV.bd_mono (h : n ≤ m) : ∀ v : SV, v.bd n → v.bd m
  | .int k e, hb => by simp only [SV.bd] at hb ⊢; exact IE.bd_mono h e hb
  | .bool b, hb => by simp only [SV.bd] at hb ⊢; exact BE.bd_mono h b hb
  | .nilp, _ => by simp only [SV.bd]
  | .nilf, _ => by simp only [SV.bd]
  | .nili, _ => by simp only [SV.bd]
  | .con _, _ => by simp only [SV.bd]
  | .ptr a, hb => by simp only [SV.bd] at hb ⊢; exact SA.bd_mono h a hb
  | .nils l c, hb => by simp only [SV.bd] at hb ⊢; exact ⟨IE.bd_mono h l hb.1, IE.bd_mono h c hb.2⟩
  | .slice a l c, hb => by simp only [SV.bd] at hb ⊢; exact ⟨SA.bd_mono h a hb.1, IE.bd_mono h l hb.2.1, IE.bd_mono h c hb.2.2⟩
  | .func fn fs cs, hb => by simp only [SV.bd] at hb ⊢; exact ⟨SFn.bd_mono h fn hb.1, bdL_mono h fs hb.2.1, bdL_mono h cs hb.2.2⟩
  | .iface t v, hb => by simp only [SV.bd] at hb ⊢; exact SV.bd_mono h v hb
  | .agg l, hb => by simp only [SV.bd] at hb ⊢; exact bdL_mono h l hb
  | .tup l, hb => by simp only [SV.bd] at hb ⊢; exact bdL_mono h l hb
  | .any i, hb => by simp only [SV.bd] at hb ⊢; exact Nat.lt_of_lt_of_le hb h
  | .at r p, hb => by simp only [SV.bd] at hb ⊢; exact ⟨Nat.lt_of_lt_of_le hb.1 h, IE.bd_mono h p hb.2⟩
  | .map i, hb => by simp only [SV.bd] at hb ⊢; exact Nat.lt_of_lt_of_le hb h
theorem bdL_mono (h : n ≤ m) : ∀ l : List SV, bdL n l → bdL m l
  | [], _ => by simp only [bdL]
  | v :: vs, hb => by simp only [bdL] at hb ⊢; exact ⟨SV.bd_mono h v hb.1, bdL_mono h vs hb.2⟩
end
end

/-! ### When two are one -/
def dynBeq : List (IE × Nat) → List (IE × Nat) → Bool
  | [], [] => true
  | (e, s) :: l, (e', s') :: l' => e.beq e' && Nat.beq s s' && dynBeq l l'
  | _, _ => false
def SA.beq (a b : SA) : Bool := Nat.beq a.blk b.blk && Nat.beq a.off b.off && dynBeq a.dyn b.dyn
def SFn.beq : SFn → SFn → Bool
  | .func f, .func g => Nat.beq f g
  | .yld f, .yld g => Nat.beq f g
  | _, _ => false

theorem dynBeq_eq : ∀ {a b : List (IE × Nat)}, dynBeq a b = true → a = b
  | [], [], _ => rfl
  | [], _ :: _, h => by simp [dynBeq] at h
  | _ :: _, [], h => by simp [dynBeq] at h
  | (e, s) :: l, (e', s') :: l', h => by
    simp only [dynBeq, Bool.and_eq_true] at h
    rw [IE.beq_eq h.1.1, Nat.eq_of_beq_eq_true h.1.2, dynBeq_eq h.2]
theorem SA.beq_eq {a b : SA} (h : a.beq b = true) : a = b := by
  obtain ⟨b1, o1, d1⟩ := a; obtain ⟨b2, o2, d2⟩ := b
  simp only [SA.beq, Bool.and_eq_true] at h
  rw [Nat.eq_of_beq_eq_true h.1.1, Nat.eq_of_beq_eq_true h.1.2, dynBeq_eq h.2]
theorem SFn.beq_eq {a b : SFn} (h : a.beq b = true) : a = b := by
  cases a <;> cases b <;> simp only [SFn.beq] at h <;> first | (rw [Nat.eq_of_beq_eq_true h]) | (cases h)

mutual
def SV.beq : SV → SV → Bool
  | .int k e, .int k' e' => IntKind.beq k k' && e.beq e'
  | .bool b, .bool b' => b.beq b'
  | .nilp, .nilp | .nilf, .nilf | .nili, .nili => true
  | .ptr a, .ptr a' => a.beq a'
  | .nils l c, .nils l' c' => l.beq l' && c.beq c'
  | .slice a l c, .slice a' l' c' => a.beq a' && l.beq l' && c.beq c'
  | .func fn fs cs, .func fn' fs' cs' => fn.beq fn' && beqL fs fs' && beqL cs cs'
  | .iface t v, .iface t' v' => Nat.beq t t' && v.beq v'
  | .agg l, .agg l' | .tup l, .tup l' => beqL l l'
  | .any i, .any j => Nat.beq i j
  | .at r p, .at r' p' => Nat.beq r r' && p.beq p'
  | .map i, .map j => Nat.beq i j
  | _, _ => false
def beqL : List SV → List SV → Bool
  | [], [] => true
  | v :: vs, w :: ws => v.beq w && beqL vs ws
  | _, _ => false
end

mutual
theorem SV.beq_eq : ∀ (a b : SV), a.beq b = true → a = b
  | .int k e, b, h => by
    cases b <;> simp only [SV.beq, Bool.and_eq_true, Bool.false_eq_true] at h
    rw [IntKind.beq_eq h.1, IE.beq_eq h.2]
  | .bool c, b, h => by
    cases b <;> simp only [SV.beq, Bool.false_eq_true] at h
    rw [BE.beq_eq h]
  | .nilp, b, h => by cases b <;> simp only [SV.beq, Bool.false_eq_true] at h; rfl
  | .nilf, b, h => by cases b <;> simp only [SV.beq, Bool.false_eq_true] at h; rfl
  | .nili, b, h => by cases b <;> simp only [SV.beq, Bool.false_eq_true] at h; rfl
  | .con _, b, h => by cases b <;> simp only [SV.beq, Bool.false_eq_true] at h
  | .ptr a, b, h => by
    cases b <;> simp only [SV.beq, Bool.false_eq_true] at h
    rw [SA.beq_eq h]
  | .nils l c, b, h => by
    cases b <;> simp only [SV.beq, Bool.and_eq_true, Bool.false_eq_true] at h
    rw [IE.beq_eq h.1, IE.beq_eq h.2]
  | .slice a l c, b, h => by
    cases b <;> simp only [SV.beq, Bool.and_eq_true, Bool.false_eq_true] at h
    rw [SA.beq_eq h.1.1, IE.beq_eq h.1.2, IE.beq_eq h.2]
  | .func fn fs cs, b, h => by
    cases b <;> simp only [SV.beq, Bool.and_eq_true, Bool.false_eq_true] at h
    rw [SFn.beq_eq h.1.1, beqL_eq _ _ h.1.2, beqL_eq _ _ h.2]
  | .iface t v, b, h => by
    cases b <;> simp only [SV.beq, Bool.and_eq_true, Bool.false_eq_true] at h
    rw [Nat.eq_of_beq_eq_true h.1, SV.beq_eq _ _ h.2]
  | .agg l, b, h => by
    cases b <;> simp only [SV.beq, Bool.false_eq_true] at h
    rw [beqL_eq _ _ h]
  | .tup l, b, h => by
    cases b <;> simp only [SV.beq, Bool.false_eq_true] at h
    rw [beqL_eq _ _ h]
  | .any i, b, h => by
    cases b <;> simp only [SV.beq, Bool.false_eq_true] at h
    rw [Nat.eq_of_beq_eq_true h]
  | .at r p, b, h => by
    cases b <;> simp only [SV.beq, Bool.and_eq_true, Bool.false_eq_true] at h
    rw [Nat.eq_of_beq_eq_true h.1, IE.beq_eq h.2]
  | .map i, b, h => by
    cases b <;> simp only [SV.beq, Bool.false_eq_true] at h
    rw [Nat.eq_of_beq_eq_true h]
theorem beqL_eq : ∀ (a b : List SV), beqL a b = true → a = b
  | [], b, h => by cases b <;> simp only [beqL, Bool.false_eq_true] at h; rfl
  | v :: vs, b, h => by
    cases b <;> simp only [beqL, Bool.and_eq_true, Bool.false_eq_true] at h
    rw [SV.beq_eq _ _ h.1, beqL_eq _ _ h.2]
end

/-! ### Constants of the program as symbolic values -/
def of1 : Value → SV
  | .int k n => .int k (.lit n)
  | .bool b => .bool (.lit b)
  | .pointer none => .nilp
  | .slice none l c => .nils (.lit (.ofNat l)) (.lit (.ofNat c))
  | .nilFunc => .nilf
  | .nilIface => .nili
  | v => .con v
def ofV : Value → SV
  | .agg cs => .agg (cs.toList.map of1)
  | .tuple cs => .tup (cs.toList.map of1)
  | v => of1 v

theorem of1_den {U : Type} (ρ : Env U) (v : Value) : (of1 v).den ρ = v := by
  unfold of1; split <;> simp [SV.den, IE.den, BE.den]
theorem ofV_den {U : Type} (ρ : Env U) (v : Value) : (ofV v).den ρ = v := by
  have h : ∀ l : List Value, denL ρ (l.map of1) = l := fun l => by
    rw [denL_eq, List.map_map]
    conv => rhs; rw [← List.map_id l]
    exact List.map_congr_left fun x _ => of1_den ρ x
  unfold ofV
  split
  · simp [SV.den, h]
  · simp [SV.den, h]
  · exact of1_den ρ _
theorem of1_bd (n : Nat) (v : Value) : (of1 v).bd n := by
  unfold of1; split <;> simp [SV.bd, IE.bd, BE.bd]
theorem ofV_bd (n : Nat) (v : Value) : (ofV v).bd n := by
  have h : ∀ l : List Value, bdL n (l.map of1) := fun l => (bdL_iff _).2 fun x hx => by
    obtain ⟨y, _, rfl⟩ := List.mem_map.1 hx; exact of1_bd n y
  unfold ofV
  split
  · simp [SV.bd, h]
  · simp [SV.bd, h]
  · exact of1_bd n _

end Go.Vg
