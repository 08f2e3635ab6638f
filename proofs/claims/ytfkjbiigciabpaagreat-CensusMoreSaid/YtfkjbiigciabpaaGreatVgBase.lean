/- The symbolic values of the engine: trees of rows, integers, truth values, values; what they mean under an environment. No condition. -/
import Derived.RangeFuncLeaves
import Derived.OrdersIn
import Derived.KernelRfl
namespace Go.Vg

/-! ### Trees: rows that are kept by numbers -/
inductive Tr (α : Type) where
  | lf
  | nd (v : Option α) (l r : Tr α)

namespace Tr
variable {α : Type}

def get : Tr α → Nat → Option α
  | .lf, _ => none
  | .nd v l r, n => cond (Nat.beq n 0) v (cond (Nat.beq (n % 2) 1) (l.get (n / 2)) (r.get (n / 2 - 1)))

def putF : Nat → Tr α → Nat → Option α → Tr α
  | 0, t, _, _ => t
  | f + 1, .lf, n, x => cond (Nat.beq n 0) (.nd x .lf .lf) (cond (Nat.beq (n % 2) 1) (.nd none (putF f .lf (n / 2) x) .lf) (.nd none .lf (putF f .lf (n / 2 - 1) x)))
  | f + 1, .nd v l r, n, x => cond (Nat.beq n 0) (.nd x l r) (cond (Nat.beq (n % 2) 1) (.nd v (putF f l (n / 2) x) r) (.nd v l (putF f r (n / 2 - 1) x)))

def put (t : Tr α) (n : Nat) (x : Option α) : Tr α := putF (n + 1) t n x
def set (t : Tr α) (n : Nat) (x : α) : Tr α := putF (n + 1) t n (some x)
def del (t : Tr α) (n : Nat) : Tr α := putF (n + 1) t n none

theorem get_lf (n : Nat) : (Tr.lf : Tr α).get n = none := rfl

theorem beq_true {a b : Nat} (h : a = b) : Nat.beq a b = true := by simpa using h
theorem beq_false {a b : Nat} (h : a ≠ b) : Nat.beq a b = false := by
  cases hb : Nat.beq a b with
  | false => rfl
  | true => exact absurd (by simpa using hb) h

theorem get_putF (f : Nat) : ∀ (t : Tr α) (n m : Nat) (x : Option α), n < f → (putF f t n x).get m = if m = n then x else t.get m := by
  induction f with
  | zero => intro t n m x h; omega
  | succ f ih =>
    intro t n m x h
    cases t with
    | lf =>
      by_cases h0 : n = 0
      · subst h0
        by_cases hm : m = 0
        · simp [putF, get, hm]
        · simp [putF, get, hm, beq_false hm, get_lf]
      · by_cases h1 : n % 2 = 1
        · by_cases hm : m = 0
          · have : m ≠ n := by omega
            subst hm
            simp [putF, beq_false h0, h1, get, this]
          · by_cases hm1 : m % 2 = 1
            · have e : (m = n) ↔ (m / 2 = n / 2) := by omega
              simp [putF, beq_false h0, beq_false hm, h1, hm1, get, ih .lf (n / 2) (m / 2) x (by omega), e, get_lf]
            · have : m ≠ n := by omega
              simp [putF, beq_false h0, beq_false hm, h1, beq_false hm1, get, get_lf, this]
        · by_cases hm : m = 0
          · have : m ≠ n := by omega
            subst hm
            simp [putF, beq_false h0, beq_false h1, get, this]
          · by_cases hm1 : m % 2 = 1
            · have : m ≠ n := by omega
              simp [putF, beq_false h0, beq_false hm, beq_false h1, hm1, get, get_lf, this]
            · have e : (m = n) ↔ (m / 2 - 1 = n / 2 - 1) := by omega
              simp [putF, beq_false h0, beq_false hm, beq_false h1, beq_false hm1, get, ih .lf (n / 2 - 1) (m / 2 - 1) x (by omega), e, get_lf]
    | nd v l r =>
      by_cases h0 : n = 0
      · subst h0
        by_cases hm : m = 0
        · simp [putF, get, hm]
        · simp [putF, get, hm, beq_false hm]
      · by_cases h1 : n % 2 = 1
        · by_cases hm : m = 0
          · have : m ≠ n := by omega
            subst hm
            simp [putF, beq_false h0, h1, get, this]
          · by_cases hm1 : m % 2 = 1
            · have e : (m = n) ↔ (m / 2 = n / 2) := by omega
              simp [putF, beq_false h0, beq_false hm, h1, hm1, get, ih l (n / 2) (m / 2) x (by omega), e]
            · have : m ≠ n := by omega
              simp [putF, beq_false h0, beq_false hm, h1, beq_false hm1, get, this]
        · by_cases hm : m = 0
          · have : m ≠ n := by omega
            subst hm
            simp [putF, beq_false h0, beq_false h1, get, this]
          · by_cases hm1 : m % 2 = 1
            · have : m ≠ n := by omega
              simp [putF, beq_false h0, beq_false hm, beq_false h1, hm1, get, this]
            · have e : (m = n) ↔ (m / 2 - 1 = n / 2 - 1) := by omega
              simp [putF, beq_false h0, beq_false hm, beq_false h1, beq_false hm1, get, ih r (n / 2 - 1) (m / 2 - 1) x (by omega), e]

theorem get_put (t : Tr α) (n m : Nat) (x : Option α) : (t.put n x).get m = if m = n then x else t.get m := get_putF _ t n m x (Nat.lt_succ_self n)
theorem get_set (t : Tr α) (n m : Nat) (x : α) : (t.set n x).get m = if m = n then some x else t.get m := get_putF _ t n m _ (Nat.lt_succ_self n)
theorem get_del (t : Tr α) (n m : Nat) : (t.del n).get m = if m = n then none else t.get m := get_putF _ t n m _ (Nat.lt_succ_self n)

/-- A tree of a list, its rows from a number on. -/
def ofList : List α → Nat → Tr α → Tr α
  | [], _, t => t
  | x :: xs, n, t => ofList xs (n + 1) (t.set n x)
end Tr

/-! ### Integers and truth values -/
inductive IE where
  | lit (n : Int)
  | var (i : Nat)
  | bin (op : BinOp) (k : IntKind) (a b : IE)
  | wrap (k : IntKind) (a : IE)
  | at (k : IntKind) (r : Nat) (p : IE)
  deriving Inhabited

inductive BE where
  | lit (b : Bool)
  | var (i : Nat)
  | at (r : Nat) (p : IE)
  | eql (a b : IE)
  | lss (a b : IE)
  | not (a : BE)
  | ite (c a b : BE)
  deriving Inhabited

structure Env (U : Type) where
  i : Nat → Int
  b : Nat → Bool
  k : Nat → Nat
  v : Nat → Value
  u : Nat → U
  r : Nat → List Value

/-- Two environments that agree below a number. -/
structure Env.Agree {U : Type} (n : Nat) (ρ ρ' : Env U) : Prop where
  i : ∀ j, j < n → ρ.i j = ρ'.i j
  b : ∀ j, j < n → ρ.b j = ρ'.b j
  k : ∀ j, j < n → ρ.k j = ρ'.k j
  v : ∀ j, j < n → ρ.v j = ρ'.v j
  u : ∀ j, j < n → ρ.u j = ρ'.u j
  r : ∀ j, j < n → ρ.r j = ρ'.r j

namespace Env.Agree
variable {U : Type} {n m : Nat} {ρ ρ' ρ'' : Env U}
theorem refl (n : Nat) (ρ : Env U) : Env.Agree n ρ ρ := ⟨fun _ _ => rfl, fun _ _ => rfl, fun _ _ => rfl, fun _ _ => rfl, fun _ _ => rfl, fun _ _ => rfl⟩
theorem trans (h : Env.Agree n ρ ρ') (h' : Env.Agree n ρ' ρ'') : Env.Agree n ρ ρ'' :=
  ⟨fun j l => (h.i j l).trans (h'.i j l), fun j l => (h.b j l).trans (h'.b j l), fun j l => (h.k j l).trans (h'.k j l), fun j l => (h.v j l).trans (h'.v j l), fun j l => (h.u j l).trans (h'.u j l), fun j l => (h.r j l).trans (h'.r j l)⟩
theorem mono (h : Env.Agree n ρ ρ') (hm : m ≤ n) : Env.Agree m ρ ρ' :=
  ⟨fun j l => h.i j (by omega), fun j l => h.b j (by omega), fun j l => h.k j (by omega), fun j l => h.v j (by omega), fun j l => h.u j (by omega), fun j l => h.r j (by omega)⟩
theorem symm (h : Env.Agree n ρ ρ') : Env.Agree n ρ' ρ :=
  ⟨fun j l => (h.i j l).symm, fun j l => (h.b j l).symm, fun j l => (h.k j l).symm, fun j l => (h.v j l).symm, fun j l => (h.u j l).symm, fun j l => (h.r j l).symm⟩
end Env.Agree

/-- What an operator of integers gives, as the model has it. -/
def opI (op : BinOp) (k : IntKind) (x y : Int) : Int :=
  match op with
  | .add => k.wrap (x + y)
  | .sub => k.wrap (x - y)
  | .mul => k.wrap (x * y)
  | .quo => k.wrap (x.tdiv y)
  | .rem => x.tmod y
  | .and => k.wrap ((BitVec.ofInt k.bits x &&& BitVec.ofInt k.bits y).toNat)
  | .or => k.wrap ((BitVec.ofInt k.bits x ||| BitVec.ofInt k.bits y).toNat)
  | .xor => k.wrap ((BitVec.ofInt k.bits x ^^^ BitVec.ofInt k.bits y).toNat)
  | .andNot => k.wrap ((BitVec.ofInt k.bits x &&& ~~~BitVec.ofInt k.bits y).toNat)
  | .shl => k.wrap (x * 2 ^ (min y.toNat k.bits))
  | .shr => x.fdiv (2 ^ (min y.toNat k.bits))
  | .lss => x - y
  | .gtr => x + y
  | .eql => if x = y then 0 else y
  | .geq => x * y
  | _ => 0

/-- The number, and the truth value, of a cell. -/
def intAt : Value → Int
  | .int _ n => n
  | _ => 0
def boolAt : Value → Bool
  | .bool b => b
  | _ => false
/-- A row's cell. -/
def rowAt (l : List Value) (i : Int) : Value := (l[i.toNat]?).getD .nilIface

def IE.den {U : Type} (ρ : Env U) : IE → Int
  | .lit n => n
  | .var i => ρ.i i
  | .bin op k a b => opI op k (a.den ρ) (b.den ρ)
  | .wrap k a => k.wrap (a.den ρ)
  | .at k r p => k.wrap (intAt (rowAt (ρ.r r) (p.den ρ)))

def BE.den {U : Type} (ρ : Env U) : BE → Bool
  | .lit b => b
  | .var i => ρ.b i
  | .at r p => boolAt (rowAt (ρ.r r) (p.den ρ))
  | .eql a b => decide (a.den ρ = b.den ρ)
  | .lss a b => decide (a.den ρ < b.den ρ)
  | .not a => !a.den ρ
  | .ite c a b => cond (c.den ρ) (a.den ρ) (b.den ρ)

def IE.bd (n : Nat) : IE → Prop
  | .lit _ => True
  | .var i => i < n
  | .bin _ _ a b => a.bd n ∧ b.bd n
  | .wrap _ a => a.bd n
  | .at _ r p => r < n ∧ p.bd n

def BE.bd (n : Nat) : BE → Prop
  | .lit _ => True
  | .var i => i < n
  | .at r p => r < n ∧ p.bd n
  | .eql a b | .lss a b => a.bd n ∧ b.bd n
  | .not a => a.bd n
  | .ite c a b => c.bd n ∧ a.bd n ∧ b.bd n

theorem IE.den_congr {U : Type} {n : Nat} {ρ ρ' : Env U} (h : Env.Agree n ρ ρ') : ∀ e : IE, e.bd n → e.den ρ = e.den ρ'
  | .lit _, _ => rfl
  | .var i, hb => h.i i hb
  | .bin _ _ a b, hb => by simp only [IE.den, IE.den_congr h a hb.1, IE.den_congr h b hb.2]
  | .wrap _ a, hb => by simp only [IE.den, IE.den_congr h a hb]
  | .at k r p, hb => by simp only [IE.den, IE.den_congr h p hb.2, h.r r hb.1]

theorem BE.den_congr {U : Type} {n : Nat} {ρ ρ' : Env U} (h : Env.Agree n ρ ρ') : ∀ e : BE, e.bd n → e.den ρ = e.den ρ'
  | .lit _, _ => rfl
  | .var i, hb => h.b i hb
  | .at r p, hb => by simp only [BE.den, IE.den_congr h p hb.2, h.r r hb.1]
  | .eql a b, hb => by simp only [BE.den, IE.den_congr h a hb.1, IE.den_congr h b hb.2]
  | .lss a b, hb => by simp only [BE.den, IE.den_congr h a hb.1, IE.den_congr h b hb.2]
  | .not a, hb => by simp only [BE.den, BE.den_congr h a hb]
  | .ite c a b, hb => by simp only [BE.den, BE.den_congr h c hb.1, BE.den_congr h a hb.2.1, BE.den_congr h b hb.2.2]

theorem IE.bd_mono {n m : Nat} (h : n ≤ m) : ∀ e : IE, e.bd n → e.bd m
  | .lit _, _ => trivial
  | .var i, hb => Nat.lt_of_lt_of_le (show i < n from hb) h
  | .bin _ _ a b, hb => ⟨IE.bd_mono h a hb.1, IE.bd_mono h b hb.2⟩
  | .wrap _ a, hb => IE.bd_mono h a hb
  | .at _ r p, hb => ⟨Nat.lt_of_lt_of_le hb.1 h, IE.bd_mono h p hb.2⟩

theorem BE.bd_mono {n m : Nat} (h : n ≤ m) : ∀ e : BE, e.bd n → e.bd m
  | .lit _, _ => trivial
  | .var i, hb => Nat.lt_of_lt_of_le (show i < n from hb) h
  | .at r p, hb => ⟨Nat.lt_of_lt_of_le hb.1 h, IE.bd_mono h p hb.2⟩
  | .eql a b, hb => ⟨IE.bd_mono h a hb.1, IE.bd_mono h b hb.2⟩
  | .lss a b, hb => ⟨IE.bd_mono h a hb.1, IE.bd_mono h b hb.2⟩
  | .not a, hb => BE.bd_mono h a hb
  | .ite c a b, hb => ⟨BE.bd_mono h c hb.1, BE.bd_mono h a hb.2.1, BE.bd_mono h b hb.2.2⟩

/-! ### Comparing, as the kernel does it fast -/
def ieq : Int → Int → Bool
  | .ofNat a, .ofNat b => Nat.beq a b
  | .negSucc a, .negSucc b => Nat.beq a b
  | _, _ => false

def ilt : Int → Int → Bool
  | .ofNat a, .ofNat b => Nat.blt a b
  | .negSucc a, .negSucc b => Nat.blt b a
  | .negSucc _, .ofNat _ => true
  | .ofNat _, .negSucc _ => false

theorem ieq_eq (a b : Int) : ieq a b = decide (a = b) := by
  cases a <;> cases b <;> simp [ieq] <;> (try (rw [Bool.eq_iff_iff]; simp)) <;> omega

theorem ilt_eq (a b : Int) : ilt a b = decide (a < b) := by
  cases a <;> cases b <;> simp [ilt] <;> (try (rw [Bool.eq_iff_iff]; simp [Nat.blt_eq])) <;> omega

def BinOp.beq (a b : BinOp) : Bool := Nat.beq a.ctorIdx b.ctorIdx
def IntKind.beq (a b : IntKind) : Bool := Nat.beq a.ctorIdx b.ctorIdx
theorem BinOp.beq_eq {a b : BinOp} (h : BinOp.beq a b = true) : a = b := by cases a <;> cases b <;> first | rfl | (simp [BinOp.beq] at h; done) | (exact absurd h (by decide))
theorem IntKind.beq_eq {a b : IntKind} (h : IntKind.beq a b = true) : a = b := by cases a <;> cases b <;> first | rfl | (exact absurd h (by decide))

def IE.beq : IE → IE → Bool
  | .lit a, .lit b => ieq a b
  | .var i, .var j => Nat.beq i j
  | .bin o k a b, .bin o' k' a' b' => BinOp.beq o o' && IntKind.beq k k' && a.beq a' && b.beq b'
  | .wrap k a, .wrap k' a' => IntKind.beq k k' && a.beq a'
  | .at k r a, .at k' r' a' => IntKind.beq k k' && Nat.beq r r' && a.beq a'
  | _, _ => false

theorem IE.beq_eq : ∀ {a b : IE}, a.beq b = true → a = b
  | .lit a, .lit b, h => by simp [IE.beq, ieq_eq] at h; rw [h]
  | .var i, .var j, h => by simp [IE.beq] at h; rw [h]
  | .bin o k a b, .bin o' k' a' b', h => by
    simp only [IE.beq, Bool.and_eq_true] at h
    rw [BinOp.beq_eq h.1.1.1, IntKind.beq_eq h.1.1.2, IE.beq_eq h.1.2, IE.beq_eq h.2]
  | .wrap k a, .wrap k' a', h => by
    simp only [IE.beq, Bool.and_eq_true] at h
    rw [IntKind.beq_eq h.1, IE.beq_eq h.2]
  | .at k r a, .at k' r' a', h => by
    simp only [IE.beq, Bool.and_eq_true] at h
    rw [IntKind.beq_eq h.1.1, Nat.eq_of_beq_eq_true h.1.2, IE.beq_eq h.2]
  | .lit _, .var _, h | .lit _, .bin .., h | .lit _, .wrap .., h | .lit _, .at .., h | .var _, .lit _, h | .var _, .bin .., h | .var _, .wrap .., h | .var _, .at .., h
  | .bin .., .lit _, h | .bin .., .var _, h | .bin .., .wrap .., h | .bin .., .at .., h | .wrap .., .lit _, h | .wrap .., .var _, h | .wrap .., .bin .., h | .wrap .., .at .., h
  | .at .., .lit _, h | .at .., .var _, h | .at .., .bin .., h | .at .., .wrap .., h => by simp [IE.beq] at h

def BE.beq : BE → BE → Bool
  | .lit a, .lit b => a == b
  | .var i, .var j => Nat.beq i j
  | .at r a, .at r' a' => Nat.beq r r' && a.beq a'
  | .eql a b, .eql a' b' => a.beq a' && b.beq b'
  | .lss a b, .lss a' b' => a.beq a' && b.beq b'
  | .not a, .not b => a.beq b
  | .ite c a b, .ite c' a' b' => c.beq c' && a.beq a' && b.beq b'
  | _, _ => false

theorem BE.beq_eq : ∀ {a b : BE}, a.beq b = true → a = b
  | .lit a, .lit b, h => by simp [BE.beq] at h; rw [h]
  | .var i, .var j, h => by simp [BE.beq] at h; rw [h]
  | .at r a, .at r' a', h => by
    simp only [BE.beq, Bool.and_eq_true] at h
    rw [Nat.eq_of_beq_eq_true h.1, IE.beq_eq h.2]
  | .eql a b, .eql a' b', h => by
    simp only [BE.beq, Bool.and_eq_true] at h
    rw [IE.beq_eq h.1, IE.beq_eq h.2]
  | .lss a b, .lss a' b', h => by
    simp only [BE.beq, Bool.and_eq_true] at h
    rw [IE.beq_eq h.1, IE.beq_eq h.2]
  | .not a, .not b, h => by rw [BE.beq_eq (a := a) (b := b) h]
  | .ite c a b, .ite c' a' b', h => by
    simp only [BE.beq, Bool.and_eq_true] at h
    rw [BE.beq_eq h.1.1, BE.beq_eq h.1.2, BE.beq_eq h.2]
  | .at .., .lit _, h | .at .., .var _, h | .at .., .eql .., h | .at .., .lss .., h | .at .., .not _, h | .at .., .ite .., h
  | .lit _, .at .., h | .var _, .at .., h | .eql .., .at .., h | .lss .., .at .., h | .not _, .at .., h | .ite .., .at .., h
  | .lit _, .var _, h | .lit _, .eql .., h | .lit _, .lss .., h | .lit _, .not _, h | .lit _, .ite .., h
  | .var _, .lit _, h | .var _, .eql .., h | .var _, .lss .., h | .var _, .not _, h | .var _, .ite .., h
  | .eql .., .lit _, h | .eql .., .var _, h | .eql .., .lss .., h | .eql .., .not _, h | .eql .., .ite .., h
  | .lss .., .lit _, h | .lss .., .var _, h | .lss .., .eql .., h | .lss .., .not _, h | .lss .., .ite .., h
  | .not _, .lit _, h | .not _, .var _, h | .not _, .eql .., h | .not _, .lss .., h | .not _, .ite .., h
  | .ite .., .lit _, h | .ite .., .var _, h | .ite .., .eql .., h | .ite .., .lss .., h | .ite .., .not _, h => by simp [BE.beq] at h

/-! ### Folding -/
def mask (k : IntKind) : Nat := match k with | .i8 | .u8 => 256 | .i16 | .u16 => 65536 | .i32 | .u32 => 4294967296 | .i64 | .u64 => 18446744073709551616
def half (k : IntKind) : Nat := match k with | .i8 | .u8 => 128 | .i16 | .u16 => 32768 | .i32 | .u32 => 2147483648 | .i64 | .u64 => 9223372036854775808
theorem mask_eq (k : IntKind) : (mask k : Int) = 2 ^ k.bits := by cases k <;> rfl
theorem mask_eq' (k : IntKind) : mask k = 2 ^ k.bits := by cases k <;> rfl
theorem half_eq (k : IntKind) : (half k : Int) = 2 ^ (k.bits - 1) := by cases k <;> rfl

/-- What is left of an integer by a power of two, as a natural number. -/
def low (k : IntKind) : Int → Nat
  | .ofNat n => n % mask k
  | .negSucc n => mask k - 1 - n % mask k

theorem low_eq (k : IntKind) (n : Int) : (low k n : Int) = n % 2 ^ k.bits := by
  have hm := mask_eq k
  have hp : 0 < mask k := by cases k <;> decide
  rw [← hm]
  cases n with
  | ofNat n => simp [low]
  | negSucc n =>
    have h1 : n % mask k < mask k := Nat.mod_lt _ hp
    have h2 := Int.negSucc_emod n (b := (mask k : Int)) (by omega)
    rw [h2]
    simp only [low]
    have h3 : ((n % mask k : Nat) : Int) = (n : Int) % (mask k : Int) := by simp
    omega

def wrapF (k : IntKind) (n : Int) : Int :=
  let m := low k n
  cond (k.signed && Nat.ble (half k) m) (Int.subNatNat m (mask k)) (.ofNat m)

theorem wrapF_eq (k : IntKind) (n : Int) : wrapF k n = k.wrap n := by
  have h2 := half_eq k
  have h3 := mask_eq k
  have h1 : (low k n : Int) = n % (mask k : Int) := by rw [h3]; exact low_eq k n
  simp only [wrapF, IntKind.wrap, ← h2, ← h3, ← h1]
  cases hs : k.signed with
  | false => simp
  | true =>
    by_cases hl : half k ≤ low k n
    · have hb : Nat.ble (half k) (low k n) = true := by rw [Nat.ble_eq]; exact hl
      simp [hl, hb, Int.subNatNat_eq_coe]
    · have hb : Nat.ble (half k) (low k n) = false := by
        cases h : Nat.ble (half k) (low k n) with
        | false => rfl
        | true => exact absurd (Nat.le_of_ble_eq_true h) hl
      simp [hl, hb]

def foldI (op : BinOp) (k : IntKind) (x y : Int) : Int :=
  match op with
  | .add => wrapF k (x + y)
  | .sub => wrapF k (x - y)
  | .mul => wrapF k (x * y)
  | .quo => wrapF k (x.tdiv y)
  | .rem => x.tmod y
  | .and => wrapF k (.ofNat (Nat.land (low k x) (low k y)))
  | .or => wrapF k (.ofNat (Nat.lor (low k x) (low k y)))
  | .xor => wrapF k (.ofNat (Nat.xor (low k x) (low k y)))
  | .shl => wrapF k (x * .ofNat (2 ^ (min y.toNat k.bits)))
  | .shr => x.fdiv (.ofNat (2 ^ (min y.toNat k.bits)))
  | op => opI op k x y

theorem toNat_ofInt (k : IntKind) (x : Int) : (BitVec.ofInt k.bits x).toNat = low k x := by
  have h := low_eq k x
  rw [BitVec.toNat_ofInt]
  have : ((2 ^ k.bits : Nat) : Int) = 2 ^ k.bits := by simp
  rw [this, ← h]
  simp

theorem foldI_eq (op : BinOp) (k : IntKind) (x y : Int) : foldI op k x y = opI op k x y := by
  cases op <;> simp only [foldI, opI, wrapF_eq]
  · rw [BitVec.toNat_and, toNat_ofInt, toNat_ofInt]; rfl
  · rw [BitVec.toNat_or, toNat_ofInt, toNat_ofInt]; rfl
  · rw [BitVec.toNat_xor, toNat_ofInt, toNat_ofInt]; rfl
  · simp
  · simp

def mkBin (op : BinOp) (k : IntKind) : IE → IE → IE
  | .lit x, .lit y => .lit (foldI op k x y)
  | a, b => .bin op k a b
def mkWrap (k : IntKind) : IE → IE
  | .lit x => .lit (wrapF k x)
  | a => .wrap k a
def mkEql : IE → IE → BE
  | .lit x, .lit y => .lit (ieq x y)
  | .lit x, b => .eql b (.lit x)
  | a, b => cond (a.beq b) (.lit true) (.eql a b)
def mkLss : IE → IE → BE
  | .lit x, .lit y => .lit (ilt x y)
  | a, b => .lss a b
def mkNot : BE → BE
  | .lit b => .lit (!b)
  | .not a => a
  | a => .not a

section
variable {U : Type} (ρ : Env U)
theorem mkBin_den (op : BinOp) (k : IntKind) (a b : IE) : (mkBin op k a b).den ρ = opI op k (a.den ρ) (b.den ρ) := by
  unfold mkBin; split <;> simp [IE.den, foldI_eq]
theorem mkWrap_den (k : IntKind) (a : IE) : (mkWrap k a).den ρ = k.wrap (a.den ρ) := by
  unfold mkWrap; split <;> simp [IE.den, wrapF_eq]
theorem mkEql_den (a b : IE) : (mkEql a b).den ρ = decide (a.den ρ = b.den ρ) := by
  unfold mkEql
  split
  · exact ieq_eq _ _
  · simp only [BE.den]; rw [Bool.eq_iff_iff, decide_eq_true_iff, decide_eq_true_iff]; exact eq_comm
  · cases h : a.beq b with
    | true => rw [IE.beq_eq h]; simp [BE.den]
    | false => rfl
theorem mkLss_den (a b : IE) : (mkLss a b).den ρ = decide (a.den ρ < b.den ρ) := by
  unfold mkLss
  split
  · exact ilt_eq _ _
  · rfl
theorem mkNot_den (a : BE) : (mkNot a).den ρ = !a.den ρ := by
  unfold mkNot; split <;> simp [BE.den]
end

theorem mkBin_bd {n : Nat} {op : BinOp} {k : IntKind} {a b : IE} (ha : a.bd n) (hb : b.bd n) : (mkBin op k a b).bd n := by
  unfold mkBin; split
  · trivial
  · exact ⟨ha, hb⟩
theorem mkWrap_bd {n : Nat} {k : IntKind} {a : IE} (ha : a.bd n) : (mkWrap k a).bd n := by
  unfold mkWrap; split
  · trivial
  · exact ha
theorem mkEql_bd {n : Nat} {a b : IE} (ha : a.bd n) (hb : b.bd n) : (mkEql a b).bd n := by
  unfold mkEql; split
  · trivial
  · exact ⟨hb, ha⟩
  · cases a.beq b with
    | true => trivial
    | false => exact ⟨ha, hb⟩
theorem mkLss_bd {n : Nat} {a b : IE} (ha : a.bd n) (hb : b.bd n) : (mkLss a b).bd n := by
  unfold mkLss; split
  · trivial
  · exact ⟨ha, hb⟩
theorem mkNot_bd {n : Nat} {a : BE} (ha : a.bd n) : (mkNot a).bd n := by
  unfold mkNot; split
  · trivial
  · exact ha
  · exact ha

end Go.Vg
