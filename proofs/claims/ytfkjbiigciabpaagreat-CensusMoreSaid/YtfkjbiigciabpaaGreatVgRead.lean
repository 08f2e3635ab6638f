/- The engine's operations that change no memory: what they give, symbolically, and that the model gives it. Conditions: the table of types is the program's. -/
import Derived.Test.YtfkjbiigciabpaaGreatVgHeap
import Derived.Laws.Cells
namespace Go.Vg

/-! ### The table of types -/
structure TI where
  size : Nat
  bytes : Nat
  und : TypeDesc
  zero : Option Value
  eq : List (Option IntKind)

/-- Rows of integers and truth values of a shape. -/
def Shaped : List (Option IntKind) → List Value → Prop
  | [], [] => True
  | some k :: s, .int k' _ :: vs => k' = k ∧ Shaped s vs
  | none :: s, .bool _ :: vs => Shaped s vs
  | _, _ => False

def eq1 : Value → Value → Bool
  | .int _ a, .int _ b => a == b
  | .bool a, .bool b => a == b
  | _, _ => false
def eqVs : List Value → List Value → Bool
  | [], [] => true
  | a :: as, b :: bs => eq1 a b && eqVs as bs
  | _, _ => false

/-- Two values of a type are one if their cells are. -/
def EqOk (P : Program) (t : Nat) (s : List (Option IntKind)) : Prop :=
  P.eqGuardType P.depth t = false ∧ ∀ (w : World) (a b : List Value), Shaped s a → Shaped s b → (Op.equalIn 10000 t (.agg a.toArray) (.agg b.toArray)).run P w = .ok (eqVs a b) w

def TyOk (P : Program) (t : Nat) (i : TI) : Prop :=
  ∃ info, P.info? t = some info ∧ info.size = i.size ∧ info.bytes = i.bytes ∧ info.zero = i.zero ∧ P.underlying t = some i.und ∧ (i.eq = [] ∨ EqOk P t i.eq)

def aggOf : TypeDesc → Bool
  | .struct _ | .array _ _ => true
  | _ => false

section
variable {P : Program} {t : Nat} {i : TI} (h : TyOk P t i) (w : World)
include h
theorem run_typeInfo : ∃ info : TypeInfo, (typeInfo t).run P w = .ok info w ∧ info.size = i.size ∧ info.bytes = i.bytes ∧ info.zero = i.zero := by
  obtain ⟨info, h1, h2, h3, h4, _⟩ := h
  exact ⟨info, by simp [typeInfo, h1], h2, h3, h4⟩
theorem run_sizeOf : (sizeOf t).run P w = .ok i.size w := by
  obtain ⟨info, h1, h2, _⟩ := h
  simp [sizeOf, typeInfo, h1, h2]
theorem run_underlying' : (underlying t).run P w = .ok i.und w := by
  obtain ⟨info, h1, h2, h3, h4, h5, _⟩ := h
  simp [underlying, h5]
theorem run_isAgg : (isAgg t).run P w = .ok (aggOf i.und) w := by
  simp only [isAgg, Sem.run_bind, run_underlying' h]
  cases i.und <;> simp [aggOf]
theorem run_zeroValue {z : Value} (hz : i.zero = some z) : (zeroValue t).run P w = .ok z w := by
  obtain ⟨info, h1, h2, h3, h4, h5⟩ := h
  simp [zeroValue, typeInfo, h1, h4, hz]
end

/-! ### What is known on a path -/
def lookC : List PI → BE → Option Bool
  | [], _ => none
  | .cond b w :: ps, c => cond (b.beq c) (some w) (lookC ps c)
  | _ :: ps, c => lookC ps c
def valP : PI → IE → Option Int
  | .cond (.eql a (.lit m)) true, e => cond (a.beq e) (some m) none
  | _, _ => none
def valC : List PI → IE → Option Int
  | [], _ => none
  | p :: ps, e => match valP p e with | some m => some m | none => valC ps e
def valOf (ps : List PI) : IE → Option Int
  | .lit n => some n
  | e => valC ps e

/-! ### Bounds of numbers -/
def minK : IntKind → Int | .i8 => -128 | .i16 => -32768 | .i32 => -2147483648 | .i64 => -9223372036854775808 | _ => 0
def maxK : IntKind → Int | .i8 => 127 | .i16 => 32767 | .i32 => 2147483647 | .i64 => 9223372036854775807 | .u8 => 255 | .u16 => 65535 | .u32 => 4294967295 | .u64 => 18446744073709551615
theorem wrap_in {k : IntKind} {n : Int} (h1 : minK k ≤ n) (h2 : n ≤ maxK k) : k.wrap n = n := by
  cases k <;> simp only [minK, maxK] at h1 h2 <;> simp [IntKind.wrap, IntKind.bits, IntKind.signed] <;> omega
theorem wrap_range (k : IntKind) (n : Int) : minK k ≤ k.wrap n ∧ k.wrap n ≤ maxK k := by
  cases k <;> simp only [minK, maxK] <;> simp [IntKind.wrap, IntKind.bits, IntKind.signed] <;> omega

structure Iv where
  lo : Option Int
  hi : Option Int
def Iv.top : Iv := ⟨none, none⟩
def Iv.full (k : IntKind) : Iv := ⟨some (minK k), some (maxK k)⟩
def Iv.In (v : Iv) (x : Int) : Prop := (∀ l, v.lo = some l → l ≤ x) ∧ (∀ h, v.hi = some h → x ≤ h)
def loMax : Option Int → Option Int → Option Int
  | some a, some b => some (cond (ilt a b) b a)
  | none, b => b
  | a, none => a
def hiMin : Option Int → Option Int → Option Int
  | some a, some b => some (cond (ilt a b) a b)
  | none, b => b
  | a, none => a
def Iv.meet (a b : Iv) : Iv := ⟨loMax a.lo b.lo, hiMin a.hi b.hi⟩
def op2 (f : Int → Int → Int) : Option Int → Option Int → Option Int
  | some a, some b => some (f a b)
  | _, _ => none
/-- Within a kind, or anything of it. -/
def inK (k : IntKind) (v : Iv) : Iv :=
  match v.lo, v.hi with
  | some l, some h => cond (!ilt l (minK k) && !ilt (maxK k) h) v (Iv.full k)
  | _, _ => Iv.full k
def geZ : Option Int → Bool
  | some l => !ilt l 0
  | none => false
def exact (v : Iv) : Option Int :=
  match v.lo, v.hi with
  | some l, some h => cond (ieq l h) (some l) none
  | _, _ => none
def binIv (op : BinOp) (k : IntKind) (x y : Iv) : Iv :=
  match op with
  | .add => inK k ⟨op2 (· + ·) x.lo y.lo, op2 (· + ·) x.hi y.hi⟩
  | .sub => inK k ⟨op2 (· - ·) x.lo y.hi, op2 (· - ·) x.hi y.lo⟩
  | .mul => cond (geZ x.lo && geZ y.lo) (inK k ⟨op2 (· * ·) x.lo y.lo, op2 (· * ·) x.hi y.hi⟩) (Iv.full k)
  | .quo => match exact y with
    | some n => cond (geZ x.lo && ilt 0 n) (inK k ⟨x.lo.map (· / n), x.hi.map (· / n)⟩) (Iv.full k)
    | none => Iv.full k
  | .rem => match exact y with
    | some n => cond (ilt 0 n) (cond (geZ x.lo) ⟨some 0, hiMin x.hi (some (n - 1))⟩ ⟨some (1 - n), some (n - 1)⟩) Iv.top
    | none => Iv.top
  | .and => match y.hi with
    | some h => cond (geZ y.lo && !ilt (maxK k) h) ⟨some 0, some h⟩ (Iv.full k)
    | none => Iv.full k
  | .or | .xor | .andNot | .shl => Iv.full k
  | .shr => match exact y with
    | some n => cond (ilt n 0) Iv.top ⟨x.lo.map fun l => l.fdiv (.ofNat (2 ^ (min n.toNat k.bits))), x.hi.map fun h => h.fdiv (.ofNat (2 ^ (min n.toNat k.bits)))⟩
    | none => cond (geZ x.lo) ⟨some 0, x.hi⟩ Iv.top
  | .gtr => ⟨op2 (· + ·) x.lo y.lo, op2 (· + ·) x.hi y.hi⟩
  | .lss => ⟨op2 (· - ·) x.lo y.hi, op2 (· - ·) x.hi y.lo⟩
  | .geq => cond (geZ x.lo && geZ y.lo) ⟨op2 (· * ·) x.lo y.lo, op2 (· * ·) x.hi y.hi⟩ Iv.top
  | _ => Iv.top
def piIv (p : PI) (e : IE) : Iv :=
  match p with
  | .cond (.lss x (.lit c)) w => cond (x.beq e) (cond w ⟨none, some (c - 1)⟩ ⟨some c, none⟩) Iv.top
  | .cond (.lss (.lit c) x) w => cond (x.beq e) (cond w ⟨some (c + 1), none⟩ ⟨none, some c⟩) Iv.top
  | .cond (.eql x (.lit c)) true => cond (x.beq e) ⟨some c, some c⟩ Iv.top
  | .rng k x => cond (x.beq e) (Iv.full k) Iv.top
  | _ => Iv.top
def pathIv : List PI → IE → Iv
  | [], _ => Iv.top
  | p :: ps, e => (piIv p e).meet (pathIv ps e)
def ivl (ps : List PI) : IE → Iv
  | .lit n => ⟨some n, some n⟩
  | .var i => pathIv ps (.var i)
  | .wrap k a => (pathIv ps (.wrap k a)).meet (inK k (ivl ps a))
  | .bin op k a b => (pathIv ps (.bin op k a b)).meet (binIv op k (ivl ps a) (ivl ps b))
  | .at k r p => (pathIv ps (.at k r p)).meet (Iv.full k)
def rngB (ps : List PI) (k : IntKind) (e : IE) : Bool :=
  match (ivl ps e).lo, (ivl ps e).hi with
  | some l, some h => !ilt l (minK k) && !ilt (maxK k) h
  | _, _ => false
def ivLss (a b : Iv) : Option Bool :=
  match a.hi, b.lo with
  | some h, some l => cond (ilt h l) (some true) (match a.lo, b.hi with | some l', some h' => cond (ilt l' h') none (some false) | _, _ => none)
  | _, _ => match a.lo, b.hi with | some l', some h' => cond (ilt l' h') none (some false) | _, _ => none
def ivEql (a b : Iv) : Option Bool :=
  match ivLss a b with
  | some true => some false
  | _ => match ivLss b a with
    | some true => some false
    | _ => none

namespace Iv
theorem top_in (x : Int) : Iv.top.In x := ⟨fun _ h => (by cases h), fun _ h => (by cases h)⟩
theorem full_in {k : IntKind} {x : Int} (h : k.wrap x = x) : (Iv.full k).In x := by
  have := wrap_range k x
  rw [h] at this
  exact ⟨fun l hl => by cases hl; exact this.1, fun l hl => by cases hl; exact this.2⟩
theorem full_wrap (k : IntKind) (x : Int) : (Iv.full k).In (k.wrap x) := by
  have := wrap_range k x
  exact ⟨fun l hl => by cases hl; exact this.1, fun l hl => by cases hl; exact this.2⟩
theorem ltN {a b : Int} : ilt a b = true ↔ a < b := by rw [ilt_eq]; exact decide_eq_true_iff
theorem ltF {a b : Int} : ilt a b = false ↔ b ≤ a := by rw [ilt_eq, decide_eq_false_iff_not]; omega
theorem meet_in {a b : Iv} {x : Int} (h1 : a.In x) (h2 : b.In x) : (a.meet b).In x := by
  obtain ⟨al, ah⟩ := a
  obtain ⟨bl, bh⟩ := b
  refine ⟨fun l hl => ?_, fun h hh => ?_⟩
  · simp only [Iv.meet] at hl
    unfold loMax at hl
    split at hl
    · rename_i p q
      have p1 := h1.1 p rfl
      have p2 := h2.1 q rfl
      simp only [Option.some.injEq] at hl
      cases hc : ilt p q <;> rw [hc] at hl <;> simp only [cond_true, cond_false] at hl <;> omega
    · exact h2.1 l hl
    · exact h1.1 l hl
  · simp only [Iv.meet] at hh
    unfold hiMin at hh
    split at hh
    · rename_i p q
      have p1 := h1.2 p rfl
      have p2 := h2.2 q rfl
      simp only [Option.some.injEq] at hh
      cases hc : ilt p q <;> rw [hc] at hh <;> simp only [cond_true, cond_false] at hh <;> omega
    · exact h2.2 h hh
    · exact h1.2 h hh
theorem inK_in {k : IntKind} {v : Iv} {x : Int} (h : v.In x) : (inK k v).In (k.wrap x) := by
  unfold inK
  split
  · rename_i l u hl hu
    have h1 := h.1 l hl
    have h2 := h.2 u hu
    cases hc : (!ilt l (minK k) && !ilt (maxK k) u) with
    | true =>
      simp only [cond_true]
      simp only [Bool.and_eq_true, Bool.not_eq_true', ltF] at hc
      rw [wrap_in (by omega) (by omega)]; exact h
    | false => exact full_wrap k x
  · exact full_wrap k x
theorem geZ_le {v : Iv} {x : Int} (h : v.In x) (hz : geZ v.lo = true) : 0 ≤ x := by
  unfold geZ at hz
  split at hz
  · rename_i l hl
    have := h.1 l hl
    simp only [Bool.not_eq_true', ltF] at hz
    omega
  · cases hz
theorem exact_eq {v : Iv} {x n : Int} (h : v.In x) (hn : exact v = some n) : x = n := by
  unfold exact at hn
  split at hn
  · rename_i l u hl hu
    have h1 := h.1 l hl
    have h2 := h.2 u hu
    cases hc : ieq l u with
    | true =>
      rw [hc] at hn
      simp only [cond_true, Option.some.injEq] at hn
      rw [ieq_eq] at hc
      have := of_decide_eq_true hc
      omega
    | false => rw [hc] at hn; cases hn
  · cases hn
theorem op2_some {f : Int → Int → Int} {a b : Option Int} {c : Int} (h : op2 f a b = some c) : ∃ x y, a = some x ∧ b = some y ∧ f x y = c := by
  unfold op2 at h
  split at h
  · rename_i x y; simp only [Option.some.injEq] at h; exact ⟨x, y, rfl, rfl, h⟩
  · cases h
theorem add_in {a b : Iv} {x y : Int} (h1 : a.In x) (h2 : b.In y) : (Iv.mk (op2 (· + ·) a.lo b.lo) (op2 (· + ·) a.hi b.hi)).In (x + y) := by
  refine ⟨fun l hl => ?_, fun l hl => ?_⟩
  · obtain ⟨p, q, e1, e2, e3⟩ := op2_some hl
    have := h1.1 p e1; have := h2.1 q e2; omega
  · obtain ⟨p, q, e1, e2, e3⟩ := op2_some hl
    have := h1.2 p e1; have := h2.2 q e2; omega
theorem sub_in {a b : Iv} {x y : Int} (h1 : a.In x) (h2 : b.In y) : (Iv.mk (op2 (· - ·) a.lo b.hi) (op2 (· - ·) a.hi b.lo)).In (x - y) := by
  refine ⟨fun l hl => ?_, fun l hl => ?_⟩
  · obtain ⟨p, q, e1, e2, e3⟩ := op2_some hl
    have := h1.1 p e1; have := h2.2 q e2; omega
  · obtain ⟨p, q, e1, e2, e3⟩ := op2_some hl
    have := h1.2 p e1; have := h2.1 q e2; omega
theorem mul_in {a b : Iv} {x y : Int} (h1 : a.In x) (h2 : b.In y) (z1 : geZ a.lo = true) (z2 : geZ b.lo = true) : (Iv.mk (op2 (· * ·) a.lo b.lo) (op2 (· * ·) a.hi b.hi)).In (x * y) := by
  have x0 := geZ_le h1 z1
  have y0 := geZ_le h2 z2
  refine ⟨fun l hl => ?_, fun l hl => ?_⟩
  · obtain ⟨p, q, e1, e2, e3⟩ := op2_some hl
    have g1 := h1.1 p e1
    have g2 := h2.1 q e2
    rw [e1] at z1
    rw [e2] at z2
    simp only [geZ, Bool.not_eq_true', ltF] at z1 z2
    rw [← e3]
    exact Int.mul_le_mul g1 g2 z2 x0
  · obtain ⟨p, q, e1, e2, e3⟩ := op2_some hl
    have g1 := h1.2 p e1
    have g2 := h2.2 q e2
    rw [← e3]
    exact Int.mul_le_mul g1 g2 y0 (by omega)

theorem binIv_in {op : BinOp} {k : IntKind} {a b : Iv} {x y : Int} (h1 : a.In x) (h2 : b.In y) : (binIv op k a b).In (opI op k x y) := by
  cases op <;> simp only [binIv, opI]
  case add => exact inK_in (add_in h1 h2)
  case sub => exact inK_in (sub_in h1 h2)
  case mul =>
    cases hc : (geZ a.lo && geZ b.lo) with
    | true =>
      rw [Bool.and_eq_true] at hc
      exact inK_in (mul_in h1 h2 hc.1 hc.2)
    | false => exact full_wrap _ _
  case quo =>
    split
    · rename_i n hn
      have e := exact_eq h2 hn
      subst e
      cases hc : (geZ a.lo && ilt 0 y) with
      | true =>
        rw [Bool.and_eq_true, ltN] at hc
        have x0 := geZ_le h1 hc.1
        have hq : x.tdiv y = x / y := Int.tdiv_eq_ediv_of_nonneg x0
        rw [hq]
        refine inK_in ⟨fun l hl => ?_, fun l hl => ?_⟩
        · obtain ⟨p, hp, rfl⟩ := Option.map_eq_some_iff.1 hl
          exact Int.ediv_le_ediv hc.2 (h1.1 p hp)
        · obtain ⟨p, hp, rfl⟩ := Option.map_eq_some_iff.1 hl
          exact Int.ediv_le_ediv hc.2 (h1.2 p hp)
      | false => exact full_wrap _ _
    · exact full_wrap _ _
  case rem =>
    split
    · rename_i n hn
      have e := exact_eq h2 hn
      subst e
      cases hp : ilt 0 y with
      | false => exact top_in _
      | true =>
        rw [ltN] at hp
        simp only [cond_true]
        cases hz : geZ a.lo with
        | true =>
          have x0 := geZ_le h1 hz
          have hm : x.tmod y = x % y := Int.tmod_eq_emod_of_nonneg x0
          have g1 := Int.emod_nonneg x (by omega : y ≠ 0)
          have g2 := Int.emod_lt_of_pos x hp
          have g3 : x % y ≤ x := by
            have h5 : 0 ≤ y * (x / y) := Int.mul_nonneg (by omega) (Int.ediv_nonneg x0 (by omega))
            have := Int.mul_ediv_add_emod x y
            omega
          rw [hm]
          simp only [cond_true]
          refine (meet_in (a := ⟨none, a.hi⟩) (b := ⟨some 0, some (y - 1)⟩) ⟨fun _ h => (by cases h), fun h hh => by have := h1.2 h hh; omega⟩ ⟨fun l hl => by cases hl; exact g1, fun l hl => by cases hl; omega⟩)
        | false =>
          simp only [cond_false]
          have g1 := Int.tmod_lt_of_pos x hp
          have g2 := Int.lt_tmod_of_pos x hp
          exact ⟨fun l hl => by cases hl; omega, fun l hl => by cases hl; omega⟩
    · exact top_in _
  case and =>
    split
    · rename_i h hh
      cases hc : (geZ b.lo && !ilt (maxK k) h) with
      | true =>
        simp only [Bool.and_eq_true, Bool.not_eq_true', ltF] at hc
        have y0 := geZ_le h2 hc.1
        have y1 := h2.2 h hh
        have hle : ((BitVec.ofInt k.bits x &&& BitVec.ofInt k.bits y).toNat : Int) ≤ y := by
          rw [BitVec.toNat_and]
          have g1 : (BitVec.ofInt k.bits x).toNat &&& (BitVec.ofInt k.bits y).toNat ≤ (BitVec.ofInt k.bits y).toNat := Nat.and_le_right
          rw [toNat_ofInt k y] at g1 ⊢
          have g2 := low_eq k y
          have g3 : y % 2 ^ k.bits ≤ y := by
            have h5 := Int.mul_ediv_add_emod y (2 ^ k.bits)
            have h6 : (0 : Int) < 2 ^ k.bits := Int.pow_pos (by omega)
            have h7 : 0 ≤ (2 ^ k.bits : Int) * (y / 2 ^ k.bits) := Int.mul_nonneg (by omega) (Int.ediv_nonneg y0 (by omega))
            omega
          rw [← g2] at g3
          omega
        have hmin : minK k ≤ 0 := by cases k <;> simp [minK]
        rw [wrap_in (by omega) (by omega)]
        simp only [cond_true]
        exact ⟨fun l hl => by cases hl; exact Int.natCast_nonneg _, fun l hl => by cases hl; omega⟩
      | false => exact full_wrap _ _
    · exact full_wrap _ _
  case or => exact full_wrap _ _
  case xor => exact full_wrap _ _
  case andNot => exact full_wrap _ _
  case shl => exact full_wrap _ _
  case shr =>
    split
    · rename_i n hn
      have e := exact_eq h2 hn
      subst e
      cases hc : ilt y 0 with
      | true => exact top_in _
      | false =>
        simp only [cond_false]
        have hpos : (0 : Int) < 2 ^ (min y.toNat k.bits) := Int.pow_pos (by omega)
        have e2 : (Int.ofNat (2 ^ (min y.toNat k.bits)) : Int) = 2 ^ (min y.toNat k.bits) := by simp
        refine ⟨fun l hl => ?_, fun l hl => ?_⟩
        · obtain ⟨p, hp, rfl⟩ := Option.map_eq_some_iff.1 hl
          rw [e2, Int.fdiv_eq_ediv_of_nonneg _ (by omega), Int.fdiv_eq_ediv_of_nonneg _ (by omega)]
          exact Int.ediv_le_ediv hpos (h1.1 p hp)
        · obtain ⟨p, hp, rfl⟩ := Option.map_eq_some_iff.1 hl
          rw [e2, Int.fdiv_eq_ediv_of_nonneg _ (by omega), Int.fdiv_eq_ediv_of_nonneg _ (by omega)]
          exact Int.ediv_le_ediv hpos (h1.2 p hp)
    · cases hz : geZ a.lo with
      | false => exact top_in _
      | true =>
        have x0 := geZ_le h1 hz
        have hpos : (0 : Int) < 2 ^ (min y.toNat k.bits) := Int.pow_pos (by omega)
        rw [Int.fdiv_eq_ediv_of_nonneg _ (by omega)]
        have g1 := Int.ediv_nonneg x0 (by omega : (0 : Int) ≤ 2 ^ (min y.toNat k.bits))
        have g2 := Int.ediv_le_self (2 ^ (min y.toNat k.bits)) x0
        simp only [cond_true]
        exact ⟨fun l hl => by cases hl; exact g1, fun l hl => by have := h1.2 l hl; omega⟩
  case gtr => exact add_in h1 h2
  case lss => exact sub_in h1 h2
  case geq =>
    cases hc : (geZ a.lo && geZ b.lo) with
    | true =>
      rw [Bool.and_eq_true] at hc
      exact mul_in h1 h2 hc.1 hc.2
    | false => exact top_in _
  all_goals exact top_in _
end Iv

section
variable {U : Type} {I : Interp U} {ρ : Env U}
theorem piIv_in {p : PI} {e : IE} (h : p.holds I ρ) : (piIv p e).In (e.den ρ) := by
  have tst : ∀ {x : IE} {v : Iv}, (x.beq e = true → v.In (e.den ρ)) → (cond (x.beq e) v Iv.top).In (e.den ρ) := fun {x v} hv => by
    cases hb : x.beq e with
    | true => exact hv hb
    | false => exact Iv.top_in _
  unfold piIv
  split
  · rename_i x c w
    refine tst fun hb => ?_
    rw [← IE.beq_eq hb]
    cases w with
    | true => have : x.den ρ < c := of_decide_eq_true h; exact ⟨fun l hl => (by cases hl), fun l hl => by cases hl; omega⟩
    | false => have : ¬ x.den ρ < c := of_decide_eq_false h; exact ⟨fun l hl => by cases hl; omega, fun l hl => (by cases hl)⟩
  · rename_i c x w _
    refine tst fun hb => ?_
    rw [← IE.beq_eq hb]
    cases w with
    | true => have : c < x.den ρ := of_decide_eq_true h; exact ⟨fun l hl => by cases hl; omega, fun l hl => (by cases hl)⟩
    | false => have : ¬ c < x.den ρ := of_decide_eq_false h; exact ⟨fun l hl => (by cases hl), fun l hl => by cases hl; omega⟩
  · rename_i x c
    refine tst fun hb => ?_
    rw [← IE.beq_eq hb]
    have : x.den ρ = c := of_decide_eq_true h
    exact ⟨fun l hl => by cases hl; omega, fun l hl => by cases hl; omega⟩
  · rename_i k x
    refine tst fun hb => ?_
    rw [← IE.beq_eq hb]
    exact Iv.full_in h
  · exact Iv.top_in _
theorem pathIv_in : ∀ {ps : List PI} {e : IE}, holds I ρ ps → (pathIv ps e).In (e.den ρ)
  | [], _, _ => Iv.top_in _
  | _ :: _, _, h => Iv.meet_in (piIv_in h.1) (pathIv_in h.2)
theorem ivl_in {ps : List PI} (hs : holds I ρ ps) : ∀ e : IE, (ivl ps e).In (e.den ρ)
  | .lit n => ⟨fun l hl => by cases hl; exact Int.le_refl _, fun l hl => by cases hl; exact Int.le_refl _⟩
  | .var i => pathIv_in hs
  | .wrap k a => Iv.meet_in (pathIv_in hs) (Iv.inK_in (ivl_in hs a))
  | .bin op k a b => Iv.meet_in (pathIv_in hs) (Iv.binIv_in (ivl_in hs a) (ivl_in hs b))
  | .at k r p => Iv.meet_in (pathIv_in hs) (Iv.full_wrap k _)
theorem rngB_sound {ps : List PI} (hs : holds I ρ ps) {k : IntKind} {e : IE} (h : rngB ps k e = true) : k.wrap (e.den ρ) = e.den ρ := by
  have hi := ivl_in hs e
  unfold rngB at h
  split at h
  · rename_i l u hl hu
    have h1 := hi.1 l hl
    have h2 := hi.2 u hu
    simp only [Bool.and_eq_true, Bool.not_eq_true', Iv.ltF] at h
    exact wrap_in (by omega) (by omega)
  · cases h
theorem ivLss_sound {a b : Iv} {x y : Int} (h1 : a.In x) (h2 : b.In y) {w : Bool} (h : ivLss a b = some w) : decide (x < y) = w := by
  have low : (match a.lo, b.hi with | some l', some h' => cond (ilt l' h') none (some false) | _, _ => none) = some w → decide (x < y) = w := fun h => by
    split at h
    · rename_i l u hl hu
      have g1 := h1.1 l hl
      have g2 := h2.2 u hu
      cases hc : ilt l u with
      | true => rw [hc] at h; cases h
      | false =>
        rw [hc] at h
        simp only [cond_false, Option.some.injEq] at h
        rw [← h]
        rw [Iv.ltF] at hc
        exact decide_eq_false (by omega)
    · cases h
  unfold ivLss at h
  split at h
  · rename_i u l hu hl
    have g1 := h1.2 u hu
    have g2 := h2.1 l hl
    cases hc : ilt u l with
    | true =>
      rw [hc] at h
      simp only [cond_true, Option.some.injEq] at h
      rw [← h]
      rw [Iv.ltN] at hc
      exact decide_eq_true (by omega)
    | false =>
      rw [hc] at h
      exact low h
  · exact low h
theorem ivEql_sound {a b : Iv} {x y : Int} (h1 : a.In x) (h2 : b.In y) {w : Bool} (h : ivEql a b = some w) : decide (x = y) = w := by
  unfold ivEql at h
  split at h
  · rename_i hl
    cases h
    have := of_decide_eq_true (ivLss_sound h1 h2 hl)
    exact decide_eq_false (by omega)
  · split at h
    · rename_i hl
      cases h
      have := of_decide_eq_true (ivLss_sound h2 h1 hl)
      exact decide_eq_false (by omega)
    · cases h
end

def known (ps : List PI) : BE → Option Bool
  | .lit b => some b
  | .var i => lookC ps (.var i)
  | .at r p => lookC ps (.at r p)
  | .not a => match known ps a with | some b => some (!b) | none => none
  | .ite c a b => match known ps c with | some true => known ps a | some false => known ps b | none => none
  | .eql a b => match lookC ps (.eql a b) with
    | some w => some w
    | none => match valOf ps a, valOf ps b with | some x, some y => some (ieq x y) | _, _ => ivEql (ivl ps a) (ivl ps b)
  | .lss a b => match lookC ps (.lss a b) with
    | some w => some w
    | none => match valOf ps a, valOf ps b with | some x, some y => some (ilt x y) | _, _ => ivLss (ivl ps a) (ivl ps b)

section
variable {U : Type} {I : Interp U} {ρ : Env U}

theorem lookC_sound {c : BE} {w : Bool} : ∀ {ps : List PI}, holds I ρ ps → lookC ps c = some w → c.den ρ = w
  | [], _, h => by simp [lookC] at h
  | .cond b v :: ps, hs, h => by
    simp only [lookC] at h
    cases hb : b.beq c with
    | true => rw [hb] at h; simp at h; rw [← BE.beq_eq hb, ← h]; exact hs.1
    | false => rw [hb] at h; exact lookC_sound hs.2 h
  | .fact .. :: ps, hs, h | .upd .. :: ps, hs, h | .app .. :: ps, hs, h | .rep .. :: ps, hs, h | .rng .. :: ps, hs, h => lookC_sound hs.2 (by simpa only [lookC] using h)

theorem valP_sound {p : PI} {e : IE} {m : Int} (hs : p.holds I ρ) (h : valP p e = some m) : e.den ρ = m := by
  unfold valP at h
  split at h
  · rename_i a m'
    cases hb : a.beq e with
    | true =>
      rw [hb] at h; simp at h
      have h1 : a.den ρ = m' := of_decide_eq_true hs
      rw [← IE.beq_eq hb, ← h]; exact h1
    | false => rw [hb] at h; cases h
  · cases h
theorem valC_sound {e : IE} {m : Int} : ∀ {ps : List PI}, holds I ρ ps → valC ps e = some m → e.den ρ = m
  | [], _, h => by simp [valC] at h
  | p :: ps, hs, h => by
    simp only [valC] at h
    split at h
    · rename_i x hx; cases h; exact valP_sound hs.1 hx
    · exact valC_sound hs.2 h

theorem valOf_sound {ps : List PI} (hs : holds I ρ ps) {e : IE} {m : Int} (h : valOf ps e = some m) : e.den ρ = m := by
  unfold valOf at h
  split at h
  · simp at h; exact h
  · exact valC_sound hs h

theorem known_sound {ps : List PI} (hs : holds I ρ ps) : ∀ (c : BE) (w : Bool), known ps c = some w → c.den ρ = w
  | .lit b, w, h => by simp [known] at h; exact h
  | .var i, w, h => lookC_sound hs h
  | .at r p, w, h => lookC_sound hs h
  | .not a, w, h => by
    simp only [known] at h
    split at h
    · rename_i b hb; simp only [Option.some.injEq] at h; simp only [BE.den, known_sound hs a b hb]; exact h
    · cases h
  | .ite c a b, w, h => by
    simp only [known] at h
    split at h
    · rename_i hc; simp only [BE.den, known_sound hs c _ hc, cond_true]; exact known_sound hs a w h
    · rename_i hc; simp only [BE.den, known_sound hs c _ hc, cond_false]; exact known_sound hs b w h
    · cases h
  | .eql a b, w, h => by
    simp only [known] at h
    split at h
    · rename_i v hv; cases h; exact lookC_sound hs hv
    · split at h
      · rename_i x y hx hy
        cases h
        simp only [BE.den, valOf_sound hs hx, valOf_sound hs hy, ieq_eq]
      · exact ivEql_sound (ivl_in hs a) (ivl_in hs b) h
  | .lss a b, w, h => by
    simp only [known] at h
    split at h
    · rename_i v hv; cases h; exact lookC_sound hs hv
    · split at h
      · rename_i x y hx hy
        cases h
        simp only [BE.den, valOf_sound hs hx, valOf_sound hs hy, ilt_eq]
      · exact ivLss_sound (ivl_in hs a) (ivl_in hs b) h
end

/-- A value, if a test is met. -/
def whenB {α : Type} (b : Bool) (z : Option α) : Option α := cond b z none
theorem whenB_some {α : Type} {b : Bool} {z : Option α} {r : α} (h : whenB b z = some r) : b = true ∧ z = some r := by
  cases b with
  | true => exact ⟨rfl, h⟩
  | false => cases h

/-- Is a number surely not below 0? -/
def nonneg (ps : List PI) : IE → Bool
  | .lit n => !ilt n 0
  | e => match known ps (.lss e (.lit 0)) with | some false => true | _ => false

section
variable {U : Type} {I : Interp U} {ρ : Env U}
theorem nonneg_sound {ps : List PI} (hs : holds I ρ ps) {e : IE} (h : nonneg ps e = true) : 0 ≤ e.den ρ := by
  unfold nonneg at h
  split at h
  · rename_i n
    rw [ilt_eq] at h
    simp only [Bool.not_eq_true', decide_eq_false_iff_not] at h
    simp only [IE.den]; omega
  · split at h
    · rename_i hk
      have := of_decide_eq_false (known_sound hs _ _ hk)
      simp only [IE.den] at this; omega
    · cases h
end

/-! ### Places in rows whose length is not known -/
/-- A number more, and so many times a number, as they stand. -/
def addN : IE → Nat → IE
  | .lit x, n => .lit (x + .ofNat n)
  | a, 0 => a
  | a, n => .bin .gtr .i64 a (.lit (.ofNat n))
def mulN : IE → Nat → IE
  | a, 1 => a
  | .lit x, n => .lit (x * .ofNat n)
  | a, n => .bin .geq .i64 a (.lit (.ofNat n))
def ltK (ps : List PI) (a b : IE) : Bool := match known ps (mkLss a b) with | some true => true | _ => false

/-- The place of an address in a row of elements of a size, how far it lies in an element, and whether it may lie anywhere in it: where so many cells from it on are surely in the row. -/
def arrPos (ps : List PI) (size : Nat) (len : IE) (a : SA) (m : Nat) : Option (IE × Nat × Bool) :=
  match a.dyn with
  | [] => whenB (Nat.blt 0 size && Nat.blt 0 m && ltK ps (.lit (.ofNat ((a.off + m - 1) / size))) len) (some (.lit (.ofNat a.off), a.off, false))
  | [(e, s)] => whenB (Nat.beq s size && Nat.ble (a.off + m) size && nonneg ps e && ltK ps e len) (some (addN (mulN e s) a.off, a.off, false))
  | [(f, t), (e, s)] => whenB (Nat.beq t 1 && Nat.beq s size && Nat.beq a.off 0 && Nat.beq m 1 && nonneg ps f && ltK ps f (.lit (.ofNat size)) && nonneg ps e && ltK ps e len) (some (.bin .gtr .i64 (mulN e s) f, 0, true))
  | _ => none

def cellS (sh : List SK) (r : Nat) (p : IE) (o j : Nat) : Option SV :=
  match sh[(o + j) % sh.length]? with
  | some (.int k) => some (.int k (.at k r (addN p j)))
  | some .bool => some (.bool (.at r (addN p j)))
  | some .any => some (.at r (addN p j))
  | none => none
def cellsS (sh : List SK) (r : Nat) (p : IE) (o : Nat) : Nat → Nat → Option (List SV)
  | _, 0 => some []
  | j, n + 1 => match cellS sh r p o j, cellsS sh r p o (j + 1) n with
    | some v, some vs => some (v :: vs)
    | _, _ => none

section
variable {U : Type} {I : Interp U} {ρ : Env U}

theorem addN_den (a : IE) (n : Nat) : (addN a n).den ρ = a.den ρ + n := by
  unfold addN
  split
  · rfl
  · simp
  · rfl
theorem mulN_den (a : IE) (n : Nat) : (mulN a n).den ρ = a.den ρ * n := by
  unfold mulN
  split
  · simp
  · rfl
  · rfl
theorem ltK_sound {ps : List PI} (hs : holds I ρ ps) {a b : IE} (h : ltK ps a b = true) : a.den ρ < b.den ρ := by
  unfold ltK at h
  split at h
  · rename_i hk
    have := known_sound hs _ _ hk
    rw [mkLss_den] at this
    exact of_decide_eq_true this
  · cases h

theorem div_lt_room {x s l : Nat} (hs : 0 < s) (h : x / s < l) : x < l * s := by
  have h1 := Nat.div_add_mod x s
  have h2 := Nat.mod_lt x hs
  have h3 : (x / s + 1) * s ≤ l * s := Nat.mul_le_mul_right s h
  rw [Nat.add_mul, Nat.one_mul, Nat.mul_comm] at h3
  omega
theorem elem_room {e s l o m : Nat} (h : e < l) (hm : o + m ≤ s) : e * s + o + m ≤ l * s := by
  have h3 : (e + 1) * s ≤ l * s := Nat.mul_le_mul_right s h
  rw [Nat.add_mul, Nat.one_mul] at h3
  omega

theorem addN_bd {n : Nat} {a : IE} (h : a.bd n) (m : Nat) : (addN a m).bd n := by
  unfold addN
  split
  · trivial
  · exact h
  · exact ⟨h, trivial⟩
theorem mulN_bd {n : Nat} {a : IE} (h : a.bd n) (m : Nat) : (mulN a m).bd n := by
  unfold mulN
  split
  · exact h
  · trivial
  · exact ⟨h, trivial⟩
theorem arrPos_sound {ps : List PI} (hs : holds I ρ ps) {size : Nat} {len : IE} {a : SA} {m : Nat} {p : IE} {o : Nat} {two : Bool} (h : arrPos ps size len a m = some (p, o, two)) :
    0 ≤ p.den ρ ∧ a.off + dynDen ρ a.dyn = (p.den ρ).toNat ∧ (p.den ρ).toNat + m ≤ (len.den ρ).toNat * size ∧ (two = false → (p.den ρ).toNat % size = o % size) ∧ (∀ n, IE.bd n len → a.bd n → p.bd n) := by
  obtain ⟨blk, off, dyn⟩ := a
  unfold arrPos at h
  split at h
  case h_4 => cases h
  case h_1 hd =>
    simp only at hd; subst hd
    obtain ⟨h1, h2⟩ := whenB_some h
    simp only [Option.some.injEq, Prod.mk.injEq] at h2
    obtain ⟨rfl, rfl, rfl⟩ := h2
    simp only [Bool.and_eq_true] at h1
    obtain ⟨⟨q1, q2⟩, q3⟩ := h1
    have q1 : 0 < size := by simpa using q1
    have q2 : 0 < m := by simpa using q2
    have q3 := ltK_sound hs q3
    simp only [IE.den] at q3 ⊢
    have q4 : (off + m - 1) / size < (len.den ρ).toNat := by
      have : (Int.ofNat ((off + m - 1) / size) : Int) = (((off + m - 1) / size : Nat) : Int) := rfl
      omega
    have q5 := div_lt_room q1 q4
    have e1 : (Int.ofNat off).toNat = off := rfl
    refine ⟨Int.natCast_nonneg off, by simp [dynDen, e1], by rw [e1]; omega, fun _ => by rw [e1], fun _ _ _ => trivial⟩
  case h_2 e s hd =>
    simp only at hd; subst hd
    obtain ⟨h1, h2⟩ := whenB_some h
    simp only [Option.some.injEq, Prod.mk.injEq] at h2
    obtain ⟨rfl, rfl, rfl⟩ := h2
    simp only [Bool.and_eq_true] at h1
    obtain ⟨⟨⟨q1, q2⟩, q3⟩, q4⟩ := h1
    have q1 := Nat.eq_of_beq_eq_true q1
    subst q1
    have q2 := Nat.le_of_ble_eq_true q2
    have q3 := nonneg_sound hs q3
    have q4 := ltK_sound hs q4
    have he : e.den ρ = ((e.den ρ).toNat : Int) := by omega
    have hl : (e.den ρ).toNat < (len.den ρ).toNat := by omega
    have hr := elem_room (o := off) (m := m) hl q2
    rw [addN_den, mulN_den]
    have hp : (e.den ρ * (s : Int) + (off : Int)) = (((e.den ρ).toNat * s + off : Nat) : Int) := by rw [he]; simp
    rw [hp]
    refine ⟨Int.natCast_nonneg _, ?_, ?_, fun _ => ?_, fun n hn ha => ?_⟩
    · rw [Int.toNat_natCast]; simp only [dynDen]; omega
    · rw [Int.toNat_natCast]; exact hr
    · rw [Int.toNat_natCast]; simp [Nat.add_mod]
    · exact addN_bd (mulN_bd (ha.2 (e, s) (by simp)) s) off
  case h_3 f t e s hd =>
    simp only at hd; subst hd
    obtain ⟨h1, h2⟩ := whenB_some h
    simp only [Option.some.injEq, Prod.mk.injEq] at h2
    obtain ⟨rfl, rfl, rfl⟩ := h2
    simp only [Bool.and_eq_true] at h1
    obtain ⟨⟨⟨⟨⟨⟨⟨q1, q2⟩, q3⟩, q4⟩, q5⟩, q6⟩, q7⟩, q8⟩ := h1
    have q1 := Nat.eq_of_beq_eq_true q1
    have q2 := Nat.eq_of_beq_eq_true q2
    have q3 := Nat.eq_of_beq_eq_true q3
    have q4 := Nat.eq_of_beq_eq_true q4
    subst q1 q2 q3 q4
    have q5 := nonneg_sound hs q5
    have q6 : f.den ρ < (s : Int) := ltK_sound hs q6
    have q7 := nonneg_sound hs q7
    have q8 := ltK_sound hs q8
    have q6 : (f.den ρ).toNat < s := by omega
    have he : e.den ρ = ((e.den ρ).toNat : Int) := by omega
    have hf : f.den ρ = ((f.den ρ).toNat : Int) := by omega
    have hl : (e.den ρ).toNat < (len.den ρ).toNat := by omega
    have hr := elem_room (s := s) (o := (f.den ρ).toNat) (m := 1) hl (by omega)
    have hp : (IE.bin .gtr .i64 (mulN e s) f).den ρ = (((e.den ρ).toNat * s + (f.den ρ).toNat : Nat) : Int) := by
      simp only [IE.den, opI, mulN_den]
      rw [he, hf]; simp
    rw [hp]
    refine ⟨Int.natCast_nonneg _, ?_, ?_, fun h => (by cases h), fun n hn ha => ?_⟩
    · rw [Int.toNat_natCast]; simp only [dynDen]; omega
    · rw [Int.toNat_natCast]; exact hr
    · exact ⟨mulN_bd (ha.2 (e, s) (by simp)) s, ha.2 (f, 1) (by simp)⟩


theorem cellsS_length {sh : List SK} {r : Nat} {p : IE} {o : Nat} : ∀ {n j : Nat} {vs : List SV}, cellsS sh r p o j n = some vs → vs.length = n
  | 0, _, vs, h => by simp only [cellsS, Option.some.injEq] at h; subst h; rfl
  | n + 1, j, vs, h => by
    simp only [cellsS] at h
    split at h
    · rename_i v vs' _ hvs
      cases h
      simp [cellsS_length hvs]
    · cases h
theorem cellsS_get {sh : List SK} {r : Nat} {p : IE} {o : Nat} : ∀ {n j : Nat} {vs : List SV}, cellsS sh r p o j n = some vs → ∀ i v, vs[i]? = some v → cellS sh r p o (j + i) = some v
  | 0, _, vs, h, i, v, hv => by simp only [cellsS, Option.some.injEq] at h; subst h; simp at hv
  | n + 1, j, vs, h, i, v, hv => by
    simp only [cellsS] at h
    split at h
    · rename_i u us hu hus
      cases h
      cases i with
      | zero => simp only [List.getElem?_cons_zero, Option.some.injEq] at hv; subst hv; exact hu
      | succ i =>
        simp only [List.getElem?_cons_succ] at hv
        have := cellsS_get hus i v hv
        rw [← this]; congr 1; omega
    · cases h
theorem cellS_bd {n : Nat} {sh : List SK} {r : Nat} {p : IE} {o j : Nat} {v : SV} (h : cellS sh r p o j = some v) (hr : r < n) (hp : p.bd n) : v.bd n := by
  unfold cellS at h
  split at h <;> cases h <;> simp only [SV.bd] <;> exact ⟨hr, addN_bd hp j⟩
/-- What a cell of a row of a shape is. -/
theorem cellS_sound {sh : List SK} {r : Nat} {p : IE} {o j : Nat} {v : SV} (h : cellS sh r p o j = some v) {l : List Value} (hl : ρ.r r = l) (hf : Fits sh l) (h0 : 0 ≤ p.den ρ) (hlt : (p.den ρ).toNat + j < l.length)
    (hm : ((p.den ρ).toNat + j) % sh.length = (o + j) % sh.length) : l[(p.den ρ).toNat + j]? = some (v.den ρ) := by
  have hx : l[(p.den ρ).toNat + j]? = some l[(p.den ρ).toNat + j] := List.getElem?_eq_getElem hlt
  obtain ⟨s, hs1, hs2⟩ := hf _ _ hx
  rw [hm] at hs1
  have ha : rowAt (ρ.r r) ((addN p j).den ρ) = l[(p.den ρ).toNat + j] := by
    rw [hl, addN_den]
    unfold rowAt
    have : (p.den ρ + (j : Int)).toNat = (p.den ρ).toNat + j := by omega
    rw [this, hx]; rfl
  unfold cellS at h
  rw [hs1] at h
  rw [hx]
  cases s with
  | int k =>
    cases h
    obtain ⟨n, hn, hw⟩ := hs2
    simp only [SV.den, IE.den, ha, hn, intAt, hw]
  | bool =>
    cases h
    obtain ⟨b, hb⟩ := hs2
    simp only [SV.den, BE.den, ha, hb, boolAt]
  | any =>
    cases h
    simp only [SV.den, ha]
    cases hv : l[(p.den ρ).toNat + j] <;> simp_all [clean, SK.fits, Value.oneCell']
end

/-! ### Operands and cells -/
def opnd (tm : Tr SV) : Operand → Option SV
  | .tmp t => tm.get t
  | .const v => some (ofV v)
  | .func f => some (.func (.func f) [] [])
  | .global _ => none

def SA.add (a : SA) (n : Nat) : SA := { a with off := a.off + n }

def Ch.known : Ch → Option (List SV)
  | .cells _ cs => some cs
  | .row _ _ cs _ => some cs
  | _ => none

/-- The cells from an address on, so many. -/
def ldKnown (H : Tr Ch) (a : SA) (n : Nat) : Option (List SV) :=
  match a.dyn, H.get a.blk with
  | [], some c => match c.known with
    | some cs => cond (Nat.ble (a.off + n) cs.length) (some ((cs.drop a.off).take n)) none
    | none => none
  | _, _ => none

def ldArr (ps : List PI) (H : Tr Ch) (a : SA) (n : Nat) : Option (List SV) :=
  match H.get a.blk with
  | some (.arr _ size sh r len _) => match arrPos ps size len a n with
    | some (p, o, two) => whenB (Nat.beq (size % sh.length) 0 && (!two || Nat.beq sh.length 1)) (cellsS sh r p o 0 n)
    | none => none
  | _ => none
def ldCells (ps : List PI) (H : Tr Ch) (a : SA) (n : Nat) : Option (List SV) :=
  match ldKnown H a n with
  | some vs => some vs
  | none => ldArr ps H a n

section
variable {U : Type} {I : Interp U} {ρ : Env U} {F : Fr} {H : Tr Ch} {w : World} {hp : Nat → PHeap}

theorem SA.add_den (a : SA) (n : Nat) : (a.add n).den ρ = (a.den ρ).add n := by
  by_cases h : n = 0
  · subst h; simp [SA.add, SA.den, Addr.add]
  · simp [SA.add, SA.den, Addr.add, h]; omega

theorem HSat.known (hs : HSat I ρ F H w hp) {k : Nat} {c : Ch} {cs : List SV} (hk : H.get k = some c) (hc : c.known = some cs) :
    ∃ (rest : List Value) (e : Nat), w.heap[ρ.k k]? = some (.cells (denL ρ cs ++ rest).toArray e (0, 0)) ∧ hp k = single (ρ.k k) (.cells (denL ρ cs ++ rest).toArray e (0, 0)) := by
  have h := hs.sat k c hk
  cases c with
  | cells e cs' =>
    simp only [Ch.known, Option.some.injEq] at hc; subst hc
    refine ⟨[], e, ?_, ?_⟩
    · rw [List.append_nil]; exact hs.block hk h
    · rw [List.append_nil]; exact h
  | row e size cs' cap =>
    simp only [Ch.known, Option.some.injEq] at hc; subst hc
    obtain ⟨rest, _, h⟩ := h
    exact ⟨rest, e, hs.block hk h, h⟩
  | _ => simp [Ch.known] at hc

theorem cell_of_block {b i : Nat} {c : Array Value} {e : Nat} {fz : Nat × Nat} (h : w.heap[b]? = some (.cells c e fz)) : w.cell? ⟨b, i, none⟩ = c[i]? := by
  simp [World.cell?, h]
theorem free_of_block {b i : Nat} {c : Array Value} {e : Nat} (h : w.heap[b]? = some (.cells c e (0, 0))) : w.frozen? ⟨b, i, none⟩ = false := by
  simp [World.frozen?, h]

theorem ldKnown_sound (hs : HSat I ρ F H w hp) {a : SA} {n : Nat} {vs : List SV} (h : ldKnown H a n = some vs) :
    vs.length = n ∧ ∀ j v, vs[j]? = some v → w.cell? ((a.den ρ).add j) = some (v.den ρ) := by
  unfold ldKnown at h
  split at h
  case h_2 => cases h
  rename_i c hd hk
  split at h
  case h_2 => cases h
  rename_i cs hc
  cases hb : Nat.ble (a.off + n) cs.length with
  | false => rw [hb] at h; cases h
  | true =>
    rw [hb] at h
    simp only [cond_true, Option.some.injEq] at h
    have hle := Nat.le_of_ble_eq_true hb
    subst h
    refine ⟨by simp; omega, fun j v hv => ?_⟩
    obtain ⟨rest, e, hw, _⟩ := hs.known hk hc
    have hj : j < n := by
      have := (List.getElem?_eq_some_iff.1 hv).1
      simp at this; omega
    have hcell : cs[a.off + j]? = some v := by
      rw [List.getElem?_take] at hv
      simp only [hj, if_true, List.getElem?_drop] at hv
      exact hv
    have ha : (a.den ρ).add j = ⟨ρ.k a.blk, a.off + j, none⟩ := by
      rw [← SA.add_den]; simp [SA.add, SA.den, dynDen, hd]
    rw [ha, cell_of_block hw]
    have hlt : a.off + j < (denL ρ cs).length := by rw [denL_length]; exact (List.getElem?_eq_some_iff.1 hcell).1
    rw [List.getElem?_toArray, List.getElem?_append_left hlt, denL_getElem?, hcell]; rfl

theorem mod_of_mod {a b s q : Nat} (hq : s % q = 0) (h : a % s = b % s) : a % q = b % q := by
  have hd : q ∣ s := Nat.dvd_of_mod_eq_zero hq
  have h1 := Nat.mod_mod_of_dvd a hd
  have h2 := Nat.mod_mod_of_dvd b hd
  rw [← h1, ← h2, h]
theorem ldArr_sound (hs : HSat I ρ F H w hp) {ps : List PI} (hps : holds I ρ ps) {a : SA} {n : Nat} {vs : List SV} (h : ldArr ps H a n = some vs) :
    vs.length = n ∧ ∀ j v, vs[j]? = some v → w.cell? ((a.den ρ).add j) = some (v.den ρ) := by
  unfold ldArr at h
  split at h
  case h_2 => cases h
  rename_i e size sh r len cap hk
  split at h
  case h_2 => cases h
  rename_i p o two hpos
  obtain ⟨hc, h⟩ := whenB_some h
  rw [Bool.and_eq_true] at hc
  have hq := Nat.eq_of_beq_eq_true hc.1
  obtain ⟨h0, h1, h2, h3, _⟩ := arrPos_sound hps hpos
  have hlen := cellsS_length h
  refine ⟨hlen, fun j v hv => ?_⟩
  have hj : j < n := by have := (List.getElem?_eq_some_iff.1 hv).1; omega
  have hcell := cellsS_get h j v hv
  rw [Nat.zero_add] at hcell
  obtain ⟨rest, g1, g2, g3, g4⟩ := hs.sat _ _ hk
  have hb := hs.block hk g4
  have hm : ((p.den ρ).toNat + j) % sh.length = (o + j) % sh.length := by
    cases htw : two with
    | false =>
      have := mod_of_mod hq (h3 htw)
      rw [Nat.add_mod, this, ← Nat.add_mod]
    | true =>
      have h5 := hc.2
      rw [htw] at h5
      have h6 : sh.length = 1 := Nat.eq_of_beq_eq_true (by simpa using h5)
      rw [h6, Nat.mod_one, Nat.mod_one]
  have hx := cellS_sound hcell rfl g2 h0 (by omega) hm
  have ha : (a.den ρ).add j = ⟨ρ.k a.blk, (p.den ρ).toNat + j, none⟩ := by
    rw [← SA.add_den]; simp [SA.add, SA.den]; omega
  rw [ha, cell_of_block hb, List.getElem?_toArray, List.getElem?_append_left (by omega)]
  exact hx
theorem ldCells_sound (hs : HSat I ρ F H w hp) {ps : List PI} (hps : holds I ρ ps) {a : SA} {n : Nat} {vs : List SV} (h : ldCells ps H a n = some vs) :
    vs.length = n ∧ ∀ j v, vs[j]? = some v → w.cell? ((a.den ρ).add j) = some (v.den ρ) := by
  unfold ldCells at h
  split at h
  · rename_i us hus; cases h; exact ldKnown_sound hs hus
  · exact ldArr_sound hs hps h

theorem run_load_cell {P : Program} {a : Addr} {v : Value} (h : w.cell? a = some v) : (load a).run P w = .ok v w := by simp [h]

end
end Go.Vg
