/- More operations that change no memory: slicing, arrays out of slices, comparing aggregates, the lesser and the greater; 'rd' is all of them. Conditions: the table of types is the program's. -/
import Derived.Test.YtfkjbiigciabpaaGreatVgBd
import Derived.Laws.StructEq
import Derived.MapKept
namespace Go.Vg

def isNil {α : Type} : List α → Bool
  | [] => true
  | _ => false

def leqK (ps : List PI) (a b : IE) : Bool := match known ps (mkLss b a) with | some false => true | _ => false

/-- A bound that is given: its number. -/
def bndS (tm : Tr SV) : Option Operand → Option (Option IE)
  | none => some none
  | some x => match opnd tm x with
    | some (.int _ e) => some (some e)
    | _ => none

/-- The difference, as it stands. -/
def mkSub : IE → IE → IE
  | .lit x, .lit y => .lit (x - y)
  | a, .lit (.ofNat 0) => a
  | .bin .lss .i64 a (.lit (.ofNat x)), .lit (.ofNat y) => .bin .lss .i64 a (.lit (.ofNat (x + y)))
  | a, b => .bin .lss .i64 a b

/-- A capacity that is not known is no less than what is known of its row. -/
def capOff : IE → IE × Nat
  | .bin .lss _ a (.lit (.ofNat n)) => (a, n)
  | e => (e, 0)
def capLow (H : Tr Ch) (a : SA) (cap : IE) : Nat :=
  match H.get a.blk with
  | some (.row _ size cs cap') => match capOff cap with
    | (b, n) => cond (cap'.beq b && Nat.blt 0 size) (cs.length / size - n) 0
  | _ => 0
def leqC (ps : List PI) (lb : Nat) (e cap : IE) : Bool := (match e with | .lit (.ofNat n) => Nat.ble n lb | _ => false) || leqK ps e cap

/-- The bounds of a slice expression, where they are surely right: low, high, max, and what max is at least. -/
def bounds (ps : List PI) (lb : Nat) (len cap : IE) (lo hi mx : Option IE) : Option (IE × IE × IE × Nat) :=
  let m := mx.getD cap
  let h := hi.getD len
  let l := lo.getD (.lit 0)
  whenB ((match mx with | some e => nonneg ps e && leqC ps lb e cap && hi.isSome | none => true) &&
      (match hi with | some e => nonneg ps e && (match mx with | none => leqC ps lb e cap | some m => leqK ps e m) | none => true) &&
      (match lo with | some e => nonneg ps e && leqK ps e h | none => true))
    (some (l, h, m, match mx with | none => lb | some _ => 0))

def baseAt (ps : List PI) (a : SA) (l m : IE) (lb : Nat) (size : Nat) : Option SA :=
  match l with
  | .lit 0 => some a
  | .lit (.ofNat n) => cond (Nat.blt n lb) (some (a.add (n * size))) (match known ps (mkEql m (.lit (.ofNat n))) with
    | some true => some a
    | some false => some (a.add (n * size))
    | none => mkIdx a (.bin .eql .i64 m (.lit (.ofNat n))) size)
  | l => match known ps (mkEql m l) with
    | some true => some a
    | some false => mkIdx a l size
    | none => mkIdx a (.bin .eql .i64 m l) size

def sliceOn (ps : List PI) (a : SA) (size : Nat) (lb : Nat) (len cap : IE) (lo hi mx : Option IE) : Option SV :=
  match bounds ps lb len cap lo hi mx with
  | some (l, h, m, lb) => whenB (nonneg ps m || Nat.blt 0 lb) (match baseAt ps a l m lb size with
    | some b => some (.slice b (mkSub h l) (mkSub m l))
    | none => none)
  | none => none

def rdSlice (ty : Nat → Option TI) (H : Tr Ch) (ps : List PI) (t : Nat) (x : SV) (lo hi mx : Option IE) : Option SV :=
  match ty t with
  | some i => match i.und, x with
    | .slice elem, .slice a len cap => match ty elem with
      | some ei => sliceOn ps a ei.size (capLow H a cap) len cap lo hi mx
      | none => none
    | .slice elem, .nils len cap => match ty elem, bounds ps 0 len cap lo hi mx with
      | some _, some (l, h, m, _) => whenB (nonneg ps m) (some (.nils (mkSub h l) (mkSub m l)))
      | _, _ => none
    | .array n elem, .ptr a => match ty elem with
      | some ei => sliceOn ps a ei.size 0 (.lit (.ofNat n)) (.lit (.ofNat n)) lo hi mx
      | none => none
    | _, _ => none
  | none => none

/-- Two rows of cells, cell by cell. -/
def eqCells : List (Option IntKind) → List SV → List SV → Option BE
  | [], [], [] => some (.lit true)
  | some k :: s, .int k1 a :: xs, .int k2 b :: ys => match eqCells s xs ys with
    | some r => whenB (IntKind.beq k1 k && IntKind.beq k2 k) (some (mkIte (mkEql a b) r (.lit false)))
    | none => none
  | none :: s, .bool a :: xs, .bool b :: ys => match eqCells s xs ys with
    | some r => some (mkIte (mkIte a b (mkNot b)) r (.lit false))
    | none => none
  | _, _, _ => none

def minS (ps : List PI) (a b : IE) : Option IE :=
  match known ps (mkLss b a) with
  | some true => some b
  | some false => some a
  | none => none

def maxS (ps : List PI) (a b : IE) : Option IE :=
  match known ps (mkLss a b) with
  | some true => some b
  | some false => some a
  | none => none

/-- The entry of a key. -/
def lookM : List (Int × SV × Nat) → Int → Option SV
  | [], _ => none
  | (n, v, _) :: es, x => cond (ieq x n) (some v) (lookM es x)

/-- Is a type a map of integers of a kind? Its elements' nought. -/
def mapOf (ty : Nat → Option TI) (t : Nat) : Option (IntKind × SV) :=
  match ty t with
  | some i => match i.und with
    | .map kt et => match ty kt, ty et with
      | some ki, some ei => match ki.und, ei.zero with
        | .int k, some z => some (k, ofV z)
        | _, _ => none
      | _, _ => none
    | _ => none
  | none => none

def rdX (ty : Nat → Option TI) (tm : Tr SV) (H : Tr Ch) (ps : List PI) : Op → Option SV
  | .slice t x lo hi mx => match opnd tm x, bndS tm lo, bndS tm hi, bndS tm mx with
    | some v, some l, some h, some m => rdSlice ty H ps t v l h m
    | _, _, _, _ => none
  | .unOp .xor _ x => match opnd tm x with
    | some (.int k e) => some (.int k (mkBin .xor k (.lit (if k.signed then -1 else k.max)) e))
    | _ => none
  | .lookup t x ix ok => match mapOf ty t, opnd tm x, opnd tm ix with
    | some (k, z), some (.map n), some (.int k1 (.lit q)) => match H.get n with
      | some (.mp k2 es _) => whenB (IntKind.beq k1 k && IntKind.beq k2 k) (match lookM es q with
        | some v => some (cond ok (.tup [v, .bool (.lit true)]) v)
        | none => some (cond ok (.tup [z, .bool (.lit false)]) z))
      | _ => none
    | _, _, _ => none
  | .index xt x ix => match ty xt, opnd tm x, opnd tm ix with
    | some i, some (.con (.string s)), some (.int _ (.lit (.ofNat n))) => match i.und with
      | .string => (s[n]?).map fun b => .int .u8 (.lit (.ofNat b.toNat))
      | _ => none
    | _, _, _ => none
  | .sliceToArrayPointer arr x => match ty arr, opnd tm x with
    | some i, some (.slice a len _) => match i.und with
      | .array n _ => whenB (nonneg ps len && leqK ps (.lit (.ofNat n)) len) (some (.ptr a))
      | _ => none
    | _, _ => none
  | .binOp op xt x y _ => match opnd tm x, opnd tm y with
    | some (.agg a), some (.agg b) => match ty xt with
      | some i => whenB (!isNil i.eq) (match op, eqCells i.eq a b with
        | .eql, some e => some (.bool e)
        | .neq, some e => some (.bool (mkNot e))
        | _, _ => none)
      | none => none
    | _, _ => none
  | .call { callee := .builtin .min, args := ⟨[x, y]⟩, .. } => match opnd tm x, opnd tm y with
    | some (.int k a), some (.int k' b) => whenB (IntKind.beq k k') ((minS ps a b).map (.int k))
    | _, _ => none
  | .call { callee := .builtin .max, args := ⟨[x, y]⟩, .. } => match opnd tm x, opnd tm y with
    | some (.int k a), some (.int k' b) => whenB (IntKind.beq k k') ((maxS ps a b).map (.int k))
    | _, _ => none
  | _ => none

def orE {α : Type} (a b : Option α) : Option α :=
  match a with
  | some v => some v
  | none => b
theorem orN {α : Type} (a : Option α) : a = orE a none := by cases a <;> rfl

def rdB (ty : Nat → Option TI) (tm : Tr SV) (H : Tr Ch) (ps : List PI) (op : Op) : Option SV := orE (rd0 ty tm H ps op) (rdX ty tm H ps op)

section
variable {U : Type} {I : Interp U} {ρ : Env U} {P : Program} {w : World} {F : Fr} {H : Tr Ch} {hp : Nat → PHeap}

theorem leqK_sound {ps : List PI} (hs : holds I ρ ps) {a b : IE} (h : leqK ps a b = true) : a.den ρ ≤ b.den ρ := by
  unfold leqK at h
  split at h
  · rename_i hk
    have := known_sound hs _ _ hk
    rw [mkLss_den] at this
    have := of_decide_eq_false this
    omega
  · cases h

theorem leqC_sound {ps : List PI} (hs : holds I ρ ps) {lb : Nat} {e cap : IE} (h : leqC ps lb e cap = true) (hl : lb ≤ (cap.den ρ).toNat) : (e.den ρ).toNat ≤ (cap.den ρ).toNat := by
  unfold leqC at h
  rw [Bool.or_eq_true] at h
  rcases h with h | h
  · split at h
    · rename_i n
      have := Nat.le_of_ble_eq_true h
      simp only [IE.den]
      have e : (Int.ofNat n).toNat = n := rfl
      rw [e]; omega
    · cases h
  · have := leqK_sound hs h
    omega

theorem mkSub_den (a b : IE) : (mkSub a b).den ρ = a.den ρ - b.den ρ := by
  unfold mkSub
  split
  · rfl
  · simp [IE.den]
  · simp only [IE.den, opI]
    simp only [Int.ofNat_eq_natCast]
    omega
  · rfl

def BndOk (ρ : Env U) (f : Operand → Value) (x : Option Operand) (e : Option IE) : Prop :=
  match x, e with
  | none, none => True
  | some x, some e => ∃ k, f x = .int k (e.den ρ)
  | _, _ => False

theorem bndS_sound {tm : Tr SV} {f : Operand → Value} {x : Option Operand} {l : Option IE} (h : bndS tm x = some l) (hf : ∀ y, x = some y → ∀ u, opnd tm y = some u → f y = u.den ρ) : BndOk ρ f x l := by
  unfold bndS at h
  split at h
  · cases h; trivial
  · rename_i y
    split at h
    · rename_i k e hy
      cases h
      exact ⟨k, by rw [hf y rfl _ hy]; simp [SV.den]⟩
    · cases h

theorem run_bound {k : IntKind} {n : Int} {y : Nat} {c : BoundsCode} (h0 : 0 ≤ n) (h1 : n.toNat ≤ y) : (Instr.sliceBound (.int k n) y c).run P w = .ok n.toNat w := by
  have : n ≤ y := by omega
  simp [Instr.sliceBound, asIntOf, h0, this]

theorem bounds_sound {ps : List PI} (hs : holds I ρ ps) {lb : Nat} {len cap : IE} {lo hi mx : Option IE} {l h m : IE} {lb' : Nat} (hb : bounds ps lb len cap lo hi mx = some (l, h, m, lb')) (hlb : lb ≤ (cap.den ρ).toNat)
    {f : Operand → Value} {xlo xhi xmx : Option Operand} (blo : BndOk ρ f xlo lo) (bhi : BndOk ρ f xhi hi) (bmx : BndOk ρ f xmx mx) (isS : Bool) :
    (Instr.sliceBounds isS (len.den ρ).toNat (cap.den ρ).toNat (xlo.map f) (xhi.map f) (xmx.map f)).run P w = .ok ((l.den ρ).toNat, (h.den ρ).toNat, (m.den ρ).toNat) w ∧ lb' ≤ (m.den ρ).toNat ∧ 0 ≤ l.den ρ := by
  unfold bounds at hb
  obtain ⟨hc, hb⟩ := whenB_some hb
  simp only [Option.some.injEq, Prod.mk.injEq] at hb
  obtain ⟨rfl, rfl, rfl, rfl⟩ := hb
  simp only [Bool.and_eq_true] at hc
  obtain ⟨⟨c1, c2⟩, c3⟩ := hc
  cases hi with
  | none =>
    cases xhi with
    | some _ => exact bhi.elim
    | none =>
      cases mx with
      | some e => simp at c1
      | none =>
        cases xmx with
        | some _ => exact bmx.elim
        | none =>
          cases lo with
          | none =>
            cases xlo with
            | some _ => exact blo.elim
            | none => exact ⟨by simp [Instr.sliceBounds, IE.den], hlb, by simp [IE.den]⟩
          | some e =>
            cases xlo with
            | none => exact blo.elim
            | some x =>
              obtain ⟨k, hk⟩ := blo
              simp only [Bool.and_eq_true] at c3
              have h0 := nonneg_sound hs c3.1
              have h1 := leqK_sound hs c3.2
              simp only [Option.getD] at h1
              refine ⟨?_, hlb, h0⟩
              simp only [Instr.sliceBounds, Option.map_none, Option.map_some, hk, Sem.run_bind, Sem.run_pure, Result.andThen_ok, run_bound h0 (show (e.den ρ).toNat ≤ (len.den ρ).toNat by omega), Option.getD]
  | some eh =>
    cases xhi with
    | none => exact bhi.elim
    | some xh =>
      obtain ⟨kh, hkh⟩ := bhi
      cases mx with
      | none =>
        cases xmx with
        | some _ => exact bmx.elim
        | none =>
          simp only [Bool.and_eq_true] at c2
          have h0 := nonneg_sound hs c2.1
          have h1 := leqC_sound hs c2.2 hlb
          cases lo with
          | none =>
            cases xlo with
            | some _ => exact blo.elim
            | none => exact ⟨by simp only [Instr.sliceBounds, Option.map_none, Option.map_some, hkh, Sem.run_bind, Sem.run_pure, Result.andThen_ok, run_bound h0 h1, Option.getD]; simp [IE.den], hlb, by simp [IE.den]⟩
          | some e =>
            cases xlo with
            | none => exact blo.elim
            | some x =>
              obtain ⟨k, hk⟩ := blo
              simp only [Bool.and_eq_true] at c3
              have g0 := nonneg_sound hs c3.1
              have g1 := leqK_sound hs c3.2
              simp only [Option.getD] at g1
              refine ⟨?_, hlb, g0⟩
              simp only [Instr.sliceBounds, Option.map_none, Option.map_some, hk, hkh, Sem.run_bind, Sem.run_pure, Result.andThen_ok, run_bound h0 h1, run_bound g0 (show (e.den ρ).toNat ≤ (eh.den ρ).toNat by omega), Option.getD]
      | some em =>
        cases xmx with
        | none => exact bmx.elim
        | some xm =>
          obtain ⟨km, hkm⟩ := bmx
          simp only [Bool.and_eq_true] at c1 c2
          have m0 := nonneg_sound hs c1.1.1
          have m1 := leqC_sound hs c1.1.2 hlb
          have h0 := nonneg_sound hs c2.1
          have h1' := leqK_sound hs c2.2
          have h1 : (eh.den ρ).toNat ≤ (em.den ρ).toNat := by omega
          cases lo with
          | none =>
            cases xlo with
            | some _ => exact blo.elim
            | none => exact ⟨by simp only [Instr.sliceBounds, Option.map_none, Option.map_some, hkh, hkm, Sem.run_bind, Sem.run_pure, Result.andThen_ok, run_bound m0 m1, run_bound h0 h1, Option.getD]; simp [IE.den], Nat.zero_le _, by simp [IE.den]⟩
          | some e =>
            cases xlo with
            | none => exact blo.elim
            | some x =>
              obtain ⟨k, hk⟩ := blo
              simp only [Bool.and_eq_true] at c3
              have g0 := nonneg_sound hs c3.1
              have g1 := leqK_sound hs c3.2
              simp only [Option.getD] at g1
              refine ⟨?_, Nat.zero_le _, g0⟩
              simp only [Instr.sliceBounds, Option.map_none, Option.map_some, hk, hkh, hkm, Sem.run_bind, Sem.run_pure, Result.andThen_ok, run_bound m0 m1, run_bound h0 h1, run_bound g0 (show (e.den ρ).toNat ≤ (eh.den ρ).toNat by omega), Option.getD]

theorem add_zero' (a : Addr) : a.add 0 = a := by simp [Addr.add]

theorem baseAt_sound {ps : List PI} (hs : holds I ρ ps) {a b : SA} {l m : IE} {lb size : Nat} (h : baseAt ps a l m lb size = some b) (hm : 0 ≤ m.den ρ) (hl : 0 ≤ l.den ρ) (hlb : lb ≤ (m.den ρ).toNat) :
    b.den ρ = if (m.den ρ).toNat = (l.den ρ).toNat then a.den ρ else (a.den ρ).add ((l.den ρ).toNat * size) := by
  have key : ∀ {e : IE}, known ps (mkEql m e) = some true → (m.den ρ).toNat = (e.den ρ).toNat := fun {e} h => by
    have := known_sound hs _ _ h
    rw [mkEql_den] at this
    rw [of_decide_eq_true this]
  have key2 : ∀ {e : IE}, 0 ≤ e.den ρ → known ps (mkEql m e) = some false → ¬ (m.den ρ).toNat = (e.den ρ).toNat := fun {e} he h => by
    have := known_sound hs _ _ h
    rw [mkEql_den] at this
    have := of_decide_eq_false this
    omega
  have key3 : ∀ {e : IE} {b : SA}, 0 ≤ e.den ρ → mkIdx a (.bin .eql .i64 m e) size = some b → b.den ρ = if (m.den ρ).toNat = (e.den ρ).toNat then a.den ρ else (a.den ρ).add ((e.den ρ).toNat * size) := fun {e b} he h => by
    rw [mkIdx_den h]
    simp only [IE.den, opI]
    by_cases hq : m.den ρ = e.den ρ
    · rw [if_pos hq, if_pos (by rw [hq])]
      simp [add_zero']
    · rw [if_neg hq, if_neg (by omega)]
  unfold baseAt at h
  split at h
  · cases h
    have e : ((IE.lit 0).den ρ).toNat * size = 0 := by simp [IE.den]
    rw [e, add_zero', ite_self]
  · rename_i n hn
    have hn2 : ((IE.lit (Int.ofNat n)).den ρ).toNat = n := rfl
    cases hb : Nat.blt n lb with
    | true =>
      rw [hb] at h
      simp only [cond_true, Option.some.injEq] at h
      subst h
      have : n < lb := by simpa using hb
      rw [hn2, if_neg (by omega), SA.add_den]
    | false =>
      rw [hb] at h
      simp only [cond_false] at h
      split at h
      · rename_i hk
        cases h
        rw [if_pos (key hk)]
      · rename_i hk
        cases h
        rw [if_neg (key2 hl hk), hn2, SA.add_den]
      · exact key3 hl h
  · split at h
    · rename_i hk
      cases h
      rw [if_pos (key hk)]
    · rename_i hk
      rw [if_neg (key2 hl hk), mkIdx_den h]
    · exact key3 hl h

theorem capLow_sound (hh : HSat I ρ F H w hp) {a : SA} {cap : IE} : capLow H a cap ≤ (cap.den ρ).toNat := by
  unfold capLow
  split
  case h_2 => exact Nat.zero_le _
  rename_i e size cs cap' hk
  have hs := hh.sat _ _ hk
  obtain ⟨rest, hcap, _⟩ := hs
  have low : ∀ {b : IE}, (cap'.beq b && Nat.blt 0 size) = true → cs.length / size ≤ (b.den ρ).toNat := fun {b} hc => by
    rw [Bool.and_eq_true] at hc
    have := IE.beq_eq hc.1
    subst this
    have hz : 0 < size := by have := hc.2; simpa using this
    refine Nat.div_le_of_le_mul ?_
    rw [Nat.mul_comm]; omega
  unfold capOff
  split
  rename_i b n hbn
  cases hc : (cap'.beq b && Nat.blt 0 size) with
  | false => exact Nat.zero_le _
  | true =>
    simp only [cond_true]
    have := low hc
    split at hbn
    · cases hbn
      simp only [IE.den, opI, Int.ofNat_eq_natCast]
      omega
    · cases hbn
      omega

theorem sliceOn_sound {ps : List PI} (hs : holds I ρ ps) {a : SA} {size lb : Nat} {len cap : IE} {lo hi mx : Option IE} {v : SV} (h : sliceOn ps a size lb len cap lo hi mx = some v) (hlb : lb ≤ (cap.den ρ).toNat)
    {f : Operand → Value} {xlo xhi xmx : Option Operand} (blo : BndOk ρ f xlo lo) (bhi : BndOk ρ f xhi hi) (bmx : BndOk ρ f xmx mx) (isS : Bool) :
    ∃ l h m : Nat, (Instr.sliceBounds isS (len.den ρ).toNat (cap.den ρ).toNat (xlo.map f) (xhi.map f) (xmx.map f)).run P w = .ok (l, h, m) w ∧
      v.den ρ = .slice (some (if m = l then a.den ρ else (a.den ρ).add (l * size))) (h - l) (m - l) := by
  unfold sliceOn at h
  split at h
  case h_2 => cases h
  rename_i l hh m lb' hb
  obtain ⟨hc, h⟩ := whenB_some h
  split at h
  case h_2 => cases h
  rename_i b hbase
  cases h
  obtain ⟨h1, h2, h3⟩ := bounds_sound (P := P) (w := w) hs hb hlb blo bhi bmx isS
  have hm : 0 ≤ m.den ρ := by
    rw [Bool.or_eq_true] at hc
    rcases hc with hc | hc
    · exact nonneg_sound hs hc
    · have : 0 < lb' := by simpa using hc
      omega
  refine ⟨_, _, _, h1, ?_⟩
  simp only [SV.den, baseAt_sound hs hbase hm h3 h2, mkSub_den]
  congr 1 <;> omega

theorem rdSlice_sound {ty : Nat → Option TI} (hty : ∀ t i, ty t = some i → TyOk P t i) {ps : List PI} (hs : holds I ρ ps) (hh : HSat I ρ F H w hp) {t : Nat} {x : SV} {lo hi mx : Option IE} {v : SV}
    (h : rdSlice ty H ps t x lo hi mx = some v) {f : Operand → Value} {xlo xhi xmx : Option Operand} (blo : BndOk ρ f xlo lo) (bhi : BndOk ρ f xhi hi) (bmx : BndOk ρ f xmx mx) :
    (Instr.sliceAt t (x.den ρ) (xlo.map f) (xhi.map f) (xmx.map f)).run P w = .ok (v.den ρ) w := by
  unfold rdSlice at h
  split at h
  case h_2 => cases h
  rename_i i hi'
  split at h
  case h_4 => cases h
  · rename_i elem a len cap hund
    split at h
    case h_2 => cases h
    rename_i ei hei
    obtain ⟨l, hh', m, h1, h2⟩ := sliceOn_sound (P := P) (w := w) hs h (capLow_sound hh) blo bhi bmx true
    simp only [Instr.sliceAt, Sem.run_bind, run_underlying' (hty _ _ hi'), Result.andThen_ok, hund, Instr.slice, SV.den, h1, run_sizeOf (hty _ _ hei), Sem.run_pure, h2]
    congr 2
    split <;> simp
  · rename_i elem len cap hund
    split at h
    case h_2 => cases h
    rename_i ei l hh' m lb hei hb
    obtain ⟨hc, h⟩ := whenB_some h
    cases h
    obtain ⟨h1, h2, h3⟩ := bounds_sound (P := P) (w := w) hs hb (Nat.zero_le _) blo bhi bmx true
    have hm := nonneg_sound hs hc
    simp only [Instr.sliceAt, Sem.run_bind, run_underlying' (hty _ _ hi'), Result.andThen_ok, hund, Instr.slice, SV.den, h1, run_sizeOf (hty _ _ hei), Sem.run_pure, mkSub_den]
    simp only [Option.map_none, ite_self]
    congr 2 <;> omega
  · rename_i n elem a hund
    split at h
    case h_2 => cases h
    rename_i ei hei
    obtain ⟨l, hh', m, h1, h2⟩ := sliceOn_sound (P := P) (w := w) hs h (Nat.zero_le _) blo bhi bmx false
    have hn : ((IE.lit (Int.ofNat n)).den ρ).toNat = n := rfl
    rw [hn] at h1
    simp only [Instr.sliceAt, Sem.run_bind, run_underlying' (hty _ _ hi'), Result.andThen_ok, hund, SV.den, Instr.sureAddr, h1, run_sizeOf (hty _ _ hei), Sem.run_pure, h2]

theorem bif_and (p : Prop) [Decidable p] (r : Bool) : (bif decide p then r else false) = (decide p && r) := by cases decide p <;> rfl

theorem eqCells_sound : ∀ {s : List (Option IntKind)} {xs ys : List SV} {e : BE}, eqCells s xs ys = some e → Shaped s (denL ρ xs) ∧ Shaped s (denL ρ ys) ∧ eqVs (denL ρ xs) (denL ρ ys) = e.den ρ
  | s, xs, ys, e, h => by
    unfold eqCells at h
    split at h
    case h_4 => cases h
    · cases h; simp [denL, Shaped, eqVs, BE.den]
    · split at h
      case h_2 => cases h
      rename_i r hr
      obtain ⟨hk, h⟩ := whenB_some h
      cases h
      rw [Bool.and_eq_true] at hk
      have k1 := IntKind.beq_eq hk.1
      have k2 := IntKind.beq_eq hk.2
      subst k1; subst k2
      obtain ⟨h1, h2, h3⟩ := eqCells_sound hr
      refine ⟨by simp [denL, SV.den, Shaped, h1], by simp [denL, SV.den, Shaped, h2], ?_⟩
      simp only [denL, SV.den, eqVs, eq1, h3, mkIte_den, mkEql_den, BE.den]
      have hb : ∀ x y : Int, (x == y) = decide (x = y) := fun x y => by rw [Bool.eq_iff_iff]; simp
      rw [hb, bif_and]
    · split at h
      case h_2 => cases h
      rename_i r hr
      cases h
      obtain ⟨h1, h2, h3⟩ := eqCells_sound hr
      refine ⟨by simp [denL, SV.den, Shaped, h1], by simp [denL, SV.den, Shaped, h2], ?_⟩
      simp only [denL, SV.den, eqVs, eq1, h3, mkIte_den, mkNot_den, BE.den]
      generalize BE.den ρ _ = x
      generalize BE.den ρ _ = y
      generalize BE.den ρ _ = z
      cases x <;> cases y <;> cases z <;> rfl

theorem eqAgg_sound {ty : Nat → Option TI} (hty : ∀ t i, ty t = some i → TyOk P t i) {xt : Nat} {i : TI} (hi : ty xt = some i) (hn : isNil i.eq = false) {a b : List SV} {e : BE} (h : eqCells i.eq a b = some e) {x y : Operand} {op : BinOp}
    {v : SV} (hv : (op = .eql ∧ v = .bool e) ∨ (op = .neq ∧ v = .bool (mkNot e))) : (binRun op xt x y (.agg (denL ρ a).toArray) (.agg (denL ρ b).toArray)).run P w = .ok (v.den ρ) w := by
  obtain ⟨_, _, _, _, _, _, heq⟩ := hty _ _ hi
  rcases heq with h0 | ⟨hg, heq⟩
  · rw [h0] at hn; cases hn
  obtain ⟨h1, h2, h3⟩ := eqCells_sound (ρ := ρ) h
  have hr := fun w => heq w _ _ h1 h2
  rcases hv with ⟨rfl, rfl⟩ | ⟨rfl, rfl⟩
  · simp only [binRun, Sem.run_bind, run_eqGuard_agg w _ _ _ _ _ _ hg, Result.andThen_ok, run_eql_struct, hr, h3, SV.den]
  · simp only [binRun, Sem.run_bind, run_eqGuard_agg w _ _ _ _ _ _ hg, Result.andThen_ok, run_neq_struct, hr, h3, SV.den, mkNot_den]

theorem minS_sound {ps : List PI} (hs : holds I ρ ps) {a b e : IE} (h : minS ps a b = some e) : e.den ρ = if b.den ρ < a.den ρ then b.den ρ else a.den ρ := by
  unfold minS at h
  split at h
  · rename_i hk
    cases h
    have := known_sound hs _ _ hk
    rw [mkLss_den] at this
    rw [if_pos (of_decide_eq_true this)]
  · rename_i hk
    cases h
    have := known_sound hs _ _ hk
    rw [mkLss_den] at this
    rw [if_neg (of_decide_eq_false this)]
  · cases h

theorem maxS_sound {ps : List PI} (hs : holds I ρ ps) {a b e : IE} (h : maxS ps a b = some e) : e.den ρ = if a.den ρ < b.den ρ then b.den ρ else a.den ρ := by
  unfold maxS at h
  split at h
  · rename_i hk
    cases h
    have := known_sound hs _ _ hk
    rw [mkLss_den] at this
    rw [if_pos (of_decide_eq_true this)]
  · rename_i hk
    cases h
    have := known_sound hs _ _ hk
    rw [mkLss_den] at this
    rw [if_neg (of_decide_eq_false this)]
  · cases h

/-- Where the entry of a key lies. -/
def findM : List (Int × SV × Nat) → Int → Nat → Option (Nat × SV)
  | [], _, _ => none
  | (n, v, _) :: es, x, i => cond (ieq x n) (some (i, v)) (findM es x (i + 1))
theorem findM_look : ∀ (es : List (Int × SV × Nat)) (x : Int) (i : Nat), (findM es x i).map (·.2) = lookM es x
  | [], _, _ => rfl
  | (n, v, b) :: es, x, i => by
    simp only [findM, lookM]
    cases ieq x n with
    | true => rfl
    | false => exact findM_look es x (i + 1)
theorem findNow_den (k : IntKind) (q : Int) : ∀ (es : List (Int × SV × Nat)) (i : Nat), Instr.findNow (.int k) (.int k q) (denM ρ k es) i = some ((findM es q i).map fun p => (p.1, p.2.den ρ))
  | [], _ => rfl
  | (n, v, b) :: es, i => by
    have h1 : Instr.sameNow (.int k) (.int k q) (.int k n) = some (q == n) := by simp [Instr.sameNow]
    simp only [denM, Instr.findNow, h1, findM]
    have h2 : (q == n) = ieq q n := by rw [ieq_eq]; simp [BEq.beq]
    rw [h2]
    cases ieq q n with
    | true => rfl
    | false => exact findNow_den k q es (i + 1)

theorem mapOf_sound {ty : Nat → Option TI} (hty : ∀ t i, ty t = some i → TyOk P t i) {t : Nat} {k : IntKind} {z : SV} (h : mapOf ty t = some (k, z)) :
    ∃ kt et, (∀ w, (underlying t).run P w = .ok (.map kt et) w) ∧ P.underlying kt = some (.int k) ∧ ∀ w, (zeroValue et).run P w = .ok (z.den ρ) w := by
  unfold mapOf at h
  split at h
  case h_2 => cases h
  rename_i i hi
  split at h
  case h_2 => cases h
  rename_i kt et hund
  split at h
  case h_2 => cases h
  rename_i ki ei hki hei
  split at h
  case h_2 => cases h
  rename_i k' z' hk hz
  simp only [Option.some.injEq, Prod.mk.injEq] at h
  obtain ⟨rfl, rfl⟩ := h
  obtain ⟨_, _, _, _, _, hu, _⟩ := hty _ _ hki
  refine ⟨kt, et, fun w => by rw [run_underlying' (hty _ _ hi), hund], by rw [hu, hk], fun w => ?_⟩
  rw [ofV_den]
  exact run_zeroValue (hty _ _ hei) w hz

theorem rdX_sound {ty : Nat → Option TI} (hty : ∀ t i, ty t = some i → TyOk P t i) {ps : List PI} (hs : holds I ρ ps) (hh : HSat I ρ F H w hp) {tm : Tr SV} {o : Oper} {v : SV}
    (h : rdX ty tm H ps o.op = some v) {f : Operand → Value} (hf : ∀ x ∈ o.op.operands, ∀ u, opnd tm x = some u → f x = u.den ρ) :
    (execOp f o).run P w = .ok (.value (v.den ρ)) w := by
  unfold execOp
  generalize o.op = op at *
  unfold rdX at h
  split at h
  case h_1 t x lo hi mx =>
    split at h
    case h_2 => cases h
    rename_i xv l hh' m hx hl hh2 hm
    have e1 := hf x (by simp [Op.operands]) _ hx
    have b1 := bndS_sound (ρ := ρ) (f := f) hl (fun y hy u hu => hf y (by simp [Op.operands, hy]) u hu)
    have b2 := bndS_sound (ρ := ρ) (f := f) hh2 (fun y hy u hu => hf y (by simp [Op.operands, hy]) u hu)
    have b3 := bndS_sound (ρ := ρ) (f := f) hm (fun y hy u hu => hf y (by simp [Op.operands, hy]) u hu)
    simp only [e1, Sem.run_bind, rdSlice_sound hty hs hh h b1 b2 b3, Result.andThen_ok, Sem.run_pure]
  case h_2 t x =>
    split at h
    case h_2 => cases h
    rename_i k e hx
    cases h
    have e1 := hf x (by simp [Op.operands]) _ hx
    simp only [SV.den] at e1
    simp [e1, Op.unary, Op.intBits, SV.den, mkBin_den, opI, IE.den]
  case h_3 t x ix ok =>
    split at h
    case h_2 => cases h
    rename_i k z n k1 q hm hx hix
    split at h
    case h_2 => cases h
    rename_i k2 es clock hk
    obtain ⟨hc, h9⟩ := whenB_some h
    clear h
    rw [Bool.and_eq_true] at hc
    have k1e := IntKind.beq_eq hc.1
    have k2e := IntKind.beq_eq hc.2
    subst k1e; subst k2e
    have hblk := hh.block hk (hh.sat _ _ hk)
    obtain ⟨kt, et, hu, hku, hz⟩ := mapOf_sound (ρ := ρ) hty hm
    have e1 := hf x (by simp [Op.operands]) _ hx
    have e2 := hf ix (by simp [Op.operands]) _ hix
    simp only [SV.den, IE.den] at e1 e2
    have hkey : MapKept.IsKey (.int k2) (.int k2 q) := by simp [MapKept.IsKey]
    have hfk := MapKept.run_findKey (w := w) hku (findNow_den (ρ := ρ) k2 q es 0)
    have hlook := findM_look es q 0
    have hcheck := fun e => MapKept.run_checkKey (w := w) hku hkey e 9999
    simp only [e1, e2, Instr.lookup, Sem.run_bind, hu, Result.andThen_ok, MapKept.run_getObj_map hblk, Sem.run_pure, hcheck, hfk]
    cases hfm : findM es q 0 with
    | none =>
      rw [hfm] at hlook
      simp only [Option.map_none] at hlook
      rw [← hlook] at h9
      simp only [Option.some.injEq] at h9
      subst h9
      simp only [Option.map_none, Sem.run_bind, hz, Result.andThen_ok, Sem.run_pure]
      cases ok <;> simp [SV.den, denL, BE.den]
    | some p =>
      rw [hfm] at hlook
      simp only [Option.map_some] at hlook
      rw [← hlook] at h9
      simp only [Option.some.injEq] at h9
      subst h9
      simp only [Option.map_some, Sem.run_pure, Result.andThen_ok]
      cases ok <;> simp [SV.den, denL, BE.den]
  case h_4 xt x ix =>
    split at h
    case h_2 => cases h
    rename_i i s k n hi hx hix
    split at h
    case h_2 => cases h
    rename_i hund
    obtain ⟨b, hb, rfl⟩ := Option.map_eq_some_iff.1 h
    have e1 := hf x (by simp [Op.operands]) _ hx
    have e2 := hf ix (by simp [Op.operands]) _ hix
    simp only [SV.den, IE.den] at e1 e2
    have h0 : (0 : Int) ≤ Int.ofNat n := Int.natCast_nonneg n
    simp only [e1, e2, Instr.index, asIntOf, Sem.run_bind, Sem.run_pure, run_underlying' (hty _ _ hi), Result.andThen_ok, hund, h0, if_true]
    have : (Int.ofNat n).toNat = n := rfl
    simp only [this, hb, Sem.run_pure, Result.andThen_ok, SV.den, IE.den]
    rfl
  case h_5 arr x =>
    split at h
    case h_2 => cases h
    rename_i i a len cap hi hx
    split at h
    case h_2 => cases h
    rename_i n elem hund
    obtain ⟨hc, h⟩ := whenB_some h
    cases h
    rw [Bool.and_eq_true] at hc
    have h0 := nonneg_sound hs hc.1
    have h1 := leqK_sound hs hc.2
    simp only [IE.den, Int.ofNat_eq_natCast] at h1
    have e1 := hf x (by simp [Op.operands]) _ hx
    simp only [SV.den] at e1
    have hlt : ¬ (len.den ρ).toNat < n := by omega
    simp [e1, Instr.arrayAt, run_underlying' (hty _ _ hi), hund, hlt, SV.den]
  case h_6 op xt x y yt =>
    split at h
    case h_2 => cases h
    rename_i a b hx hy
    split at h
    case h_2 => cases h
    rename_i i hi
    obtain ⟨hc, h9⟩ := whenB_some h
    clear h
    have hn : isNil i.eq = false := by simpa using hc
    have e1 := hf x (by simp [Op.operands]) _ hx
    have e2 := hf y (by simp [Op.operands]) _ hy
    simp only [SV.den] at e1 e2
    have := fun (op : BinOp) (v : SV) (e : BE) h hv => eqAgg_sound (ρ := ρ) (P := P) (w := w) hty hi hn (a := a) (b := b) (x := x) (y := y) (op := op) (v := v) (e := e) h hv
    have fin : ∀ (z : SV), (binRun op xt x y (.agg (denL ρ a).toArray) (.agg (denL ρ b).toArray)).run P w = .ok (z.den ρ) w → v = z → _ := fun z hz hv => by
      subst hv
      have hz' := hz
      unfold binRun at hz'
      exact hz'
    split at h9
    · rename_i he
      cases h9
      have hz := this .eql _ _ he (.inl ⟨rfl, rfl⟩)
      unfold binRun at hz
      simp only [Sem.run_bind] at hz
      simp only [e1, e2, Sem.run_bind]
      revert hz
      cases (eqGuard .eql xt x y (.agg (denL ρ a).toArray) (.agg (denL ρ b).toArray)).run P w with
      | ok u w1 =>
        simp only [Result.andThen_ok]
        intro hz
        rw [hz]; rfl
      | halt q w1 => intro hz; cases hz
    · rename_i he
      cases h9
      have hz := this .neq _ _ he (.inr ⟨rfl, rfl⟩)
      unfold binRun at hz
      simp only [Sem.run_bind] at hz
      simp only [e1, e2, Sem.run_bind]
      revert hz
      cases (eqGuard .neq xt x y (.agg (denL ρ a).toArray) (.agg (denL ρ b).toArray)).run P w with
      | ok u w1 =>
        simp only [Result.andThen_ok]
        intro hz
        rw [hz]; rfl
      | halt q w1 => intro hz; cases hz
    · cases h9
  case h_7 x y _ =>
    split at h
    case h_2 => cases h
    rename_i k a k' b hx hy
    obtain ⟨hk, h⟩ := whenB_some h
    obtain ⟨e, he, rfl⟩ := Option.map_eq_some_iff.1 h
    have e1 := hf x (by simp [Op.operands, Call.operands]) _ hx
    have e2 := hf y (by simp [Op.operands, Call.operands]) _ hy
    simp only [SV.den] at e1 e2
    have := minS_sound hs he
    simp [resolve, invoke, builtin, e1, e2, Builtin.min_, Builtin.min2, SV.den, this]
  case h_8 x y _ =>
    split at h
    case h_2 => cases h
    rename_i k a k' b hx hy
    obtain ⟨hk, h⟩ := whenB_some h
    obtain ⟨e, he, rfl⟩ := Option.map_eq_some_iff.1 h
    have e1 := hf x (by simp [Op.operands, Call.operands]) _ hx
    have e2 := hf y (by simp [Op.operands, Call.operands]) _ hy
    simp only [SV.den] at e1 e2
    have := maxS_sound hs he
    simp [resolve, invoke, builtin, e1, e2, Builtin.max_, Builtin.max2, SV.den, this]
  case h_9 => cases h

theorem mkSub_bd {n : Nat} {a b : IE} (ha : a.bd n) (hb : b.bd n) : (mkSub a b).bd n := by
  unfold mkSub
  split
  · trivial
  · exact ha
  · exact ⟨ha.1, trivial⟩
  · exact ⟨ha, hb⟩
def obd (n : Nat) (x : Option IE) : Prop := ∀ e, x = some e → e.bd n
theorem getD_bd {n : Nat} {x : Option IE} {d : IE} (h : obd n x) (hd : d.bd n) : (x.getD d).bd n := by
  cases x with
  | none => exact hd
  | some e => exact h e rfl
theorem bndS_bd {n : Nat} {tm : Tr SV} (ht : TBd n tm) {x : Option Operand} {l : Option IE} (h : bndS tm x = some l) : obd n l := by
  unfold bndS at h
  split at h
  · cases h; intro e he; cases he
  · split at h
    · rename_i hy
      cases h
      intro e he
      cases he
      have := opnd_bd ht hy
      simpa only [SV.bd] using this
    · cases h
theorem bounds_bd {n : Nat} {ps : List PI} {lb : Nat} {len cap : IE} {lo hi mx : Option IE} {l h m : IE} {lb' : Nat} (hb : bounds ps lb len cap lo hi mx = some (l, h, m, lb')) (h1 : len.bd n) (h2 : cap.bd n)
    (h3 : obd n lo) (h4 : obd n hi) (h5 : obd n mx) : l.bd n ∧ h.bd n ∧ m.bd n := by
  unfold bounds at hb
  have := (whenB_some hb).2
  simp only [Option.some.injEq, Prod.mk.injEq] at this
  obtain ⟨rfl, rfl, rfl, _⟩ := this
  exact ⟨getD_bd h3 trivial, getD_bd h4 h1, getD_bd h5 h2⟩
theorem baseAt_bd {n : Nat} {ps : List PI} {a b : SA} {l m : IE} {lb size : Nat} (h : baseAt ps a l m lb size = some b) (ha : a.bd n) (hl : l.bd n) (hm : m.bd n) : b.bd n := by
  unfold baseAt at h
  split at h
  · cases h; exact ha
  · cases hb : Nat.blt _ lb with
    | true =>
      rw [hb] at h
      cases h; exact SA.add_bd ha
    | false =>
      rw [hb] at h
      simp only [cond_false] at h
      split at h
      · cases h; exact ha
      · cases h; exact SA.add_bd ha
      · exact mkIdx_bd h ha ⟨hm, trivial⟩
  · split at h
    · cases h; exact ha
    · exact mkIdx_bd h ha hl
    · exact mkIdx_bd h ha ⟨hm, hl⟩
theorem sliceOn_bd {n : Nat} {ps : List PI} {a : SA} {size lb : Nat} {len cap : IE} {lo hi mx : Option IE} {v : SV} (h : sliceOn ps a size lb len cap lo hi mx = some v) (ha : a.bd n) (h1 : len.bd n) (h2 : cap.bd n)
    (h3 : obd n lo) (h4 : obd n hi) (h5 : obd n mx) : v.bd n := by
  unfold sliceOn at h
  split at h
  case h_2 => cases h
  rename_i hb
  obtain ⟨b1, b2, b3⟩ := bounds_bd hb h1 h2 h3 h4 h5
  have h := (whenB_some h).2
  split at h
  case h_2 => cases h
  rename_i hbase
  cases h
  simp only [SV.bd]
  exact ⟨baseAt_bd hbase ha b1 b3, mkSub_bd b2 b1, mkSub_bd b3 b1⟩
theorem rdSlice_bd {n : Nat} {ty : Nat → Option TI} {H : Tr Ch} {ps : List PI} {t : Nat} {x : SV} {lo hi mx : Option IE} {v : SV} (h : rdSlice ty H ps t x lo hi mx = some v) (hx : x.bd n)
    (h3 : obd n lo) (h4 : obd n hi) (h5 : obd n mx) : v.bd n := by
  unfold rdSlice at h
  split at h
  case h_2 => cases h
  split at h
  case h_4 => cases h
  · simp only [SV.bd] at hx
    split at h
    case h_2 => cases h
    exact sliceOn_bd h hx.1 hx.2.1 hx.2.2 h3 h4 h5
  · simp only [SV.bd] at hx
    split at h
    case h_2 => cases h
    rename_i hb
    obtain ⟨b1, b2, b3⟩ := bounds_bd hb hx.1 hx.2 h3 h4 h5
    have := (whenB_some h).2
    cases this
    simp only [SV.bd]
    exact ⟨mkSub_bd b2 b1, mkSub_bd b3 b1⟩
  · simp only [SV.bd] at hx
    split at h
    case h_2 => cases h
    exact sliceOn_bd h hx trivial trivial h3 h4 h5
theorem eqCells_bd {n : Nat} : ∀ {s : List (Option IntKind)} {xs ys : List SV} {e : BE}, eqCells s xs ys = some e → bdL n xs → bdL n ys → e.bd n
  | s, xs, ys, e, h, hx, hy => by
    unfold eqCells at h
    split at h
    case h_4 => cases h
    · cases h; trivial
    · split at h
      case h_2 => cases h
      rename_i hr
      have := (whenB_some h).2
      cases this
      simp only [bdL, SV.bd] at hx hy
      exact mkIte_bd (mkEql_bd hx.1 hy.1) (eqCells_bd hr hx.2 hy.2) trivial
    · split at h
      case h_2 => cases h
      rename_i hr
      cases h
      simp only [bdL, SV.bd] at hx hy
      exact mkIte_bd (mkIte_bd hx.1 hy.1 (mkNot_bd hy.1)) (eqCells_bd hr hx.2 hy.2) trivial
theorem lookM_bd {n : Nat} : ∀ {es : List (Int × SV × Nat)} {q : Int} {v : SV}, lookM es q = some v → bdM n es → v.bd n
  | (k, u, b) :: es, q, v, h, hb => by
    simp only [lookM] at h
    cases hq : ieq q k with
    | true => rw [hq] at h; cases h; exact hb.1
    | false => rw [hq] at h; exact lookM_bd h hb.2
theorem mapOf_bd {n : Nat} {ty : Nat → Option TI} {t : Nat} {k : IntKind} {z : SV} (h : mapOf ty t = some (k, z)) : z.bd n := by
  unfold mapOf at h
  split at h
  case h_2 => cases h
  split at h
  case h_2 => cases h
  split at h
  case h_2 => cases h
  split at h
  case h_2 => cases h
  simp only [Option.some.injEq, Prod.mk.injEq] at h
  rw [← h.2]; exact ofV_bd n _

theorem rdX_bd {n : Nat} {tm : Tr SV} {H : Tr Ch} (ht : TBd n tm) (hH : HBd n H) {ty : Nat → Option TI} {ps : List PI} {op : Op} {v : SV} (h : rdX ty tm H ps op = some v) : v.bd n := by
  unfold rdX at h
  split at h
  case h_1 =>
    split at h
    case h_2 => cases h
    rename_i hx hl hh2 hm
    exact rdSlice_bd h (opnd_bd ht hx) (bndS_bd ht hl) (bndS_bd ht hh2) (bndS_bd ht hm)
  case h_2 =>
    split at h
    case h_2 => cases h
    rename_i hx
    cases h
    have := opnd_bd ht hx
    simp only [SV.bd] at this ⊢
    exact mkBin_bd trivial this
  case h_3 t x ix ok =>
    split at h
    case h_2 => cases h
    rename_i hm hx hix
    split at h
    case h_2 => cases h
    rename_i hk
    have hb := (hH _ _ hk).2
    obtain ⟨hc, h9⟩ := whenB_some h
    clear h
    split at h9
    · rename_i hl
      cases h9
      have := lookM_bd hl hb
      cases ok <;> simp [SV.bd, bdL, BE.bd, this]
    · cases h9
      have := mapOf_bd (n := n) hm
      cases ok <;> simp [SV.bd, bdL, BE.bd, this]
  case h_4 =>
    split at h
    case h_2 => cases h
    split at h
    case h_2 => cases h
    obtain ⟨b, hb, rfl⟩ := Option.map_eq_some_iff.1 h
    simp [SV.bd, IE.bd]
  case h_5 =>
    split at h
    case h_2 => cases h
    rename_i hx
    split at h
    case h_2 => cases h
    have := (whenB_some h).2
    cases this
    have := opnd_bd ht hx
    simp only [SV.bd] at this ⊢
    exact this.1
  case h_6 =>
    split at h
    case h_2 => cases h
    rename_i hx hy
    split at h
    case h_2 => cases h
    have h9 := (whenB_some h).2
    have h1 := opnd_bd ht hx
    have h2 := opnd_bd ht hy
    simp only [SV.bd] at h1 h2
    split at h9
    · rename_i he
      cases h9
      simp only [SV.bd]; exact eqCells_bd he h1 h2
    · rename_i he
      cases h9
      simp only [SV.bd]; exact mkNot_bd (eqCells_bd he h1 h2)
    · cases h9
  case h_7 =>
    split at h
    case h_2 => cases h
    rename_i hx hy
    obtain ⟨e, he, rfl⟩ := Option.map_eq_some_iff.1 (whenB_some h).2
    have h1 := opnd_bd ht hx
    have h2 := opnd_bd ht hy
    simp only [SV.bd] at h1 h2 ⊢
    unfold minS at he
    split at he <;> cases he
    · exact h2
    · exact h1
  case h_8 =>
    split at h
    case h_2 => cases h
    rename_i hx hy
    obtain ⟨e, he, rfl⟩ := Option.map_eq_some_iff.1 (whenB_some h).2
    have h1 := opnd_bd ht hx
    have h2 := opnd_bd ht hy
    simp only [SV.bd] at h1 h2 ⊢
    unfold maxS at he
    split at he <;> cases he
    · exact h2
    · exact h1
  case h_9 => cases h

theorem rdB_sound {ty : Nat → Option TI} (hty : ∀ t i, ty t = some i → TyOk P t i) {ps : List PI} (hs : holds I ρ ps) (hh : HSat I ρ F H w hp) {tm : Tr SV} {o : Oper} {v : SV}
    (h : rdB ty tm H ps o.op = some v) {f : Operand → Value} (hf : ∀ x ∈ o.op.operands, ∀ u, opnd tm x = some u → f x = u.den ρ) :
    (execOp f o).run P w = .ok (.value (v.den ρ)) w := by
  unfold rdB orE at h
  split at h
  · rename_i u hu; cases h; exact rd0_sound hty hs hh hu hf
  · exact rdX_sound hty hs hh h hf
theorem rdB_bd {n : Nat} {tm : Tr SV} {H : Tr Ch} (ht : TBd n tm) (hH : HBd n H) {ty : Nat → Option TI} {ps : List PI} {op : Op} {v : SV} (h : rdB ty tm H ps op = some v) : v.bd n := by
  unfold rdB orE at h
  split at h
  · rename_i u hu; cases h; exact rd0_bd ht hH hu
  · exact rdX_bd ht hH h
end
end Go.Vg
