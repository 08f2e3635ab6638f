/- The engine's operations that change no memory, all of them: 'rd'; and that the model gives what it gives. Conditions: the table of types is the program's. -/
import Derived.Test.YtfkjbiigciabpaaGreatVgOps
namespace Go.Vg

/-- An element's address: the index is known, or stands behind. -/
def mkIdx (a : SA) (e : IE) (size : Nat) : Option SA :=
  match e with
  | .lit n => some (a.add (n.toNat * size))
  | e => some { a with dyn := (e, size) :: a.dyn }

def partS (ty : Nat → Option TI) (t : Nat) (l : List SV) (off : Nat) : Option SV :=
  match ty t with
  | some i => cond (aggOf i.und) (whenB (Nat.ble (off + i.size) l.length) (some (.agg ((l.drop off).take i.size)))) l[off]?
  | none => none

def opnds (tm : Tr SV) : List Operand → Option (List SV)
  | [] => some []
  | x :: xs => match opnd tm x, opnds tm xs with
    | some v, some vs => some (v :: vs)
    | _, _ => none

/-- A value's cells, where they are known. -/
def SV.cellsOf : SV → Option (List SV)
  | .agg l => some l
  | v => whenB v.one (some [v])

/-- Cells with a part put in from an offset on. -/
def splice (cells : List SV) (off : Nat) (vs : List SV) : List SV := cells.take off ++ vs ++ cells.drop (off + vs.length)

def fillS (place : Nat → Option (Nat × Nat)) (cells : List SV) : List (Nat × SV) → Option (List SV)
  | [] => some cells
  | (i, v) :: rest => match place i, v.cellsOf with
    | some (off, size), some vs => whenB (Nat.beq vs.length size && Nat.ble (off + size) cells.length) (fillS place (splice cells off vs) rest)
    | _, _ => none

def partsS (tm : Tr SV) : List (Nat × Operand) → Option (List (Nat × SV))
  | [] => some []
  | (i, x) :: xs => match opnd tm x, partsS tm xs with
    | some v, some vs => some ((i, v) :: vs)
    | _, _ => none

/-- Where the fields of a struct lie. -/
def placesS (ty : Nat → Option TI) : List Field → Option (List (Nat × Nat))
  | [] => some []
  | f :: fs => match ty f.type, placesS ty fs with
    | some i, some r => some ((f.offset, i.size) :: r)
    | _, _ => none

def rdBuild (ty : Nat → Option TI) (t : Nat) (ps : List (Nat × SV)) : Option SV :=
  match ty t with
  | some i => match i.zero with
    | some (.agg z) => match i.und with
      | .struct fs => match placesS ty fs.toList with
        | some pl => (fillS (pl[·]?) (z.toList.map of1) ps).map .agg
        | none => none
      | .array _ elem => match ty elem with
        | some ei => (fillS (fun j => some (j * ei.size, ei.size)) (z.toList.map of1) ps).map .agg
        | none => none
      | _ => none
    | _ => none
  | none => none

def sliceT (ty : Nat → Option TI) (t : Nat) : Bool :=
  match ty t with
  | some i => match i.und with | .slice _ => true | _ => false
  | none => false
def rdLen (ps : List PI) : SV → Option SV
  | .slice _ l _ | .nils l _ => whenB (nonneg ps l) (some (.int .i64 l))
  | _ => none
def rdCap (ps : List PI) : SV → Option SV
  | .slice _ _ c | .nils _ c => whenB (nonneg ps c) (some (.int .i64 c))
  | _ => none

def rdIdx (ty : Nat → Option TI) (ps : List PI) (t : Nat) (x ix : SV) : Option SV :=
  match ty t, ix with
  | some i, .int _ e => match i.und, x with
    | .slice elem, .slice a len _ => match ty elem with
      | some ei => whenB (nonneg ps e && known ps (mkLss e len) == some true) ((mkIdx a e ei.size).map .ptr)
      | none => none
    | .array n elem, .ptr a => match ty elem with
      | some ei => whenB (nonneg ps e && known ps (mkLss e (.lit (.ofNat n))) == some true) ((mkIdx a e ei.size).map .ptr)
      | none => none
    | _, _ => none
  | _, _ => none

def rd0 (ty : Nat → Option TI) (tm : Tr SV) (H : Tr Ch) (ps : List PI) : Op → Option SV
  | .move x | .assign x => opnd tm x
  | .pick c a b => match opnd tm c with
    | some (.bool cb) => match known ps cb with
      | some true => opnd tm a
      | some false => opnd tm b
      | none => match opnd tm a, opnd tm b with
        | some (.bool p), some (.bool q) => some (.bool (mkIte cb p q))
        | _, _ => none
    | _ => none
  | .load t a => match opnd tm a, ty t with
    | some (.ptr sa), some i => cond (aggOf i.und) ((ldCells ps H sa i.size).map .agg) (match ldCells ps H sa 1 with | some [v] => some v | _ => none)
    | _, _ => none
  | .nilCheck x => match opnd tm x with
    | some (.ptr a) => some (.ptr a)
    | some (.func f a b) => some (.func f a b)
    | some (.iface t v) => some (.iface t v)
    | _ => none
  | .binOp op xt x y _ => match opnd tm x, opnd tm y with
    | some a, some b => rdBin ty ps op xt (isConst x || isConst y) a b
    | _, _ => none
  | .unOp op _ x => match op, opnd tm x with
    | .not, some (.bool b) => some (.bool (mkNot b))
    | .neg, some (.int k e) => some (.int k (mkBin .sub k (.lit 0) e))
    | _, _ => none
  | .convert src dst x => match ty src, ty dst, opnd tm x with
    | some _, some i, some (.int _ e) => match i.und with | .int k => some (.int k (mkWrap k e)) | _ => none
    | _, _, _ => none
  | .makeInterface xt x => match ty xt, opnd tm x with
    | some i, some v => match i.und with | .interface _ => none | _ => some (.iface xt v)
    | _, _ => none
  | .makeFunc (.func f) first cap => match opnds tm first.toList, opnds tm cap.toList with
    | some a, some b => some (.func (.func f) a b)
    | _, _ => none
  | .fieldAddr s x f => match ty s, opnd tm x with
    | some i, some (.ptr a) => match i.und with
      | .struct fs => match fs[f]? with
        | some fld => match ty fld.type with
          | some fi => whenB (!Nat.beq fi.size 0) (some (.ptr (a.add fld.offset)))
          | none => none
        | none => none
      | _ => none
    | _, _ => none
  | .field xt x f => match ty xt, opnd tm x with
    | some i, some (.agg l) => match i.und with
      | .struct fs => match fs[f]? with
        | some fld => partS ty fld.type l fld.offset
        | none => none
      | _ => none
    | _, _ => none
  | .indexAddr t x ix => match opnd tm x, opnd tm ix with
    | some a, some b => rdIdx ty ps t a b
    | _, _ => none
  | .index xt x ix => match ty xt, opnd tm x, opnd tm ix with
    | some i, some (.agg l), some (.int _ (.lit n)) => match i.und with
      | .array len elem => match ty elem with
        | some ei => whenB (!ilt n 0 && ilt n (.ofNat len)) (partS ty elem l (n.toNat * ei.size))
        | none => none
      | _ => none
    | _, _, _ => none
  | .extract tp i => match opnd tm tp with
    | some (.tup l) => l[i]?
    | _ => none
  | .build t parts => match partsS tm parts.toList with
    | some ps => rdBuild ty t ps
    | none => none
  | .call { callee := .builtin .len, args := ⟨[x]⟩, argTypes := ⟨[t]⟩ } => match opnd tm x with | some v => whenB (sliceT ty t) (rdLen ps v) | none => none
  | .call { callee := .builtin .cap, args := ⟨[x]⟩, argTypes := ⟨[t]⟩ } => match opnd tm x with | some v => whenB (sliceT ty t) (rdCap ps v) | none => none
  | _ => none

section
variable {U : Type} {I : Interp U} {ρ : Env U} {P : Program} {w : World} {F : Fr} {H : Tr Ch} {hp : Nat → PHeap}

theorem mkIdx_den {a b : SA} {e : IE} {size : Nat} (h : mkIdx a e size = some b) : b.den ρ = (a.den ρ).add ((e.den ρ).toNat * size) := by
  unfold mkIdx at h
  split at h
  · cases h; simp only [IE.den]; exact SA.add_den _ _
  · cases h
    simp only [SA.den, dynDen, Addr.add]
    split
    · rename_i h0; rw [h0]; simp
    · simp; omega

theorem partS_sound {ty : Nat → Option TI} (hty : ∀ t i, ty t = some i → TyOk P t i) {t : Nat} {l : List SV} {off : Nat} {v : SV} (h : partS ty t l off = some v) :
    (part t (denL ρ l).toArray off).run P w = .ok (v.den ρ) w := by
  unfold partS at h
  split at h
  case h_2 => cases h
  rename_i i hi
  have ht := hty _ _ hi
  cases hagg : aggOf i.und with
  | true =>
    rw [hagg] at h
    obtain ⟨h1, h2⟩ := whenB_some h
    cases h2
    simp [part, run_isAgg ht, run_sizeOf ht, hagg, SV.den, denL_eq, List.map_take, List.map_drop]
  | false =>
    rw [hagg] at h
    simp only [cond_false] at h
    have : (denL ρ l).toArray[off]? = some (v.den ρ) := by rw [List.getElem?_toArray, denL_getElem?, h]; rfl
    simp [part, run_isAgg ht, hagg, this]


theorem opnds_sound {tm : Tr SV} {f : Operand → Value} : ∀ {xs : List Operand} {vs : List SV}, opnds tm xs = some vs → (∀ x ∈ xs, ∀ u, opnd tm x = some u → f x = u.den ρ) → xs.map f = denL ρ vs
  | [], _, h, _ => by simp only [opnds, Option.some.injEq] at h; subst h; simp [denL]
  | x :: xs, _, h, hf => by
    simp only [opnds] at h
    split at h
    · rename_i v vs hv hvs
      cases h
      simp only [List.map_cons, denL, hf x (by simp) v hv, opnds_sound hvs (fun y hy => hf y (by simp [hy]))]
    · cases h

theorem partsS_sound {tm : Tr SV} {f : Operand → Value} : ∀ {xs : List (Nat × Operand)} {vs : List (Nat × SV)}, partsS tm xs = some vs → (∀ x ∈ xs.map (·.2), ∀ u, opnd tm x = some u → f x = u.den ρ) →
    xs.map (fun p => (p.1, f p.2)) = vs.map (fun p => (p.1, p.2.den ρ))
  | [], _, h, _ => by simp only [partsS, Option.some.injEq] at h; subst h; rfl
  | (i, x) :: xs, _, h, hf => by
    simp only [partsS] at h
    split at h
    · rename_i v vs hv hvs
      cases h
      simp only [List.map_cons, hf x (by simp) v hv, partsS_sound hvs (fun y hy => hf y (by simp only [List.map_cons, List.mem_cons]; exact .inr hy))]
    · cases h

theorem cellsOf_sound {v : SV} {vs : List SV} (h : v.cellsOf = some vs) : (v.den ρ).cells = (denL ρ vs).toArray := by
  unfold SV.cellsOf at h
  split at h
  · cases h; simp [SV.den, Value.cells]
  · obtain ⟨h1, h2⟩ := whenB_some h
    cases h2
    rw [SV.one_cells ρ h1]; simp [denL]

theorem set_splice {α : Type} (c : List α) (n : Nat) (v : α) (vs : List α) (hn : n < c.length) :
    (c.set n v).take (n + 1) ++ vs ++ (c.set n v).drop (n + 1 + vs.length) = c.take n ++ v :: vs ++ c.drop (n + 1 + vs.length) := by
  have t : (c.set n v).take (n + 1) = c.take n ++ [v] := by
    apply List.ext_getElem?
    intro j
    by_cases hi : j < n
    · rw [List.getElem?_take, List.getElem?_append_left (by simp; omega), List.getElem?_take, List.getElem?_set]
      have : ¬ n = j := by omega
      have h2 : j < n + 1 := by omega
      simp [this, h2, hi]
    · by_cases hi2 : j = n
      · subst hi2
        rw [List.getElem?_append_right (by simp; omega)]
        simp [hn]
        rw [Nat.min_eq_left (by omega)]; simp
      · rw [List.getElem?_eq_none (by simp; omega), List.getElem?_eq_none (by simp; omega)]
  have d : (c.set n v).drop (n + 1 + vs.length) = c.drop (n + 1 + vs.length) := by
    apply List.ext_getElem?
    intro j
    have : ¬ n = n + 1 + vs.length + j := by omega
    simp [List.getElem?_drop, this]
  rw [t, d]
  simp

theorem foldl_set (vs : List Value) : ∀ (cells : List Value) (off j : Nat), off + j + vs.length ≤ cells.length →
    (vs.zipIdx j).foldl (fun cs (p : Value × Nat) => cs.setIfInBounds (off + p.2) p.1) cells.toArray = (cells.take (off + j) ++ vs ++ cells.drop (off + j + vs.length)).toArray := by
  induction vs with
  | nil => intro cells off j h; simp
  | cons v vs ih =>
    intro cells off j h
    simp only [List.length_cons] at h
    simp only [List.zipIdx_cons, List.foldl_cons, List.setIfInBounds_toArray]
    rw [ih _ _ _ (by simp; omega)]
    have e1 : off + (j + 1) = (off + j) + 1 := by omega
    have e2 : off + j + (v :: vs).length = (off + j) + 1 + vs.length := by simp only [List.length_cons]; omega
    rw [e1, e2, set_splice _ _ _ _ (by omega)]

theorem fill_sound {place : Nat → Option (Nat × Nat)} : ∀ {ps : List (Nat × SV)} {cells out : List SV}, fillS place cells ps = some out →
    Instr.fill place (denL ρ cells).toArray (ps.map fun p => (p.1, p.2.den ρ)) = some (denL ρ out).toArray
  | [], cells, out, h => by simp only [fillS, Option.some.injEq] at h; subst h; rfl
  | (i, v) :: rest, cells, out, h => by
    simp only [fillS] at h
    split at h
    case h_2 => cases h
    rename_i off size vs hp hv
    obtain ⟨h1, h2⟩ := whenB_some h
    simp only [Bool.and_eq_true] at h1
    have hs := Nat.eq_of_beq_eq_true h1.1
    have hl := Nat.le_of_ble_eq_true h1.2
    have hc := cellsOf_sound (ρ := ρ) hv
    simp only [List.map_cons, Instr.fill, hp, hc]
    have hne : ¬ ((decide ((denL ρ vs).toArray.size ≠ size) || decide (off + (denL ρ vs).toArray.size > (denL ρ cells).toArray.size)) = true) := by
      simp [denL_length, hs]; omega
    rw [if_neg hne, ← Array.foldl_toList, Array.toList_zipIdx]
    rw [foldl_set _ _ off 0 (by simp [denL_length]; omega)]
    have ih := fill_sound (place := place) (ps := rest) (cells := splice cells off vs) (out := out) h2
    have e : (denL ρ (splice cells off vs)).toArray = (List.take (off + 0) (denL ρ cells) ++ (denL ρ vs).toArray.toList ++ List.drop (off + 0 + (denL ρ vs).toArray.toList.length) (denL ρ cells)).toArray := by
      simp [splice, denL_eq, List.map_take, List.map_drop]
    rw [← e]; exact ih

theorem placesS_sound {ty : Nat → Option TI} (hty : ∀ t i, ty t = some i → TyOk P t i) : ∀ {fs : List Field} {pl : List (Nat × Nat)}, placesS ty fs = some pl →
    (fs.mapM (m := Sem) fun f => do pure (f.offset, ← sizeOf f.type)).run P w = .ok pl w
  | [], _, h => by simp only [placesS, Option.some.injEq] at h; subst h; rfl
  | f :: fs, _, h => by
    simp only [placesS] at h
    split at h
    · rename_i i r hi hr
      cases h
      rw [List.mapM_cons]
      simp only [Sem.run_bind, run_sizeOf (hty _ _ hi), Result.andThen_ok, Sem.run_pure, placesS_sound hty hr]
    · cases h

theorem sliceT_sound {ty : Nat → Option TI} (hty : ∀ t i, ty t = some i → TyOk P t i) {t : Nat} (h : sliceT ty t = true) : ∃ e, ∀ w, (underlying t).run P w = .ok (.slice e) w := by
  unfold sliceT at h
  split at h
  case h_2 => cases h
  rename_i i hi
  split at h
  case h_2 => cases h
  rename_i e he
  exact ⟨e, fun w => by rw [run_underlying' (hty _ _ hi), he]⟩
theorem rdLen_sound {ps : List PI} (hs : holds I ρ ps) {v u : SV} (h : rdLen ps v = some u) {t e : Nat} (ht : ∀ w, (underlying t).run P w = .ok (.slice e) w) (t' : Nat) :
    (Builtin.len_ #[t] t' #[v.den ρ]).run P w = .ok (u.den ρ) w := by
  unfold rdLen at h
  split at h
  case h_3 => cases h
  all_goals
    obtain ⟨h1, h2⟩ := whenB_some h
    cases h2
    have h0 := Int.toNat_of_nonneg (nonneg_sound hs h1)
    simp only [SV.den]
    simp only [Builtin.len_, Sem.run_bind, ht, Result.andThen_ok, List.getElem?_toArray, List.getElem?_cons_zero, Sem.run_pure, goInt, h0]
theorem rdCap_sound {ps : List PI} (hs : holds I ρ ps) {v u : SV} (h : rdCap ps v = some u) {t e : Nat} (ht : ∀ w, (underlying t).run P w = .ok (.slice e) w) (t' : Nat) :
    (Builtin.cap_ #[t] t' #[v.den ρ]).run P w = .ok (u.den ρ) w := by
  unfold rdCap at h
  split at h
  case h_3 => cases h
  all_goals
    obtain ⟨h1, h2⟩ := whenB_some h
    cases h2
    have h0 := Int.toNat_of_nonneg (nonneg_sound hs h1)
    simp only [SV.den]
    simp only [Builtin.cap_, Sem.run_bind, ht, Result.andThen_ok, List.getElem?_toArray, List.getElem?_cons_zero, Sem.run_pure, goInt, h0]

theorem rdIdx_sound {ty : Nat → Option TI} (hty : ∀ t i, ty t = some i → TyOk P t i) {ps : List PI} (hs : holds I ρ ps) {t : Nat} {x ix v : SV} (h : rdIdx ty ps t x ix = some v) :
    (Instr.indexAt t (x.den ρ) (ix.den ρ)).run P w = .ok (v.den ρ) w := by
  unfold rdIdx at h
  split at h
  case h_2 => cases h
  rename_i i k e hi
  have hu := fun w => run_underlying' (hty _ _ hi) w
  split at h
  case h_3 => cases h
  case h_1 elem a len cp hund =>
    split at h
    case h_2 => cases h
    rename_i ei hei
    obtain ⟨h1, h2⟩ := whenB_some h
    simp only [Bool.and_eq_true, beq_iff_eq] at h1
    cases hm : mkIdx a e ei.size with
    | none => rw [hm] at h2; cases h2
    | some b =>
      rw [hm] at h2; cases h2
      have h0 := nonneg_sound hs h1.1
      have hl := known_sound hs _ _ h1.2
      rw [mkLss_den] at hl
      have hl := of_decide_eq_true hl
      have hlt : e.den ρ < ((len.den ρ).toNat : Int) := by omega
      simp only [SV.den, mkIdx_den hm]
      simp only [Instr.indexAt, asIntOf, Sem.run_bind, Sem.run_pure, Result.andThen_ok, hu, hund]
      simp only [Sem.run_bind, hu, hund, Result.andThen_ok, Sem.run_pure, and_self, h0, hlt, if_true, run_sizeOf (hty _ _ hei)]
  case h_2 n elem a hund =>
    split at h
    case h_2 => cases h
    rename_i ei hei
    obtain ⟨h1, h2⟩ := whenB_some h
    simp only [Bool.and_eq_true, beq_iff_eq] at h1
    cases hm : mkIdx a e ei.size with
    | none => rw [hm] at h2; cases h2
    | some b =>
      rw [hm] at h2; cases h2
      have h0 := nonneg_sound hs h1.1
      have hl := known_sound hs _ _ h1.2
      rw [mkLss_den] at hl
      have hl := of_decide_eq_true hl
      simp only [IE.den] at hl
      have hlt : e.den ρ < (n : Int) := hl
      simp only [SV.den, mkIdx_den hm]
      simp only [Instr.indexAt, asIntOf, Sem.run_bind, Sem.run_pure, Result.andThen_ok, hu, hund]
      simp [Instr.sureAddr, h0, hlt, run_sizeOf (hty _ _ hei)]

theorem rdBuild_sound {ty : Nat → Option TI} (hty : ∀ t i, ty t = some i → TyOk P t i) {t : Nat} {ps : List (Nat × SV)} {v : SV} (h : rdBuild ty t ps = some v) :
    (Instr.build t (ps.map fun p => (p.1, p.2.den ρ)).toArray).run P w = .ok (v.den ρ) w := by
  unfold rdBuild at h
  split at h
  case h_2 => cases h
  rename_i i hi
  have ht := hty _ _ hi
  split at h
  case h_2 => cases h
  rename_i z hz
  have hzz : (denL ρ (z.toList.map of1)).toArray = z := by
    rw [denL_eq, List.map_map]
    have : z.toList.map (SV.den ρ ∘ of1) = z.toList := by
      conv => rhs; rw [← List.map_id z.toList]
      exact List.map_congr_left fun x _ => of1_den ρ x
    rw [this]
  split at h
  case h_3 => cases h
  case h_1 fs hund =>
    split at h
    case h_2 => cases h
    rename_i pl hpl
    cases hf : fillS (pl[·]?) (z.toList.map of1) ps with
    | none => rw [hf] at h; cases h
    | some out =>
      rw [hf] at h; cases h
      have h1 := fill_sound (ρ := ρ) hf
      rw [hzz] at h1
      have h2 : (fs.mapM (m := Sem) fun f => do pure (f.offset, ← sizeOf f.type)).run P w = .ok pl.toArray w := by
        rw [Array.mapM_eq_mapM_toList, Sem.run_map, placesS_sound hty hpl]; rfl
      simp only [Instr.build, Sem.run_bind, run_zeroValue ht w hz, run_underlying' ht, Result.andThen_ok, hund]
      simp only [Sem.run_bind, h2, Result.andThen_ok, Value.cells, SV.den]
      have e : (fun x : Nat => pl.toArray[x]?) = (fun x : Nat => pl[x]?) := by funext x; simp
      simp only [e, h1]
      rfl
  case h_2 n elem hund =>
    split at h
    case h_2 => cases h
    rename_i ei hei
    cases hf : fillS (fun j => some (j * ei.size, ei.size)) (z.toList.map of1) ps with
    | none => rw [hf] at h; cases h
    | some out =>
      rw [hf] at h; cases h
      have h1 := fill_sound (ρ := ρ) hf
      rw [hzz] at h1
      simp only [Instr.build, Sem.run_bind, run_zeroValue ht w hz, run_underlying' ht, Result.andThen_ok, hund]
      simp only [Sem.run_bind, run_sizeOf (hty _ _ hei), Result.andThen_ok, Value.cells, SV.den]
      simp only [h1]
      rfl

theorem rd0_sound {ty : Nat → Option TI} (hty : ∀ t i, ty t = some i → TyOk P t i) {ps : List PI} (hs : holds I ρ ps) (hh : HSat I ρ F H w hp) {tm : Tr SV} {o : Oper} {v : SV}
    (h : rd0 ty tm H ps o.op = some v) {f : Operand → Value} (hf : ∀ x ∈ o.op.operands, ∀ u, opnd tm x = some u → f x = u.den ρ) :
    (execOp f o).run P w = .ok (.value (v.den ρ)) w := by
  unfold execOp
  generalize o.op = op at *
  unfold rd0 at h
  split at h
  case h_1 x =>
    have := hf x (by simp [Op.operands]) _ h
    simp [this]
  case h_2 x =>
    have := hf x (by simp [Op.operands]) _ h
    simp [this]
  case h_3 c a b =>
    split at h
    case h_2 => cases h
    rename_i cb hc
    have e1 := hf c (by simp [Op.operands]) _ hc
    simp only [SV.den] at e1
    split at h
    · rename_i hk
      have e2 := hf a (by simp [Op.operands]) _ h
      simp [e1, asBool, known_sound hs _ _ hk, e2]
    · rename_i hk
      have e2 := hf b (by simp [Op.operands]) _ h
      simp [e1, asBool, known_sound hs _ _ hk, e2]
    · split at h
      case h_2 => cases h
      rename_i p q hp hq
      cases h
      have e2 := hf a (by simp [Op.operands]) _ hp
      have e3 := hf b (by simp [Op.operands]) _ hq
      simp only [SV.den] at e2 e3
      simp [e1, asBool, e2, e3, SV.den, mkIte_den]
      cases cb.den ρ <;> simp
  case h_4 t a =>
    split at h
    case h_2 => cases h
    rename_i sa i ha hi
    have e1 := hf a (by simp [Op.operands]) _ ha
    simp only [SV.den] at e1
    have ht := hty _ _ hi
    cases hagg : aggOf i.und with
    | true =>
      rw [hagg] at h
      simp only [cond_true] at h
      cases hl : ldCells ps H sa i.size with
      | none => rw [hl] at h; cases h
      | some vs =>
        rw [hl] at h; cases h
        obtain ⟨hlen, hc⟩ := ldCells_sound hh hs hl
        have h1 : (loadCells (sa.den ρ) i.size).run P w = .ok (denL ρ vs).toArray w := by
          have := run_loadCells_list (P := P) (w := w) (sa.den ρ) (denL ρ vs) (fun j v hv => by
            rw [denL_getElem?] at hv
            cases hj : vs[j]? with
            | none => rw [hj] at hv; cases hv
            | some u => rw [hj] at hv; cases hv; exact hc j u hj)
          rw [denL_length, hlen] at this; exact this
        simp [e1, Instr.loadAt, Instr.sureAddr, loadVar, run_isAgg ht, run_sizeOf ht, hagg, h1, SV.den]
    | false =>
      rw [hagg] at h
      simp only [cond_false] at h
      split at h
      case h_2 => cases h
      rename_i u hl
      cases h
      obtain ⟨hlen, hc⟩ := ldCells_sound hh hs hl
      have h0 := hc 0 v (by simp)
      have : (sa.den ρ).add 0 = sa.den ρ := by simp [Addr.add]
      rw [this] at h0
      simp [e1, Instr.loadAt, Instr.sureAddr, loadVar, run_isAgg ht, hagg, h0]
  case h_5 x =>
    split at h
    case h_4 => cases h
    all_goals
      rename_i hx
      cases h
      have e1 := hf x (by simp [Op.operands]) _ hx
      simp only [SV.den] at e1
      simp only [e1, SV.den]
    · rfl
    · rename_i fn _ _
      cases fn <;> rfl
    · rfl
  case h_6 op xt x y yt =>
    split at h
    case h_2 => cases h
    rename_i a b ha hb
    have e1 := hf x (by simp [Op.operands]) _ ha
    have e2 := hf y (by simp [Op.operands]) _ hb
    have := rdBin_sound (P := P) (w := w) hty hs h
    simp only [e1, e2]
    unfold binRun at this
    simp only [Sem.run_bind] at this ⊢
    simp [this]
  case h_7 op t x =>
    split at h
    case h_3 => cases h
    · rename_i b hx
      cases h
      have e1 := hf x (by simp [Op.operands]) _ hx
      simp only [SV.den] at e1
      simp [e1, Op.unary, SV.den, mkNot_den]
    · rename_i k e hx
      cases h
      have e1 := hf x (by simp [Op.operands]) _ hx
      simp only [SV.den] at e1
      simp [e1, Op.unary, Op.intArith, SV.den, mkBin_den, opI, IE.den]
  case h_8 src dst x =>
    split at h
    case h_2 => cases h
    rename_i si i k e hsi hi hx
    split at h
    case h_2 => cases h
    rename_i k' hund
    cases h
    have e1 := hf x (by simp [Op.operands]) _ hx
    simp only [SV.den] at e1
    simp only [e1, convert, Sem.run_bind, run_underlying' (hty _ _ hsi), run_underlying' (hty _ _ hi), Result.andThen_ok, hund]
    cases si.und <;> simp [Conv.intToInt, SV.den, mkWrap_den]
  case h_9 xt x =>
    split at h
    case h_2 => cases h
    rename_i i u hi hx
    have e1 := hf x (by simp [Op.operands]) _ hx
    cases hund : i.und <;> rw [hund] at h <;> first | (cases h; done) | (cases h; simp [e1, Instr.makeInterface, run_underlying' (hty _ _ hi), hund, SV.den])
  case h_10 g first cap =>
    split at h
    case h_2 => cases h
    rename_i as bs ha hb
    cases h
    have e1 := opnds_sound (ρ := ρ) ha (fun x hx => hf x (by simp only [Op.operands, Array.mem_append]; exact .inl (Array.mem_toList_iff.1 hx)))
    have e2 := opnds_sound (ρ := ρ) hb (fun x hx => hf x (by simp only [Op.operands, Array.mem_append]; exact .inr (Array.mem_toList_iff.1 hx)))
    have e1' : first.map f = (denL ρ as).toArray := by rw [← e1, ← Array.toList_map, Array.toArray_toList]
    have e2' : cap.map f = (denL ρ bs).toArray := by rw [← e2, ← Array.toList_map, Array.toArray_toList]
    simp [Instr.makeFunc, e1', e2', SV.den, SFn.den]
  case h_11 s x fi =>
    split at h
    case h_2 => cases h
    rename_i i a hi hx
    split at h
    case h_2 => cases h
    rename_i fs hund
    split at h
    case h_2 => cases h
    rename_i fld hfld
    split at h
    case h_2 => cases h
    rename_i fti hfti
    obtain ⟨h1, h2⟩ := whenB_some h
    cases h2
    have hne : ¬ fti.size = 0 := fun e => by rw [e] at h1; cases h1
    have e1 := hf x (by simp [Op.operands]) _ hx
    simp only [SV.den] at e1
    simp only [e1, Instr.fieldAt, Sem.run_bind, run_underlying' (hty _ _ hi), Result.andThen_ok, hund]
    simp [hfld, Instr.sureAddr, fieldPlace, run_sizeOf (hty _ _ hfti), hne, SV.den, SA.add_den]
  case h_12 xt x fi =>
    split at h
    case h_2 => cases h
    rename_i i l hi hx
    split at h
    case h_2 => cases h
    rename_i fs hund
    split at h
    case h_2 => cases h
    rename_i fld hfld
    have e1 := hf x (by simp [Op.operands]) _ hx
    simp only [SV.den] at e1
    simp only [e1, Instr.field, Sem.run_bind, run_underlying' (hty _ _ hi), Result.andThen_ok, hund]
    simp [hfld, asAgg, partS_sound (ρ := ρ) (w := w) hty h]
  case h_13 t x ix =>
    split at h
    case h_2 => cases h
    rename_i a b ha hb
    have e1 := hf x (by simp [Op.operands]) _ ha
    have e2 := hf ix (by simp [Op.operands]) _ hb
    simp only [e1, e2, Sem.run_bind, rdIdx_sound (P := P) (w := w) hty hs h, Result.andThen_ok, Sem.run_pure]
  case h_14 xt x ix =>
    split at h
    case h_2 => cases h
    rename_i i l k n hi hx hix
    split at h
    case h_2 => cases h
    rename_i len elem hund
    split at h
    case h_2 => cases h
    rename_i ei hei
    obtain ⟨h1, h2⟩ := whenB_some h
    simp only [ilt_eq, Bool.and_eq_true, Bool.not_eq_true', decide_eq_false_iff_not, decide_eq_true_eq] at h1
    have e1 := hf x (by simp [Op.operands]) _ hx
    have e2 := hf ix (by simp [Op.operands]) _ hix
    simp only [SV.den, IE.den] at e1 e2
    have h0 : 0 ≤ n := by omega
    have hl : n < (len : Int) := h1.2
    simp only [e1, e2, Instr.index, asIntOf, Sem.run_bind, Sem.run_pure, run_underlying' (hty _ _ hi), Result.andThen_ok, hund]
    simp only [h0, hl, and_self, if_true, Sem.run_bind, run_sizeOf (hty _ _ hei), Result.andThen_ok, partS_sound (ρ := ρ) (w := w) hty h2, Sem.run_pure]
  case h_15 tp i =>
    split at h
    case h_2 => cases h
    rename_i l hx
    have e1 := hf tp (by simp [Op.operands]) _ hx
    simp only [SV.den] at e1
    have : (denL ρ l).toArray[i]? = some (v.den ρ) := by rw [List.getElem?_toArray, denL_getElem?, h]; rfl
    simp [e1, Instr.extract, this]
  case h_16 t parts =>
    split at h
    case h_2 => cases h
    rename_i qs hq
    have e1 := partsS_sound (ρ := ρ) (f := f) hq (fun x hx u hu => hf x (by simp only [Op.operands]; exact List.mem_toArray.2 hx) u hu)
    have e2 : (parts.map fun (p : Nat × Operand) => (p.1, f p.2)) = (qs.map fun p => (p.1, p.2.den ρ)).toArray := by rw [← e1, ← Array.toList_map, Array.toArray_toList]
    simp only [e2, Sem.run_bind, rdBuild_sound (ρ := ρ) (w := w) hty h, Result.andThen_ok, Sem.run_pure]
  case h_17 x t =>
    split at h
    case h_2 => cases h
    rename_i u hx
    obtain ⟨h1, h2⟩ := whenB_some h
    obtain ⟨e, ht⟩ := sliceT_sound hty h1
    have e1 := hf x (by simp [Op.operands, Call.operands]) _ hx
    have := fun t' => rdLen_sound (P := P) (w := w) hs h2 ht t'
    simp [resolve, invoke, builtin, e1, this]
  case h_18 x t =>
    split at h
    case h_2 => cases h
    rename_i u hx
    obtain ⟨h1, h2⟩ := whenB_some h
    obtain ⟨e, ht⟩ := sliceT_sound hty h1
    have e1 := hf x (by simp [Op.operands, Call.operands]) _ hx
    have := fun t' => rdCap_sound (P := P) (w := w) hs h2 ht t'
    simp [resolve, invoke, builtin, e1, this]
  case h_19 => cases h
end
end Go.Vg
