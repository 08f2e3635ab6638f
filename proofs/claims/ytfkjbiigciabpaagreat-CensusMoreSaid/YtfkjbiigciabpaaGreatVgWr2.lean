/- The engine's writing operations: the model does what they say. Conditions: the table of types is the program's. -/
import Derived.Test.YtfkjbiigciabpaaGreatVgRd2
namespace Go.Vg

section
variable {U : Type} {I : Interp U} {ρ : Env U} {P : Program} {w : World} {F : Fr} {hp : Nat → PHeap}

/-- What an operation has come to: its value, if it has one, under an environment that goes on from the old one; the memory; the path. -/
structure Came (I : Interp U) (F : Fr) (ρ : Env U) (S : SS) (r : Option SV) (S' : SS) (nx : Next) (w' : World) (ρ' : Env U) : Prop where
  val : match r with | some v => nx = .value (v.den ρ') ∧ v.bd S'.next | none => nx = .skip
  agree : Env.Agree S.next ρ ρ'
  heap : ∃ hp', HSat I ρ' F S'.hp w' hp'
  keeps : Keeps (holds I ρ' S'.path) S S'
  bd : S'.Bd

/-- An environment with a name more. -/
def Env.withK (ρ : Env U) (n b : Nat) : Env U := { ρ with k := fun j => if j = n then b else ρ.k j }
theorem withK_agree (ρ : Env U) (n b : Nat) : Env.Agree n ρ (ρ.withK n b) :=
  ⟨fun _ _ => rfl, fun _ _ => rfl, fun j h => by simp [Env.withK, Nat.ne_of_lt h], fun _ _ => rfl, fun _ _ => rfl, fun _ _ => rfl⟩
theorem withK_same (ρ : Env U) (n b : Nat) : (ρ.withK n b).k n = b := by simp [Env.withK]

theorem came_new {S : SS} (hb : S.Bd) (hh : HSat I ρ F S.hp w hp) {e : Nat} {cs : List SV} (hc : bdL S.next cs) {v : SV} {x : Value}
    (hv : v.bd (S.next + 1)) (hx : x = v.den (ρ.withK S.next w.heap.size)) :
    Came I F ρ S (some v) (S.fresh (.cells e cs)) (.value x) { w with heap := w.heap.push (.cells (denL ρ cs).toArray e (0, 0)) } (ρ.withK S.next w.heap.size) := by
  have hag := withK_agree ρ S.next w.heap.size
  refine ⟨⟨by rw [hx], hv⟩, hag, ⟨_, hh.new hb.hp hag (d := .cells e cs) (o := .cells (denL ρ cs).toArray e (0, 0)) ?_⟩, fresh_keeps _ _, fresh_bd hb hc⟩
  simp only [CSat, withK_same, ← denL_congr hag cs hc]

theorem zeroS_sound {ty : Nat → Option TI} (hty : ∀ t i, ty t = some i → TyOk P t i) {t : Nat} {z : List SV} (h : zeroS ty t = some z) :
    ∃ v, (∀ w, (zeroValue t).run P w = .ok v w) ∧ v.cells = (denL ρ z).toArray := by
  unfold zeroS at h
  split at h
  case h_2 => cases h
  rename_i i hi
  split at h
  case h_2 => cases h
  rename_i v hv
  refine ⟨v, fun w => run_zeroValue (hty _ _ hi) w hv, ?_⟩
  have := cellsOf_sound (ρ := ρ) h
  rw [ofV_den] at this
  exact this

theorem repS_den (z : List SV) (k : Nat) : denL ρ (repS z k) = (List.replicate k (denL ρ z)).flatten := by
  induction k with
  | zero => simp [repS, denL]
  | succ k ih => simp [repS, denL_append, ih, List.replicate_succ]

theorem rep_getElem (z : List Value) (hz : z ≠ []) : ∀ (k i : Nat), i < k * z.length → (List.replicate k z).flatten[i]? = z[i % z.length]?
  | 0, i, h => by simp at h
  | k + 1, i, h => by
    have hl : 0 < z.length := List.length_pos_iff.2 hz
    rw [List.replicate_succ, List.flatten_cons]
    by_cases hi : i < z.length
    · rw [List.getElem?_append_left hi, Nat.mod_eq_of_lt hi]
    · rw [List.getElem?_append_right (by omega), rep_getElem z hz k (i - z.length) (by rw [Nat.add_mul] at h; omega)]
      congr 1
      rw [← Nat.mod_eq_sub_mod (by omega)]

theorem range_rep (z : List Value) (hz : z ≠ []) (k n : Nat) (hn : n = k * z.length) :
    (Array.range n).map (fun i => z.toArray[i % z.toArray.size]!) = (List.replicate k z).flatten.toArray := by
  have hl : 0 < z.length := List.length_pos_iff.2 hz
  apply Array.ext_getElem?
  intro i
  by_cases hi : i < n
  · have h1 := rep_getElem z hz k i (by omega)
    have h2 : i % z.length < z.length := Nat.mod_lt _ hl
    have h3 : (List.replicate k z).flatten.toArray[i]? = z[i % z.length]? := by rw [← h1]; simp
    rw [h3]
    simp [hi, h2]
  · rw [Array.getElem?_eq_none (by simp; omega), Array.getElem?_eq_none]
    simp only [List.size_toArray, List.length_flatten, List.map_replicate, List.sum_replicate_nat]
    omega

theorem repS_length (z : List SV) : ∀ k, (repS z k).length = k * z.length
  | 0 => by simp [repS]
  | k + 1 => by simp [repS, repS_length z k, Nat.add_mul]; omega

theorem wr1_sound {ty : Nat → Option TI} (hty : ∀ t i, ty t = some i → TyOk P t i) {S S' : SS} (hb : S.Bd) (hh : HSat I ρ F S.hp w hp) {o : Oper} {r : Option SV}
    (h : wr1 ty S o.op = some (r, S')) {f : Operand → Value} (hf : ∀ x ∈ o.op.operands, ∀ u, opnd S.tm x = some u → f x = u.den ρ) :
    ∃ nx w' ρ', (execOp f o).run P w = .ok nx w' ∧ Came I F ρ S r S' nx w' ρ' := by
  unfold execOp
  generalize o.op = op at *
  unfold wr1 at h
  have hp0 : (⟨S.next, 0, []⟩ : SA).bd (S.next + 1) := ⟨Nat.lt_succ_self _, fun p h => by cases h⟩
  have hp1 : ∀ b, (⟨S.next, 0, []⟩ : SA).den (ρ.withK S.next b) = ⟨b, 0, none⟩ := fun b => by simp [SA.den, dynDen, withK_same]
  split at h
  case h_1 elem =>
    split at h
    case h_2 => cases h
    rename_i z hz
    cases h
    obtain ⟨v, hv, hc⟩ := zeroS_sound (ρ := ρ) hty hz
    refine ⟨_, _, _, ?_, came_new hb hh (zeroS_bd hz) (v := .ptr ⟨S.next, 0, []⟩) (by simpa [SV.bd] using hp0) rfl⟩
    simp [Instr.alloc, hv, newVar, newRow, hc, SV.den, hp1]
  case h_2 elem x =>
    split at h
    case h_2 => cases h
    rename_i v hv
    split at h
    case h_2 => cases h
    rename_i cs hcs
    cases h
    have e1 := hf x (by simp [Op.operands]) _ hv
    refine ⟨_, _, _, ?_, came_new hb hh (cellsOf_bd hcs (opnd_bd hb.tm hv)) (v := .ptr ⟨S.next, 0, []⟩) (by simpa [SV.bd] using hp0) rfl⟩
    simp [Instr.box, e1, newVar, newRow, cellsOf_sound (ρ := ρ) hcs, SV.den, hp1]
  case h_3 t a x =>
    split at h
    case h_2 => cases h
    rename_i sa v i ha hv hi
    split at h
    case h_2 => cases h
    rename_i cs hcs
    obtain ⟨h1, h2⟩ := whenB_some h
    have hlen := Nat.eq_of_beq_eq_true h1
    split at h2
    case h_2 => cases h2
    rename_i H hH
    cases h2
    have e1 := hf a (by simp [Op.operands]) _ ha
    have e2 := hf x (by simp [Op.operands]) _ hv
    have hc := cellsOf_sound (ρ := ρ) hcs
    obtain ⟨w', hp', hr, hs', hB, hz⟩ := stCells_sound (P := P) hh hH
    refine ⟨.skip, w', ρ, ?_, ⟨rfl, Env.Agree.refl _ _, ⟨hp', hs'⟩, ⟨rfl, rfl, rfl, .inl rfl, Nat.le_refl _, rfl⟩, ⟨hb.tm, hB _ hb.hp (cellsOf_bd hcs (opnd_bd hb.tm hv)), hb.path, hb.df, hb.ro⟩⟩⟩
    simp only [SV.den] at e1
    simp only [e1, e2, Instr.storeAt, Instr.sureAddr, Sem.run_bind, Sem.run_pure, Result.andThen_ok, storeVar, run_sizeOf (hty _ _ hi), hc]
    simp [denL_length, hlen, hr]
  case h_4 t len parts =>
    split at h
    case h_2 => cases h
    rename_i i ps hi hps
    split at h
    case h_2 => cases h
    rename_i elem hund
    split at h
    case h_2 => cases h
    rename_i ei z hei hz
    obtain ⟨h1, h2⟩ := whenB_some h
    simp only [Bool.and_eq_true] at h1
    have hlen := Nat.eq_of_beq_eq_true h1.1
    have hle := Nat.le_of_ble_eq_true h1.2
    split at h2
    case h_2 => cases h2
    rename_i cs hcs
    cases h2
    obtain ⟨v, hv, hc⟩ := zeroS_sound (ρ := ρ) hty hz
    have e1 := partsS_sound (ρ := ρ) (f := f) hps (fun x hx u hu => hf x (by simp only [Op.operands]; exact List.mem_toArray.2 hx) u hu)
    have e2 : (parts.map fun (p : Nat × Operand) => (p.1, f p.2)).toList = (ps.map fun p => (p.1, p.2.den ρ)) := by rw [← e1]; simp
    have h3 := fill_sound (ρ := ρ) hcs
    have hn1 : ¬ len * ei.size > 2 ^ 24 := by omega
    refine ⟨_, _, _, ?_, came_new hb hh (fillS_bd hcs (repS_bd (zeroS_bd hz) _) (partsS_bd hb.tm hps)) (v := .slice ⟨S.next, 0, []⟩ (.lit (.ofNat len)) (.lit (.ofNat len))) (by simp only [SV.bd]; exact ⟨hp0, trivial, trivial⟩) rfl⟩
    by_cases hn0 : len * ei.size = 0
    · have h4 : (denL ρ (repS z len)).toArray = #[] := by
        have : (denL ρ (repS z len)).length = 0 := by rw [denL_length, repS_length, hlen, hn0]
        rw [List.eq_nil_of_length_eq_zero this]
      rw [h4] at h3
      simp only [Instr.buildSlice, Sem.run_bind, run_underlying' (hty _ _ hi), Result.andThen_ok, hund, run_sizeOf (hty _ _ hei), if_neg hn1, Sem.run_pure, if_pos hn0, e2]
      rw [hn0]
      have hr0 : ∀ g : Nat → Value, (Array.range 0).map g = #[] := fun g => by apply Array.ext_getElem?; intro i; simp
      simp only [hr0, h3]
      simp [newRow, SV.den, hp1, IE.den]
    · have hzne : denL ρ z ≠ [] := fun e => by
        have := congrArg List.length e
        simp only [denL_length, List.length_nil] at this
        rw [this] at hlen; rw [← hlen] at hn0; simp at hn0
      rw [repS_den] at h3
      have h4 := range_rep (denL ρ z) hzne len (len * ei.size) (by rw [denL_length, hlen])
      simp only [Instr.buildSlice, Sem.run_bind, run_underlying' (hty _ _ hi), Result.andThen_ok, hund, run_sizeOf (hty _ _ hei), if_neg hn1, Sem.run_pure, if_neg hn0, hv, hc, h4, e2, h3]
      simp [newRow, SV.den, hp1, IE.den]
  case h_5 t l c =>
    split at h
    case h_2 => cases h
    rename_i i k n k' m hi hl hc'
    split at h
    case h_2 => cases h
    rename_i elem hund
    split at h
    case h_2 => cases h
    rename_i ei z hei hz
    obtain ⟨h1, h2⟩ := whenB_some h
    simp only [Bool.and_eq_true] at h1
    have hlen := Nat.eq_of_beq_eq_true h1.1.1.1
    have hnm := Nat.le_of_ble_eq_true h1.1.1.2
    have hm := Nat.le_of_ble_eq_true h1.1.2
    have hby := Nat.le_of_ble_eq_true h1.2
    cases h2
    obtain ⟨v, hv, hc⟩ := zeroS_sound (ρ := ρ) hty hz
    have e1 := hf l (by simp [Op.operands]) _ hl
    have e2 := hf c (by simp [Op.operands]) _ hc'
    simp only [SV.den, IE.den] at e1 e2
    have wr : ∀ q : Nat, q ≤ 1000000 → IntKind.i64.wrap (q : Int) = q := fun q hq => by
      have h1 : low .i64 (q : Int) = q := by show q % mask .i64 = q; exact Nat.mod_eq_of_lt (by simp only [mask]; omega)
      have h2 : Nat.ble (half .i64) q = false := by
        cases h : Nat.ble (half .i64) q with
        | false => rfl
        | true => have := Nat.le_of_ble_eq_true h; simp only [half] at this; omega
      rw [← wrapF_eq]
      simp only [wrapF, h1, h2, Bool.and_false, cond_false]
      rfl
    obtain ⟨info, hti, _, hbytes, _⟩ := run_typeInfo (hty _ _ hei) w
    refine ⟨_, _, _, ?_, came_new hb hh (repS_bd (zeroS_bd hz) m) (v := .slice ⟨S.next, 0, []⟩ (.lit (.ofNat n)) (.lit (.ofNat m))) (by simp only [SV.bd]; exact ⟨hp0, trivial, trivial⟩) rfl⟩
    have hw1 := wr n (by omega)
    have hw2 := wr m hm
    have hmul : ei.bytes * m ≤ 1000000000000 := Nat.le_trans (Nat.mul_le_mul hby hm) (by decide)
    have hmul' : ((ei.bytes : Int) * (m : Int)) ≤ 1000000000000 := by rw [← Int.natCast_mul]; generalize ei.bytes * m = q at *; omega
    simp only [e1, e2, Instr.makeSlice, Sem.run_bind, run_underlying' (hty _ _ hi), Result.andThen_ok, hund, asInt, asIntOf, Sem.run_pure, hti, hbytes]
    simp only [Int.ofNat_eq_natCast, hw1, hw2]
    have c1 : (decide ((m : Int) < 0) || decide ((ei.bytes : Int) * (m : Int) > 2 ^ 48)) = false := by rw [Bool.or_eq_false_iff]; exact ⟨decide_eq_false (by omega), decide_eq_false (by omega)⟩
    have c2 : decide ((n : Int) < 0) = false := decide_eq_false (by omega)
    have c3 : decide ((n : Int) > (m : Int)) = false := decide_eq_false (by omega)
    simp only [c1, c2, c3, Bool.or_self, Bool.false_eq_true, if_false]
    by_cases hn0 : m * ei.size = 0
    · have h4 : (denL ρ (repS z m)).toArray = #[] := by
        have : (denL ρ (repS z m)).length = 0 := by rw [denL_length, repS_length, hlen, hn0]
        rw [List.eq_nil_of_length_eq_zero this]
      simp only [Sem.run_bind, run_askRoom, Result.andThen_ok, run_sizeOf (hty _ _ hei), Int.toNat_natCast, if_pos hn0, Sem.run_pure]
      rw [hn0, h4]
      have hr0 : ∀ g : Nat → Value, (Array.range 0).map g = #[] := fun g => by apply Array.ext_getElem?; intro i; simp
      simp only [hr0]
      simp [newRow, SV.den, hp1, IE.den]
    · have hzne : denL ρ z ≠ [] := fun e => by
        have := congrArg List.length e
        simp only [denL_length, List.length_nil] at this
        rw [this] at hlen; rw [← hlen] at hn0; simp at hn0
      have h4 := range_rep (denL ρ z) hzne m (m * ei.size) (by rw [denL_length, hlen])
      rw [← repS_den] at h4
      simp only [Sem.run_bind, run_askRoom, Result.andThen_ok, run_sizeOf (hty _ _ hei), Int.toNat_natCast, if_neg hn0, hv, Sem.run_pure, hc, h4]
      simp only [newRow, Sem.run_bind, run_newObj, Result.andThen_ok, Sem.run_pure, SV.den, hp1, IE.den, Int.ofNat_eq_natCast, Int.toNat_natCast]
  case h_6 => cases h

/-- A new variable or row: what it comes to, in any world. -/
theorem wr1_alloc {ty : Nat → Option TI} (hty : ∀ t i, ty t = some i → TyOk P t i) {S S' : SS} {o : Oper} {v : SV} (hA : (match o.op with | .alloc _ | .makeSlice .. => true | _ => false) = true)
    (h : wr1 ty S o.op = some (some v, S')) {f : Operand → Value} (hf : ∀ x ∈ o.op.operands, ∀ u, opnd S.tm x = some u → f x = u.den ρ) :
    ∃ e cs, S' = S.fresh (.cells e cs) ∧ bdL S.next cs ∧ v.bd (S.next + 1) ∧ ∀ w : World, (execOp f o).run P w = .ok (.value (v.den (ρ.withK S.next w.heap.size))) { w with heap := w.heap.push (.cells (denL ρ cs).toArray e (0, 0)) } := by
  unfold execOp
  generalize o.op = op at *
  have hp0 : (⟨S.next, 0, []⟩ : SA).bd (S.next + 1) := ⟨Nat.lt_succ_self _, fun p h => by cases h⟩
  have hp1 : ∀ b, (⟨S.next, 0, []⟩ : SA).den (ρ.withK S.next b) = ⟨b, 0, none⟩ := fun b => by simp [SA.den, dynDen, withK_same]
  cases op <;> simp only [Bool.false_eq_true] at hA
  case alloc elem =>
    simp only [wr1] at h
    split at h
    case h_2 => cases h
    rename_i z hz
    cases h
    obtain ⟨v, hv, hc⟩ := zeroS_sound (ρ := ρ) hty hz
    refine ⟨elem, z, rfl, zeroS_bd hz, by simpa [SV.bd] using hp0, fun w => ?_⟩
    simp [Instr.alloc, hv, newVar, newRow, hc, SV.den, hp1]
  case makeSlice t l c =>
    simp only [wr1] at h
    split at h
    case h_2 => cases h
    rename_i i k n k' m hi hl hc'
    split at h
    case h_2 => cases h
    rename_i elem hund
    split at h
    case h_2 => cases h
    rename_i ei z hei hz
    obtain ⟨h1, h2⟩ := whenB_some h
    simp only [Bool.and_eq_true] at h1
    have hlen := Nat.eq_of_beq_eq_true h1.1.1.1
    have hnm := Nat.le_of_ble_eq_true h1.1.1.2
    have hm := Nat.le_of_ble_eq_true h1.1.2
    have hby := Nat.le_of_ble_eq_true h1.2
    cases h2
    obtain ⟨v, hv, hc⟩ := zeroS_sound (ρ := ρ) hty hz
    have e1 := hf l (by simp [Op.operands]) _ hl
    have e2 := hf c (by simp [Op.operands]) _ hc'
    simp only [SV.den, IE.den] at e1 e2
    have wr : ∀ q : Nat, q ≤ 1000000 → IntKind.i64.wrap (q : Int) = q := fun q hq => by
      have h1 : low .i64 (q : Int) = q := by show q % mask .i64 = q; exact Nat.mod_eq_of_lt (by simp only [mask]; omega)
      have h2 : Nat.ble (half .i64) q = false := by
        cases h : Nat.ble (half .i64) q with
        | false => rfl
        | true => have := Nat.le_of_ble_eq_true h; simp only [half] at this; omega
      rw [← wrapF_eq]
      simp only [wrapF, h1, h2, Bool.and_false, cond_false]
      rfl
    refine ⟨elem, repS z m, rfl, repS_bd (zeroS_bd hz) m, by simp only [SV.bd]; exact ⟨hp0, trivial, trivial⟩, fun w => ?_⟩
    obtain ⟨info, hti, _, hbytes, _⟩ := run_typeInfo (hty _ _ hei) w
    have hw1 := wr n (by omega)
    have hw2 := wr m hm
    have hmul : ei.bytes * m ≤ 1000000000000 := Nat.le_trans (Nat.mul_le_mul hby hm) (by decide)
    have hmul' : ((ei.bytes : Int) * (m : Int)) ≤ 1000000000000 := by rw [← Int.natCast_mul]; generalize ei.bytes * m = q at *; omega
    simp only [e1, e2, Instr.makeSlice, Sem.run_bind, run_underlying' (hty _ _ hi), Result.andThen_ok, hund, asInt, asIntOf, Sem.run_pure, hti, hbytes]
    simp only [Int.ofNat_eq_natCast, hw1, hw2]
    have c1 : (decide ((m : Int) < 0) || decide ((ei.bytes : Int) * (m : Int) > 2 ^ 48)) = false := by rw [Bool.or_eq_false_iff]; exact ⟨decide_eq_false (by omega), decide_eq_false (by omega)⟩
    have c2 : decide ((n : Int) < 0) = false := decide_eq_false (by omega)
    have c3 : decide ((n : Int) > (m : Int)) = false := decide_eq_false (by omega)
    simp only [c1, c2, c3, Bool.or_self, Bool.false_eq_true, if_false]
    by_cases hn0 : m * ei.size = 0
    · have h4 : (denL ρ (repS z m)).toArray = #[] := by
        have : (denL ρ (repS z m)).length = 0 := by rw [denL_length, repS_length, hlen, hn0]
        rw [List.eq_nil_of_length_eq_zero this]
      simp only [Sem.run_bind, run_askRoom, Result.andThen_ok, run_sizeOf (hty _ _ hei), Int.toNat_natCast, if_pos hn0, Sem.run_pure]
      rw [hn0, h4]
      have hr0 : ∀ g : Nat → Value, (Array.range 0).map g = #[] := fun g => by apply Array.ext_getElem?; intro i; simp
      simp only [hr0]
      simp [newRow, SV.den, hp1, IE.den]
    · have hzne : denL ρ z ≠ [] := fun e => by
        have := congrArg List.length e
        simp only [denL_length, List.length_nil] at this
        rw [this] at hlen; rw [← hlen] at hn0; simp at hn0
      have h4 := range_rep (denL ρ z) hzne m (m * ei.size) (by rw [denL_length, hlen])
      rw [← repS_den] at h4
      simp only [Sem.run_bind, run_askRoom, Result.andThen_ok, run_sizeOf (hty _ _ hei), Int.toNat_natCast, if_neg hn0, hv, Sem.run_pure, hc, h4]
      simp only [newRow, Sem.run_bind, run_newObj, Result.andThen_ok, Sem.run_pure, SV.den, hp1, IE.den, Int.ofNat_eq_natCast, Int.toNat_natCast]
end
end Go.Vg
