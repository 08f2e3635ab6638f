/- The engine's appending and copying: what they come to. Conditions: the table of types is the program's. -/
import Derived.Test.YtfkjbiigciabpaaGreatVgWr2
import Derived.Laws.Append
import Derived.Laws.AppendOwn
namespace Go.Vg

def elemOf (ty : Nat → Option TI) (t : Nat) : Option (Nat × TI × List SV) :=
  match ty t with
  | some i => match i.und with
    | .slice e => match ty e, zeroS ty e with
      | some ei, some z => whenB (Nat.beq z.length ei.size && Nat.blt 0 ei.size && Nat.ble ei.bytes 1000000) (some (e, ei, z))
      | _, _ => none
    | _ => none
  | none => none

/-- Elements behind those of a slice. -/
def appS (S : SS) (e : Nat) (ei : TI) (s : SV) (b : SA) (m : Nat) : Option (Option SV × SS) :=
  match ldCells S.path S.hp b (m * ei.size) with
  | some vs => match s with
    | .nils (.lit (.ofNat 0)) (.lit (.ofNat 0)) => whenB (Nat.blt 0 m && Nat.ble m 1000000) (some (some (.slice ⟨S.next, 0, []⟩ (.lit (.ofNat m)) (.var S.next)), S.fresh (.row e ei.size vs (.var S.next))))
    | .slice a (.lit (.ofNat n)) (.lit (.ofNat c)) => whenB (Nat.ble (n + m) 1000000) (cond (Nat.ble (n + m) c)
        (match stCells S.hp (a.add (n * ei.size)) vs with
          | some H => some (some (.slice a (.lit (.ofNat (n + m))) (.lit (.ofNat c))), { S with hp := H })
          | none => none)
        (match ldCells S.path S.hp a (n * ei.size) with
          | some us => some (some (.slice ⟨S.next, 0, []⟩ (.lit (.ofNat (n + m))) (.var S.next)), S.fresh (.row e ei.size (us ++ vs) (.var S.next)))
          | none => none))
    | .slice a (.lit (.ofNat n)) (.var c) => match S.hp.get a.blk, a.dyn with
      | some (.row e' size cs (.var c')), [] => whenB (Nat.beq e e' && Nat.beq size ei.size && Nat.beq c c' && Nat.beq a.off 0 && Nat.ble (n * ei.size) cs.length && Nat.ble (n + m) 1000000 && allOne vs)
          (some (some (.slice ⟨S.next, 0, []⟩ (.lit (.ofNat (n + m))) (.var S.next)), { S with hp := (S.hp.del a.blk).set S.next (.row e ei.size (cs.take (n * ei.size) ++ vs) (.var S.next)), next := S.next + 1 }))
      | _, _ => none
    | _ => none
  | none => none

def putM (q : Int) (v : SV) (clock : Nat) : List (Int × SV × Nat) → List (Int × SV × Nat) × Bool
  | [] => ([(q, v, clock)], true)
  | (n, u, b) :: es => cond (ieq q n) ((n, v, b) :: es, false) (match putM q v clock es with | (l, g) => ((n, u, b) :: l, g))
def delM (q : Int) : List (Int × SV × Nat) → List (Int × SV × Nat)
  | [] => []
  | (n, u, b) :: es => cond (ieq q n) es ((n, u, b) :: delM q es)

def wr2 (ty : Nat → Option TI) (S : SS) : Op → Option (Option SV × SS)
  | .call { callee := .builtin .append, args := ⟨[s, x]⟩, argTypes := ⟨[st, xt]⟩, .. } => match elemOf ty st, opnd S.tm s, opnd S.tm x with
    | some (e, ei, _), some sv, some xv => whenB (Nat.beq st xt) (match sv, xv with
      | .nils (.lit (.ofNat 0)) c, .nils (.lit (.ofNat 0)) _ | .nils (.lit (.ofNat 0)) c, .slice _ (.lit (.ofNat 0)) _ => some (some (.nils (.lit (.ofNat 0)) c), S)
      | .slice a (.lit (.ofNat 0)) c, .nils (.lit (.ofNat 0)) _ | .slice a (.lit (.ofNat 0)) c, .slice _ (.lit (.ofNat 0)) _ => some (some (.slice a (.lit (.ofNat 0)) c), S)
      | .slice a (.lit (.ofNat n)) (.lit (.ofNat c)), .nils (.lit (.ofNat 0)) _ | .slice a (.lit (.ofNat n)) (.lit (.ofNat c)), .slice _ (.lit (.ofNat 0)) _ => whenB (Nat.ble n c) (some (some (.slice a (.lit (.ofNat n)) (.lit (.ofNat c))), S))
      | .slice a (.lit (.ofNat n)) (.var c), .nils (.lit (.ofNat 0)) _ | .slice a (.lit (.ofNat n)) (.var c), .slice _ (.lit (.ofNat 0)) _ => match S.hp.get a.blk with
        | some (.row _ size cs (.var c')) => whenB (Nat.beq size ei.size && Nat.beq c c' && Nat.ble (n * ei.size) cs.length) (some (some (.slice a (.lit (.ofNat n)) (.var c)), S))
        | _ => none
      | s, .slice b (.lit (.ofNat m)) _ => appS S e ei s b m
      | _, _ => none)
    | _, _, _ => none
  | .call { callee := .builtin .copy, args := ⟨[d, x]⟩, argTypes := ⟨[dt, _]⟩, .. } => match elemOf ty dt, opnd S.tm d, opnd S.tm x with
    | some (_, ei, _), some dv, some xv => match dv, xv with
      | .slice a (.lit (.ofNat n)) _, .slice b (.lit (.ofNat m)) _ =>
        let k := cond (Nat.ble m n) m n
        match ldCells S.path S.hp b (k * ei.size) with
        | some vs => match stCells S.hp a vs with
          | some H => some (some (.int .i64 (.lit (.ofNat k))), { S with hp := H })
          | none => none
        | none => none
      | .nils (.lit (.ofNat 0)) _, .slice _ (.lit (.ofNat _)) _ | .slice _ (.lit (.ofNat _)) _, .nils (.lit (.ofNat 0)) _ | .nils (.lit (.ofNat 0)) _, .nils (.lit (.ofNat 0)) _ => some (some (.int .i64 (.lit (.ofNat 0))), S)
      | _, _ => none
    | _, _, _ => none
  | .call { callee := .builtin .clear, args := ⟨[x]⟩, argTypes := ⟨[t]⟩, .. } => match elemOf ty t, opnd S.tm x with
    | some (_, _, z), some (.slice a (.lit (.ofNat n)) _) => match stCells S.hp a (repS z n) with
      | some H => some (some (.tup []), { S with hp := H })
      | none => none
    | _, _ => none
  | .call { callee := .builtin .delete, args := ⟨[x, y]⟩, argTypes := ⟨[t, _]⟩, .. } => match mapOf ty t, opnd S.tm x, opnd S.tm y with
    | some (k, _), some (.map n), some (.int k1 (.lit q)) => match S.hp.get n with
      | some (.mp k2 es clock) => whenB (IntKind.beq k1 k && IntKind.beq k2 k) (some (some (.tup []), { S with hp := S.hp.set n (.mp k2 (delM q es) clock) }))
      | _ => none
    | _, _, _ => none
  | .makeMap t none => match mapOf ty t with
    | some (k, _) => some (some (.map S.next), S.fresh (.mp k [] 0))
    | none => none
  | .mapUpdate t x y z => match mapOf ty t, opnd S.tm x, opnd S.tm y, opnd S.tm z with
    | some (k, _), some (.map n), some (.int k1 (.lit q)), some v => match S.hp.get n with
      | some (.mp k2 es clock) => whenB (IntKind.beq k1 k && IntKind.beq k2 k) (match putM q v clock es with
        | (l, g) => some (none, { S with hp := S.hp.set n (.mp k2 l (cond g (clock + 1) clock)) }))
      | _ => none
    | _, _, _, _ => none
  | _ => none

def wr (ty : Nat → Option TI) (S : SS) (op : Op) : Option (Option SV × SS) := orE (wr1 ty S op) (wr2 ty S op)

section
variable {U : Type} {I : Interp U} {ρ ρ' : Env U} {P : Program} {w : World} {F : Fr} {hp : Nat → PHeap}

/-- An environment with a block and a number more. -/
def Env.withKI (ρ : Env U) (n b : Nat) (c : Int) : Env U := { ρ with k := fun j => if j = n then b else ρ.k j, i := fun j => if j = n then c else ρ.i j }
theorem withKI_agree (ρ : Env U) (n b : Nat) (c : Int) : Env.Agree n ρ (ρ.withKI n b c) :=
  ⟨fun j h => by simp [Env.withKI, Nat.ne_of_lt h], fun _ _ => rfl, fun j h => by simp [Env.withKI, Nat.ne_of_lt h], fun _ _ => rfl, fun _ _ => rfl, fun _ _ => rfl⟩
theorem withKI_k (ρ : Env U) (n b : Nat) (c : Int) : (ρ.withKI n b c).k n = b := by simp [Env.withKI]
theorem withKI_i (ρ : Env U) (n b : Nat) (c : Int) : (ρ.withKI n b c).i n = c := by simp [Env.withKI]

theorem elemOf_sound {ty : Nat → Option TI} (hty : ∀ t i, ty t = some i → TyOk P t i) {t e : Nat} {ei : TI} {z : List SV} (h : elemOf ty t = some (e, ei, z)) :
    P.underlying t = some (.slice e) ∧ z.length = ei.size ∧ 0 < ei.size ∧ ei.bytes ≤ 1000000 ∧ ∃ (i : TypeInfo) (zv : Value), P.info? e = some i ∧ i.size = ei.size ∧ i.bytes = ei.bytes ∧ i.zero = some zv ∧ zv.cells = (denL ρ z).toArray := by
  unfold elemOf at h
  split at h
  case h_2 => cases h
  rename_i i hi
  split at h
  case h_2 => cases h
  rename_i e' hund
  split at h
  case h_2 => cases h
  rename_i ei' z' hei hz
  obtain ⟨hc, h⟩ := whenB_some h
  cases h
  simp only [Bool.and_eq_true] at hc
  obtain ⟨_, _, _, _, _, hu, _⟩ := hty _ _ hi
  obtain ⟨info, h1, h2, h3, h4, _, _⟩ := hty _ _ hei
  have hz0 := hz
  unfold zeroS at hz0
  rw [hei] at hz0
  simp only at hz0
  split at hz0
  case h_2 => cases hz0
  rename_i zv hzv
  have hcz := cellsOf_sound (ρ := ρ) hz0
  rw [ofV_den] at hcz
  exact ⟨by rw [hu, hund], Nat.eq_of_beq_eq_true hc.1.1, by have := hc.1.2; simpa using this, Nat.le_of_ble_eq_true hc.2, info, zv, h1, h2, h3, by rw [h4, hzv], hcz⟩

theorem came_same {S : SS} (hb : S.Bd) (hh : HSat I ρ F S.hp w hp) {v : SV} {x : Value} (hv : v.bd S.next) (hx : x = v.den ρ) : Came I F ρ S (some v) S (.value x) w ρ :=
  ⟨⟨by rw [hx], hv⟩, Env.Agree.refl _ _, ⟨hp, hh⟩, ⟨rfl, rfl, rfl, .inl rfl, Nat.le_refl _, rfl⟩, hb⟩

theorem run_append_zero {t e ty : Nat} (hu : P.underlying t = some (.slice e)) {i : TypeInfo} (hi : P.info? e = some i) {base yb : Option Addr} {n c yc : Nat} (hn : n ≤ c) :
    (Builtin.append_ #[t, t] ty #[.slice base n c, .slice yb 0 yc]).run P w = .ok (.slice base n c) w := by
  cases base <;> cases yb <;> simp [Builtin.append_, run_underlying hu, sizeOf, typeInfo, hi, Builtin.lenOf, Builtin.firstCells, loadCells, loadCellsFrom, storeCells, hn]

theorem exec_append {f : Operand → Value} {o : Oper} {s x : Operand} {st xt : Nat} (hop : o.op = .call { callee := .builtin .append, args := ⟨[s, x]⟩, argTypes := ⟨[st, xt]⟩ }) {v : Value} {w' : World}
    (h : (Builtin.append_ #[st, xt] o.type #[f s, f x]).run P w = .ok v w') : (execOp f o).run P w = .ok (.value v) w' := by
  simp [execOp, hop, resolve, invoke, builtin, h]

theorem ld_cells {H : Tr Ch} (hs : HSat I ρ F H w hp) {ps : List PI} (hps : holds I ρ ps) {a : SA} {n : Nat} {vs : List SV} (h : ldCells ps H a n = some vs) : (denL ρ vs).length = n ∧ ∀ j v, (denL ρ vs)[j]? = some v → w.cell? ((a.den ρ).add j) = some v := by
  obtain ⟨h1, h2⟩ := ldCells_sound hs hps h
  refine ⟨by rw [denL_length, h1], fun j v hv => ?_⟩
  rw [denL_getElem?] at hv
  obtain ⟨u, hu, rfl⟩ := Option.map_eq_some_iff.1 hv
  exact h2 j u hu

theorem zero_size {zv : Value} {z : List SV} (hz : zv.cells = (denL ρ z).toArray) (k : Nat) : (Builtin.zeroCells zv.cells k).toList.length = k * z.length := by
  simp [Builtin.zeroCells, hz, denL_length]
theorem arr_app (l : List Value) (A : Array Value) : l.toArray ++ A = (l ++ A.toList).toArray := by
  apply Array.ext'; simp
theorem arr_app2 (l m : List Value) (A : Array Value) : l.toArray ++ m.toArray ++ A = (l ++ m ++ A.toList).toArray := by
  apply Array.ext'; simp

/-- A row that grew, by a new name. -/
theorem came_row {S : SS} (hb : S.Bd) {H : Tr Ch} (hH : HBd S.next H) (hh : HSat I ρ F H w hp) {e size n C : Nat} {cs : List SV} (hc : bdL S.next cs) {rest : List Value} (hl : cs.length + rest.length = C * size) :
    Came I F ρ S (some (.slice ⟨S.next, 0, []⟩ (.lit (.ofNat n)) (.var S.next))) { S with hp := H.set S.next (.row e size cs (.var S.next)), next := S.next + 1 }
      (.value (.slice (some ⟨w.heap.size, 0, none⟩) n C)) (w.drew.alloc (.cells (denL ρ cs ++ rest).toArray e (0, 0))) (ρ.withKI S.next w.heap.size (Int.ofNat C)) := by
  have hag := withKI_agree ρ S.next w.heap.size (Int.ofNat C)
  have hbb : (⟨S.next, 0, []⟩ : SA).bd (S.next + 1) := ⟨Nat.lt_succ_self _, fun p h => by cases h⟩
  refine ⟨⟨?_, ?_⟩, hag, ⟨_, (hh.drew (w.drawn + 1)).new (w := { w with drawn := w.drawn + 1 }) hH hag (d := .row e size cs (.var S.next)) (o := .cells (denL ρ cs ++ rest).toArray e (0, 0)) ⟨rest, ?_, ?_⟩⟩, ⟨rfl, rfl, rfl, .inl rfl, Nat.le_succ _, rfl⟩, ?_⟩
  · simp [SV.den, SA.den, dynDen, IE.den, withKI_k, withKI_i]
  · simp only [SV.bd]; exact ⟨hbb, trivial, Nat.lt_succ_self _⟩
  · simp only [IE.den, withKI_i]
    exact hl
  · rw [withKI_k, ← denL_congr hag cs hc]
  · exact ⟨hb.tm.mono (Nat.le_succ _), (hH.mono (Nat.le_succ _)).set (Nat.lt_succ_self _) ⟨bdL_mono (Nat.le_succ _) cs hc, Nat.lt_succ_self _⟩, fun p hp => PI.bd_mono (Nat.le_succ _) p (hb.path p hp), fun d hd => Nat.lt_succ_of_lt (hb.df d hd), fun d hd => Nat.lt_succ_of_lt (hb.ro d hd)⟩

/-- A chunk of one block, by a new name. -/
theorem HSat.rename {H : Tr Ch} (hs : HSat I ρ F H w hp) {n k b : Nat} {c d : Ch} {o : Obj} (hB : HBd n H) (hk : H.get k = some c) (h : hp k = single b o) (hag : Env.Agree n ρ ρ') (hd : CSat I ρ' n d (single b o)) :
    HSat I ρ' F ((H.del k).set n d) w (fun j => if j = n then single b o else hp j) := by
  have hown : hp k b = some o := by rw [h]; exact single_same b o
  have g : ∀ {m c}, (H.del k).get m = some c → m ≠ k ∧ H.get m = some c := fun {m c} h => by
    rw [Tr.get_del] at h; split at h
    · cases h
    · exact ⟨‹_›, h⟩
  refine ⟨fun m c' hc => ?_, fun m l c1 c2 j o1 o2 hnm h1 h2 p1 p2 => ?_, fun m c1 j o1 h1 p1 => ?_, fun m c1 j o1 h1 p1 => ?_, hs.frame, hs.grow, hs.os, hs.output, hs.tape⟩
  · rw [Tr.get_set] at hc
    by_cases e : m = n
    · subst e; simp only [if_true] at hc ⊢; cases hc; exact hd
    · simp only [e, if_false] at hc ⊢
      obtain ⟨_, hc⟩ := g hc
      exact CSat.congr hag (hB m c' hc).1 (hB m c' hc).2 (hs.sat m c' hc)
  · rw [Tr.get_set] at h1 h2
    by_cases e : m = n
    · have e2 : ¬ l = n := fun x => hnm (e.trans x.symm)
      simp only [e, if_true] at p1
      simp only [e2, if_false] at h2 p2
      obtain ⟨rfl, rfl⟩ := single_some p1
      obtain ⟨hlk, h2⟩ := g h2
      exact hs.disj l k c2 c _ o2 _ hlk h2 hk p2 hown
    · simp only [e, if_false] at h1 p1
      obtain ⟨hmk, h1⟩ := g h1
      by_cases e2 : l = n
      · simp only [e2, if_true] at p2
        obtain ⟨rfl, rfl⟩ := single_some p2
        exact hs.disj m k c1 c _ o1 _ hmk h1 hk p1 hown
      · simp only [e2, if_false] at h2 p2
        exact hs.disj m l c1 c2 j o1 o2 hnm h1 (g h2).2 p1 p2
  · rw [Tr.get_set] at h1
    by_cases e : m = n
    · simp only [e, if_true] at p1
      obtain ⟨rfl, rfl⟩ := single_some p1
      exact hs.inw k c _ _ hk hown
    · simp only [e, if_false] at h1 p1
      exact hs.inw m c1 j o1 (g h1).2 p1
  · rw [Tr.get_set] at h1
    by_cases e : m = n
    · simp only [e, if_true] at p1
      obtain ⟨rfl, rfl⟩ := single_some p1
      exact hs.off k c _ _ hk hown
    · simp only [e, if_false] at h1 p1
      exact hs.off m c1 j o1 (g h1).2 p1

/-- It is only what is got by a name that counts. -/
theorem HSat.sameGet {H H' : Tr Ch} (hs : HSat I ρ F H w hp) (h : ∀ j, H'.get j = H.get j) : HSat I ρ F H' w hp :=
  ⟨fun n c hc => hs.sat n c (by rw [← h]; exact hc), fun n m c d b o o' hn h1 h2 => hs.disj n m c d b o o' hn (by rw [← h]; exact h1) (by rw [← h]; exact h2), fun n c b o h1 => hs.inw n c b o (by rw [← h]; exact h1), fun n c b o h1 => hs.off n c b o (by rw [← h]; exact h1),
    hs.frame, hs.grow, hs.os, hs.output, hs.tape⟩

theorem HBd.del {n : Nat} {H : Tr Ch} (h : HBd n H) (k : Nat) : HBd n (H.del k) := by
  intro m d hd
  rw [Tr.get_del] at hd
  split at hd
  · cases hd
  · exact h m d hd

theorem run_append_in {t e ty : Nat} (hu : P.underlying t = some (.slice e)) {i : TypeInfo} (hi : P.info? e = some i) {a b : Addr} {n c m yc : Nat} (hn : n + m ≤ c) {vs : List Value} (hl : vs.length = m * i.size)
    (hv : ∀ j v, vs[j]? = some v → w.cell? (b.add j) = some v) {w' : World} (hst : (storeCells (a.add (n * i.size)) vs).run P w = .ok () w') :
    (Builtin.append_ #[t, t] ty #[.slice (some a) n c, .slice (some b) m yc]).run P w = .ok (.slice (some a) (n + m) c) w' := by
  have hf := run_firstCells_some (P := P) w i.size m b m yc vs hl hv
  simp [Builtin.append_, run_underlying hu, sizeOf, typeInfo, hi, Builtin.lenOf, hn, hf, hst]

theorem appS_sound {ty : Nat → Option TI} (hty : ∀ t i, ty t = some i → TyOk P t i) {S S' : SS} (hb : S.Bd) (hps : holds I ρ S.path) (hh : HSat I ρ F S.hp w hp) {t oty e m : Nat} {ei : TI} {z : List SV} (he : elemOf ty t = some (e, ei, z))
    {s : SV} (hsb : s.bd S.next) {b : SA} (hbb : b.bd S.next) {r : Option SV} (h : appS S e ei s b m = some (r, S')) (yc : Nat) :
    ∃ x w' ρ', (Builtin.append_ #[t, t] oty #[s.den ρ, .slice (some (b.den ρ)) m yc]).run P w = .ok x w' ∧ Came I F ρ S r S' (.value x) w' ρ' := by
  obtain ⟨hu, hzl, hpos, hby, i, zv, hi, hsz, hbt, hz, hzc⟩ := elemOf_sound (ρ := ρ) hty he
  unfold appS at h
  split at h
  case h_2 => cases h
  rename_i vs hvs
  obtain ⟨hvl, hvc⟩ := ld_cells hh hps hvs
  have hvb : bdL S.next vs := ldCells_bd hb.hp hvs hbb
  have hvl' : (denL ρ vs).length = m * i.size := by rw [hvl, hsz]
  have hvn : vs.length = m * ei.size := by rw [← denL_length ρ vs]; exact hvl
  split at h
  · -- a slice that is nil
    obtain ⟨hc, h⟩ := whenB_some h
    cases h
    rw [Bool.and_eq_true] at hc
    have h0 : 0 < m := by have := hc.1; simpa using this
    have h1 := Nat.le_of_ble_eq_true hc.2
    have h48 : m * i.bytes ≤ 281474976710656 := by
      have : m * i.bytes ≤ 1000000 * 1000000 := Nat.mul_le_mul h1 (by rw [hbt]; exact hby)
      omega
    have hr := run_append_nil (P := P) w t oty e i zv hu hi hz (b.den ρ) m yc (denL ρ vs) hvl' hvc h0 (by omega) h48
    rw [arr_app] at hr
    have hge := grownCap_ge w m 0 e
    have := came_row (I := I) (F := F) (ρ := ρ) (w := w) hb hb.hp hh (e := e) (size := ei.size) (n := m) (C := grownCap w m 0 e) (cs := vs) hvb (rest := (Builtin.zeroCells zv.cells (grownCap w m 0 e - m)).toList) (by
      rw [zero_size hzc, hzl, hvn, ← Nat.add_mul]
      congr 1; omega)
    exact ⟨_, _, _, hr, this⟩
  · -- a capacity that is known
    rename_i a n c
    obtain ⟨hc, h⟩ := whenB_some h
    have h1 := Nat.le_of_ble_eq_true hc
    simp only [SV.bd] at hsb
    have hd : (SV.slice a (.lit (.ofNat n)) (.lit (.ofNat c))).den ρ = .slice (some (a.den ρ)) n c := rfl
    rw [hd]
    cases hroom : Nat.ble (n + m) c with
    | true =>
      rw [hroom] at h
      simp only [cond_true] at h
      split at h
      case h_2 => cases h
      rename_i H hH
      cases h
      obtain ⟨w', hp', hr, hs', hB, hz'⟩ := stCells_sound (P := P) hh hH
      rw [SA.add_den, ← hsz] at hr
      refine ⟨_, _, ρ, run_append_in hu hi (Nat.le_of_ble_eq_true hroom) hvl' hvc hr, ⟨⟨rfl, ?_⟩, Env.Agree.refl _ _, ⟨hp', hs'⟩, ⟨rfl, rfl, rfl, .inl rfl, Nat.le_refl _, rfl⟩, ⟨hb.tm, hB _ hb.hp hvb, hb.path, hb.df, hb.ro⟩⟩⟩
      simp only [SV.bd]; exact ⟨hsb.1, trivial, trivial⟩
    | false =>
      rw [hroom] at h
      simp only [cond_false] at h
      split at h
      case h_2 => cases h
      rename_i us hus
      cases h
      have hlt : c < n + m := by
        rcases Nat.lt_or_ge c (n + m) with q | q
        · exact q
        · have := Nat.ble_eq_true_of_le q
          rw [hroom] at this; cases this
      obtain ⟨hul, huc⟩ := ld_cells hh hps hus
      have hub : bdL S.next us := ldCells_bd hb.hp hus hsb.1
      have hun : us.length = n * ei.size := by rw [← denL_length ρ us]; exact hul
      have hbytes : (n + m) * i.bytes ≤ 140737488355328 := by
        have : (n + m) * i.bytes ≤ 1000000 * 1000000 := Nat.mul_le_mul h1 (by rw [hbt]; exact hby)
        omega
      have hr := run_append_grow (P := P) w t oty e i zv hu hi hz (a.den ρ) n c (denL ρ us) (by rw [hul, hsz]) huc (b.den ρ) m yc (denL ρ vs) hvl' hvc hlt (by omega) (growslice_fits hlt hbytes)
      rw [arr_app2] at hr
      have hge := grownCap_ge w (n + m) c e
      have := came_row (I := I) (F := F) (ρ := ρ) (w := w) hb hb.hp hh (e := e) (size := ei.size) (n := n + m) (C := grownCap w (n + m) c e) (cs := us ++ vs) (bdL_append hub hvb) (rest := (Builtin.zeroCells zv.cells (grownCap w (n + m) c e - (n + m))).toList) (by
        rw [zero_size hzc, hzl, List.length_append, hun, hvn, ← Nat.add_mul, ← Nat.add_mul]
        congr 1; omega)
      rw [denL_append] at this
      exact ⟨_, _, _, hr, this⟩
  · -- a capacity that is not known: the old name is let go
    rename_i a n c
    split at h
    case h_2 => cases h
    rename_i e' size cs c' hk hdyn
    obtain ⟨hc, h⟩ := whenB_some h
    cases h
    simp only [Bool.and_eq_true, allOne_iff] at hc
    obtain ⟨⟨⟨⟨⟨⟨q1, q2⟩, q3⟩, q4⟩, q5⟩, q6⟩, q7⟩ := hc
    have e1 := Nat.eq_of_beq_eq_true q1
    have e2 := Nat.eq_of_beq_eq_true q2
    have e3 := Nat.eq_of_beq_eq_true q3
    have e4 := Nat.eq_of_beq_eq_true q4
    have h5 := Nat.le_of_ble_eq_true q5
    have h6 := Nat.le_of_ble_eq_true q6
    subst e1 e2 e3
    simp only [SV.bd] at hsb
    have ha : a.den ρ = ⟨ρ.k a.blk, 0, none⟩ := by simp [SA.den, hdyn, dynDen, e4]
    have hd : (SV.slice a (.lit (.ofNat n)) (.var c)).den ρ = .slice (some (a.den ρ)) n (ρ.i c).toNat := rfl
    rw [hd]
    obtain ⟨rest, hcap, hsat⟩ := hh.sat _ _ hk
    simp only [IE.den] at hcap
    have hblk := hh.block hk hsat
    have hkb := hb.hp _ _ hk
    have hcsb : bdL S.next cs := hkb.2.1
    have htb : bdL S.next (cs.take (n * ei.size)) := by
      rw [bdL_iff] at hcsb ⊢
      exact fun x hx => hcsb x (List.mem_of_mem_take hx)
    have hone : ∀ v ∈ denL ρ vs, v.oneCell' = true := fun v hv => by
      rw [denL_eq] at hv
      obtain ⟨u, hu', rfl⟩ := List.mem_map.1 hv
      exact SV.one_den ρ (q7 u hu')
    have htl : (cs.take (n * ei.size)).length = n * ei.size := by rw [List.length_take]; omega
    by_cases hroom : n + m ≤ (ρ.i c).toNat
    · -- there is room
      have hmul : n * ei.size + m * ei.size ≤ (ρ.i c).toNat * ei.size := by rw [← Nat.add_mul]; exact Nat.mul_le_mul_right _ hroom
      obtain ⟨w', hr, hbut, hw'⟩ := run_storeCells (P := P) (denL ρ vs) w (ρ.k a.blk) (n * ei.size) 0 (denL ρ cs ++ rest) e hblk (by simp only [List.length_append, denL_length, hvn]; omega) hone
      rw [Nat.add_zero] at hw'
      have hlt : n * ei.size ≤ (denL ρ cs).length := by rw [denL_length]; exact h5
      have hcells : (denL ρ cs ++ rest).take (n * ei.size) ++ denL ρ vs ++ (denL ρ cs ++ rest).drop (n * ei.size + (denL ρ vs).length) = denL ρ (cs.take (n * ei.size) ++ vs) ++ (denL ρ cs ++ rest).drop (n * ei.size + m * ei.size) := by
        rw [List.take_append_of_le_length hlt, denL_append, hvl]
        simp [denL_eq, List.map_take]
      rw [hcells] at hw'
      have hlen : (cs.take (n * ei.size) ++ vs).length + ((denL ρ cs ++ rest).drop (n * ei.size + m * ei.size)).length = (ρ.i c).toNat * ei.size := by
        simp only [List.length_append, List.length_drop, denL_length, htl, hvn]
        omega
      have hturn := hh.turn hk hsat (d := .row e ei.size (cs.take (n * ei.size) ++ vs) (.var c)) (o' := .cells (denL ρ (cs.take (n * ei.size) ++ vs) ++ (denL ρ cs ++ rest).drop (n * ei.size + m * ei.size)).toArray e (0, 0)) ⟨_, hlen, rfl⟩ hbut.other hw' hbut.size hbut.os hbut.output hbut.tape
      have hag := withKI_agree ρ S.next (ρ.k a.blk) (ρ.i c)
      have hB2 : HBd S.next (S.hp.set a.blk (.row e ei.size (cs.take (n * ei.size) ++ vs) (.var c))) := hb.hp.set hkb.1 ⟨bdL_append htb hvb, hkb.2.2⟩
      have hren := hturn.rename (ρ' := ρ.withKI S.next (ρ.k a.blk) (ρ.i c)) hB2 (k := a.blk) (b := ρ.k a.blk) (c := .row e ei.size (cs.take (n * ei.size) ++ vs) (.var c)) (by rw [Tr.get_set, if_pos rfl]) (o := .cells (denL ρ (cs.take (n * ei.size) ++ vs) ++ (denL ρ cs ++ rest).drop (n * ei.size + m * ei.size)).toArray e (0, 0)) (if_pos rfl) hag (d := .row e ei.size (cs.take (n * ei.size) ++ vs) (.var S.next))
        ⟨_, by simp only [IE.den, withKI_i]; exact hlen, by rw [withKI_k, ← denL_congr hag _ (bdL_append htb hvb)]⟩
      have hst : (storeCells ((a.den ρ).add (n * i.size)) (denL ρ vs)).run P w = .ok () w' := by
        rw [ha, hsz]
        have : (⟨ρ.k a.blk, 0, none⟩ : Addr).add (n * ei.size) = ⟨ρ.k a.blk, n * ei.size, none⟩ := by
          unfold Addr.add; split
          · rename_i h0; rw [h0]
          · rw [Nat.zero_add]
        rw [this]; exact hr
      refine ⟨_, _, _, run_append_in hu hi hroom hvl' hvc hst, ⟨⟨?_, ?_⟩, hag, ⟨_, hren.sameGet ?_⟩, ⟨rfl, rfl, rfl, .inl rfl, Nat.le_succ _, rfl⟩, ?_⟩⟩
      · rw [ha]; simp [SV.den, SA.den, dynDen, IE.den, withKI_k, withKI_i]; omega
      · simp only [SV.bd]; exact ⟨⟨Nat.lt_succ_self _, fun p h => by cases h⟩, trivial, Nat.lt_succ_self _⟩
      · intro j
        simp only [Tr.get_set, Tr.get_del]
        split
        · rfl
        · split <;> simp_all
      · exact ⟨hb.tm.mono (Nat.le_succ _), ((hb.hp.del _).mono (Nat.le_succ _)).set (Nat.lt_succ_self _) ⟨bdL_mono (Nat.le_succ _) _ (bdL_append htb hvb), Nat.lt_succ_self _⟩, fun p hp => PI.bd_mono (Nat.le_succ _) p (hb.path p hp), fun d hd => Nat.lt_succ_of_lt (hb.df d hd), fun d hd => Nat.lt_succ_of_lt (hb.ro d hd)⟩
    · -- there is none
      have hlt : (ρ.i c).toNat < n + m := by omega
      have hbytes : (n + m) * i.bytes ≤ 140737488355328 := by
        have : (n + m) * i.bytes ≤ 1000000 * 1000000 := Nat.mul_le_mul h6 (by rw [hbt]; exact hby)
        omega
      have hld : ldCells S.path S.hp a (n * ei.size) = some (cs.take (n * ei.size)) := by
        have hble : Nat.ble (0 + n * ei.size) cs.length = true := by rw [Nat.zero_add]; exact q5
        unfold ldCells ldKnown
        rw [hdyn, hk]
        simp only [Ch.known, e4, hble, cond_true, List.drop_zero]
      obtain ⟨hul, huc⟩ := ld_cells hh hps hld
      have hr := run_append_grow (P := P) w t oty e i zv hu hi hz (a.den ρ) n (ρ.i c).toNat (denL ρ (cs.take (n * ei.size))) (by rw [hul, hsz]) huc (b.den ρ) m yc (denL ρ vs) hvl' hvc hlt (by omega) (growslice_fits hlt hbytes)
      rw [arr_app2] at hr
      have hge := grownCap_ge w (n + m) (ρ.i c).toNat e
      have := came_row (I := I) (F := F) (ρ := ρ) (w := w) hb (hb.hp.del a.blk) (hh.del a.blk) (e := e) (size := ei.size) (n := n + m) (C := grownCap w (n + m) (ρ.i c).toNat e) (cs := cs.take (n * ei.size) ++ vs) (bdL_append htb hvb)
        (rest := (Builtin.zeroCells zv.cells (grownCap w (n + m) (ρ.i c).toNat e - (n + m))).toList) (by
        rw [zero_size hzc, hzl, List.length_append, htl, hvn, ← Nat.add_mul, ← Nat.add_mul]
        congr 1; omega)
      rw [denL_append] at this
      exact ⟨_, _, _, hr, this⟩
  · cases h


theorem putM_sound (k : IntKind) (q : Int) (v : SV) (clock : Nat) : ∀ (es : List (Int × SV × Nat)) (i : Nat),
    (findM es q i = none → (putM q v clock es).2 = true ∧ denM ρ k (putM q v clock es).1 = denM ρ k es ++ [{ key := .int k q, val := v.den ρ, born := clock }]) ∧
    (∀ j u, findM es q i = some (j, u) → i ≤ j ∧ (putM q v clock es).2 = false ∧ denM ρ k (putM q v clock es).1 = (denM ρ k es).modify (j - i) (fun e => { e with key := .int k q, val := v.den ρ }))
  | [], i => ⟨fun _ => ⟨rfl, rfl⟩, fun j u h => by cases h⟩
  | (n, u, b) :: es, i => by
    simp only [findM, putM]
    cases hq : ieq q n with
    | true =>
      have hqn : q = n := by rw [ieq_eq] at hq; exact of_decide_eq_true hq
      refine ⟨fun h => (by cases h), fun j u' h => ?_⟩
      simp only [cond_true, Option.some.injEq, Prod.mk.injEq] at h
      obtain ⟨rfl, rfl⟩ := h
      refine ⟨Nat.le_refl _, rfl, ?_⟩
      simp [denM, hqn]
    | false =>
      obtain ⟨h1, h2⟩ := putM_sound k q v clock es (i + 1)
      simp only [cond_false]
      refine ⟨fun h => ?_, fun j u' h => ?_⟩
      · obtain ⟨q1, q2⟩ := h1 h
        exact ⟨q1, by simp [denM, q2]⟩
      · obtain ⟨q0, q1, q2⟩ := h2 j u' h
        refine ⟨by omega, q1, ?_⟩
        have : j - i = (j - (i + 1)) + 1 := by omega
        rw [this]
        simp [denM, q2]
theorem findM_get (k : IntKind) (q : Int) : ∀ (es : List (Int × SV × Nat)) (i j : Nat) (u : SV), findM es q i = some (j, u) → i ≤ j ∧ ∃ b, (denM ρ k es)[j - i]? = some { key := .int k q, val := u.den ρ, born := b }
  | (n, v, b) :: es, i, j, u, h => by
    simp only [findM] at h
    cases hq : ieq q n with
    | true =>
      have hqn : q = n := by rw [ieq_eq] at hq; exact of_decide_eq_true hq
      rw [hq] at h
      simp only [cond_true, Option.some.injEq, Prod.mk.injEq] at h
      obtain ⟨rfl, rfl⟩ := h
      exact ⟨Nat.le_refl _, b, by simp [denM, hqn]⟩
    | false =>
      rw [hq] at h
      obtain ⟨h1, b', h2⟩ := findM_get k q es (i + 1) j u h
      refine ⟨by omega, b', ?_⟩
      have : j - i = (j - (i + 1)) + 1 := by omega
      rw [this]
      simpa [denM] using h2
theorem putM_bd {n : Nat} {q : Int} {v : SV} {clock : Nat} (hv : v.bd n) : ∀ {es : List (Int × SV × Nat)}, bdM n es → bdM n (putM q v clock es).1
  | [], _ => ⟨hv, trivial⟩
  | (k, u, b) :: es, h => by
    simp only [putM]
    cases ieq q k with
    | true => exact ⟨hv, h.2⟩
    | false => exact ⟨h.1, putM_bd hv h.2⟩
theorem delM_sound (k : IntKind) (q : Int) : ∀ (es : List (Int × SV × Nat)) (i : Nat),
    (findM es q i = none → denM ρ k (delM q es) = denM ρ k es) ∧ (∀ j u, findM es q i = some (j, u) → i ≤ j ∧ j - i < (denM ρ k es).length ∧ denM ρ k (delM q es) = (denM ρ k es).eraseIdx (j - i))
  | [], i => ⟨fun _ => rfl, fun j u h => by cases h⟩
  | (n, u, b) :: es, i => by
    simp only [findM, delM]
    cases hq : ieq q n with
    | true =>
      refine ⟨fun h => (by cases h), fun j u' h => ?_⟩
      simp only [cond_true, Option.some.injEq, Prod.mk.injEq] at h
      obtain ⟨rfl, rfl⟩ := h
      refine ⟨Nat.le_refl _, by simp [denM], ?_⟩
      simp [denM]
    | false =>
      obtain ⟨h1, h2⟩ := delM_sound k q es (i + 1)
      simp only [cond_false]
      refine ⟨fun h => by simp [denM, h1 h], fun j u' h => ?_⟩
      obtain ⟨q0, q1, q2⟩ := h2 j u' h
      have : j - i = (j - (i + 1)) + 1 := by omega
      rw [this]
      refine ⟨by omega, by simp [denM]; omega, by simp [denM, q2]⟩
theorem delM_bd {n : Nat} {q : Int} : ∀ {es : List (Int × SV × Nat)}, bdM n es → bdM n (delM q es)
  | [], _ => trivial
  | (k, u, b) :: es, h => by
    simp only [delM]
    cases ieq q k with
    | true => exact h.2
    | false => exact ⟨h.1, delM_bd h.2⟩

/-- A chunk that is a map turned into another one. -/
theorem came_map {S : SS} (hb : S.Bd) (hh : HSat I ρ F S.hp w hp) {n : Nat} {k : IntKind} {es es' : List (Int × SV × Nat)} {clock clock' : Nat} (hk : S.hp.get n = some (.mp k es clock)) (hbd : bdM S.next es') {r : Option SV} {nx : Next}
    (hr : match r with | some v => nx = .value (v.den ρ) ∧ v.bd S.next | none => nx = .skip) :
    Came I F ρ S r { S with hp := S.hp.set n (.mp k es' clock') } nx { w with heap := w.heap.setIfInBounds (ρ.k n) (.map (denM ρ k es').toArray clock') } ρ := by
  have hblk := hh.block hk (hh.sat _ _ hk)
  obtain ⟨h1, h2⟩ := MapKept.heap_set (o' := .map (denM ρ k es').toArray clock') hblk
  refine ⟨hr, Env.Agree.refl _ _, ⟨_, hh.turn hk (hh.sat _ _ hk) (d := .mp k es' clock') (o' := .map (denM ρ k es').toArray clock') rfl h2 h1 (by simp) rfl rfl rfl⟩, ⟨rfl, rfl, rfl, .inl rfl, Nat.le_refl _, rfl⟩, ⟨hb.tm, hb.hp.set (hb.hp _ _ hk).1 hbd, hb.path, hb.df, hb.ro⟩⟩

theorem exec_copy {f : Operand → Value} {o : Oper} {s x : Operand} {st xt : Nat} (hop : o.op = .call { callee := .builtin .copy, args := ⟨[s, x]⟩, argTypes := ⟨[st, xt]⟩ }) {v : Value} {w' : World}
    (h : (Builtin.copy_ #[st, xt] o.type #[f s, f x]).run P w = .ok v w') : (execOp f o).run P w = .ok (.value v) w' := by
  simp [execOp, hop, resolve, invoke, builtin, h]
theorem exec_delete {f : Operand → Value} {o : Oper} {s x : Operand} {st xt : Nat} (hop : o.op = .call { callee := .builtin .delete, args := ⟨[s, x]⟩, argTypes := ⟨[st, xt]⟩ }) {v : Value} {w' : World}
    (h : (Builtin.delete_ #[st, xt] o.type #[f s, f x]).run P w = .ok v w') : (execOp f o).run P w = .ok (.value v) w' := by
  simp [execOp, hop, resolve, invoke, builtin, h]
theorem exec_clear {f : Operand → Value} {o : Oper} {x : Operand} {t : Nat} (hop : o.op = .call { callee := .builtin .clear, args := ⟨[x]⟩, argTypes := ⟨[t]⟩ }) {v : Value} {w' : World}
    (h : (Builtin.clear_ #[t] o.type #[f x]).run P w = .ok v w') : (execOp f o).run P w = .ok (.value v) w' := by
  simp [execOp, hop, resolve, invoke, builtin, h]

theorem zeroCells_den {zv : Value} {z : List SV} (hz : zv.cells = (denL ρ z).toArray) (hp : 0 < z.length) (k : Nat) : (Builtin.zeroCells zv.cells k).toList = denL ρ (repS z k) := by
  have hne : denL ρ z ≠ [] := fun e => by
    have := congrArg List.length e
    rw [denL_length] at this
    simp at this
    subst this; cases hp
  have := range_rep (denL ρ z) hne k (k * z.length) (by rw [denL_length])
  rw [← repS_den] at this
  simp only [Builtin.zeroCells, hz]
  have hs : (denL ρ z).toArray.size = z.length := by simp [denL_length]
  rw [hs] at this ⊢
  rw [this]

theorem wr2_sound {ty : Nat → Option TI} (hty : ∀ t i, ty t = some i → TyOk P t i) {S S' : SS} (hb : S.Bd) (hps : holds I ρ S.path) (hh : HSat I ρ F S.hp w hp) {o : Oper} {r : Option SV}
    (h : wr2 ty S o.op = some (r, S')) {f : Operand → Value} (hf : ∀ x ∈ o.op.operands, ∀ u, opnd S.tm x = some u → f x = u.den ρ) :
    ∃ nx w' ρ', (execOp f o).run P w = .ok nx w' ∧ Came I F ρ S r S' nx w' ρ' := by
  generalize hop : o.op = op at h hf
  unfold wr2 at h
  split at h
  case h_1 _ s x st xt =>
    split at h
    case h_2 => cases h
    rename_i e ei z sv xv hel hs hx
    obtain ⟨hc, h9⟩ := whenB_some h
    clear h
    have hst := Nat.eq_of_beq_eq_true hc
    subst hst
    have e1 := hf s (by simp [Op.operands, Call.operands]) _ hs
    have e2 := hf x (by simp [Op.operands, Call.operands]) _ hx
    obtain ⟨hu, hzl, hpos, hby, i, zv, hi, hsz, hbt, hz, hzc⟩ := elemOf_sound (ρ := ρ) hty hel
    have hsb := opnd_bd hb.tm hs
    have done : ∀ {v : SV}, sv.den ρ = v.den ρ → v.bd S.next → (Builtin.append_ #[st, st] o.type #[sv.den ρ, xv.den ρ]).run P w = .ok (sv.den ρ) w →
        ∃ nx w' ρ', (execOp f o).run P w = .ok nx w' ∧ Came I F ρ S (some v) S nx w' ρ' := fun {v} hv hbv hr => by
      refine ⟨_, _, ρ, exec_append hop (by rw [e1, e2]; exact hr), came_same hb hh hbv hv⟩
    split at h9
    · cases h9
      exact done rfl hsb (run_append_zero hu hi (Nat.zero_le _))
    · cases h9
      exact done rfl hsb (run_append_zero hu hi (Nat.zero_le _))
    · cases h9
      exact done rfl hsb (run_append_zero hu hi (Nat.zero_le _))
    · cases h9
      exact done rfl hsb (run_append_zero hu hi (Nat.zero_le _))
    · obtain ⟨hc2, h9⟩ := whenB_some h9
      cases h9
      exact done rfl hsb (run_append_zero hu hi (Nat.le_of_ble_eq_true hc2))
    · obtain ⟨hc2, h9⟩ := whenB_some h9
      cases h9
      exact done rfl hsb (run_append_zero hu hi (Nat.le_of_ble_eq_true hc2))
    · split at h9
      case h_2 => cases h9
      rename_i a n c _ _ _ _ _ _ size cs c' hk
      obtain ⟨hc2, h9⟩ := whenB_some h9
      cases h9
      simp only [Bool.and_eq_true] at hc2
      have q1 := Nat.eq_of_beq_eq_true hc2.1.1
      have q2 := Nat.eq_of_beq_eq_true hc2.1.2
      have q3 := Nat.le_of_ble_eq_true hc2.2
      subst q1 q2
      obtain ⟨rest, hcap, _⟩ := hh.sat _ _ hk
      simp only [IE.den] at hcap
      refine done rfl hsb (run_append_zero hu hi (Nat.le_of_mul_le_mul_right (c := ei.size) ?_ hpos))
      simp only [IE.den, Int.ofNat_eq_natCast, Int.toNat_natCast]
      omega
    · split at h9
      case h_2 => cases h9
      rename_i a n c _ _ _ _ _ _ _ size cs c' hk
      obtain ⟨hc2, h9⟩ := whenB_some h9
      cases h9
      simp only [Bool.and_eq_true] at hc2
      have q1 := Nat.eq_of_beq_eq_true hc2.1.1
      have q2 := Nat.eq_of_beq_eq_true hc2.1.2
      have q3 := Nat.le_of_ble_eq_true hc2.2
      subst q1 q2
      obtain ⟨rest, hcap, _⟩ := hh.sat _ _ hk
      simp only [IE.den] at hcap
      refine done rfl hsb (run_append_zero hu hi (Nat.le_of_mul_le_mul_right (c := ei.size) ?_ hpos))
      simp only [IE.den, Int.ofNat_eq_natCast, Int.toNat_natCast]
      omega
    · obtain ⟨x', w', ρ', hr, hcame⟩ := appS_sound (P := P) (oty := o.type) hty hb hps hh hel hsb (opnd_bd hb.tm hx).1 h9 _
      exact ⟨_, w', ρ', exec_append hop (by rw [e1, e2]; exact hr), hcame⟩
    · cases h9
  case h_2 _ d x dt xt =>
    split at h
    case h_2 => cases h
    rename_i e ei z dv xv hel hd hx
    have e1 := hf d (by simp [Op.operands, Call.operands]) _ hd
    have e2 := hf x (by simp [Op.operands, Call.operands]) _ hx
    obtain ⟨hu, hzl, hpos, hby, i, zv, hi, hsz, hbt, hz, hzc⟩ := elemOf_sound (ρ := ρ) hty hel
    have nought : (Builtin.copy_ #[dt, xt] o.type #[dv.den ρ, xv.den ρ]).run P w = .ok (.int .i64 0) w → ∃ nx w' ρ', (execOp f o).run P w = .ok nx w' ∧ Came I F ρ S (some (.int .i64 (.lit (.ofNat 0)))) S nx w' ρ' := fun hr =>
      ⟨_, _, ρ, exec_copy hop (by rw [e1, e2]; exact hr), came_same hb hh (v := .int .i64 (.lit (.ofNat 0))) (by simp [SV.bd, IE.bd]) rfl⟩
    split at h
    · rename_i a n _ b m yc
      simp only at h
      split at h
      case h_2 => cases h
      rename_i vs hvs
      split at h
      case h_2 => cases h
      rename_i H hH
      cases h
      have hk : (bif Nat.ble m n then m else n) = Nat.min m n := by
        cases hmn : Nat.ble m n with
        | true => simp only [cond_true]; exact (Nat.min_eq_left (Nat.le_of_ble_eq_true hmn)).symm
        | false =>
          simp only [cond_false]
          refine (Nat.min_eq_right ?_).symm
          rcases Nat.le_total m n with q | q
          · rw [Nat.ble_eq_true_of_le q] at hmn; cases hmn
          · exact q
      rw [hk] at hvs ⊢
      obtain ⟨hvl, hvc⟩ := ld_cells hh hps hvs
      obtain ⟨w', hp', hr, hs', hB, hz'⟩ := stCells_sound (P := P) hh hH
      have hf1 := run_firstCells_some (P := P) w i.size (Nat.min m n) (b.den ρ) m (yc.den ρ).toNat (denL ρ vs) (by rw [hvl, hsz]) hvc
      refine ⟨_, _, ρ, exec_copy hop (v := .int .i64 (Nat.min m n)) (w' := w') ?_, ⟨⟨rfl, trivial⟩, Env.Agree.refl _ _, ⟨hp', hs'⟩, ⟨rfl, rfl, rfl, .inl rfl, Nat.le_refl _, rfl⟩, ⟨hb.tm, hB _ hb.hp (ldCells_bd hb.hp hvs (opnd_bd hb.tm hx).1), hb.path, hb.df, hb.ro⟩⟩⟩
      rw [e1, e2]
      have d1 : ∀ (a : SA) (l : Nat) (c : IE), (SV.slice a (.lit (.ofNat l)) c).den ρ = .slice (some (a.den ρ)) l (c.den ρ).toNat := fun _ _ _ => rfl
      rw [d1, d1]
      simp [Builtin.copy_, run_underlying hu, sizeOf, typeInfo, hi, Builtin.lenOf, hf1, hr, goInt]
    · cases h
      exact nought (by simp [SV.den, IE.den, Builtin.copy_, run_underlying hu, sizeOf, typeInfo, hi, Builtin.lenOf, Builtin.firstCells, loadCells, loadCellsFrom, goInt])
    · cases h
      exact nought (by simp [SV.den, IE.den, Builtin.copy_, run_underlying hu, sizeOf, typeInfo, hi, Builtin.lenOf, Builtin.firstCells, storeCells, goInt])
    · cases h
      exact nought (by simp [SV.den, IE.den, Builtin.copy_, run_underlying hu, sizeOf, typeInfo, hi, Builtin.lenOf, Builtin.firstCells, goInt])
    · cases h
  case h_3 _ x t =>
    split at h
    case h_2 => cases h
    rename_i e ei z a n c hel hx
    split at h
    case h_2 => cases h
    rename_i H hH
    cases h
    have e1 := hf x (by simp [Op.operands, Call.operands]) _ hx
    obtain ⟨hu, hzl, hpos, hby, i, zv, hi, hsz, hbt, hz, hzc⟩ := elemOf_sound (ρ := ρ) hty hel
    obtain ⟨w', hp', hr, hs', hB, hz'⟩ := stCells_sound (P := P) hh hH
    have hzb : bdL S.next z := by
      unfold elemOf at hel
      split at hel
      case h_2 => cases hel
      split at hel
      case h_2 => cases hel
      split at hel
      case h_2 => cases hel
      rename_i hz0
      have := (whenB_some hel).2
      cases this
      exact zeroS_bd hz0
    refine ⟨_, _, ρ, exec_clear hop (v := .tuple #[]) (w' := w') ?_, ⟨⟨by simp [SV.den, denL], by simp [SV.bd, bdL]⟩, Env.Agree.refl _ _, ⟨hp', hs'⟩, ⟨rfl, rfl, rfl, .inl rfl, Nat.le_refl _, rfl⟩, ⟨hb.tm, hB _ hb.hp (repS_bd hzb n), hb.path, hb.df, hb.ro⟩⟩⟩
    have d1 : (SV.slice a (.lit (.ofNat n)) c).den ρ = .slice (some (a.den ρ)) n (c.den ρ).toNat := rfl
    rw [e1, d1]
    cases n with
    | zero =>
      simp only [repS, denL, storeCells, Sem.run_pure, Result.ok.injEq, true_and] at hr
      subst hr
      simp [Builtin.clear_, run_underlying hu]
    | succ n =>
      have hzd := zeroCells_den hzc (by omega) (n + 1)
      simp [Builtin.clear_, run_underlying hu, zeroValue, typeInfo, hi, hz, hzd, hr]
  case h_4 _ x y t t2 =>
    split at h
    case h_2 => cases h
    rename_i k z n k1 q hm hx hy
    split at h
    case h_2 => cases h
    rename_i k2 es clock hk
    obtain ⟨hc, h9⟩ := whenB_some h
    clear h
    rw [Bool.and_eq_true] at hc
    have k1e := IntKind.beq_eq hc.1
    have k2e := IntKind.beq_eq hc.2
    subst k1e; subst k2e
    cases h9
    have hblk := hh.block hk (hh.sat _ _ hk)
    obtain ⟨kt, et, hu, hku, hz⟩ := mapOf_sound (ρ := ρ) hty hm
    have e1 := hf x (by simp [Op.operands, Call.operands]) _ hx
    have e2 := hf y (by simp [Op.operands, Call.operands]) _ hy
    simp only [SV.den, IE.den] at e1 e2
    have hkey : MapKept.IsKey (.int k2) (.int k2 q) := by simp [MapKept.IsKey]
    have hfk := MapKept.run_findKey (w := w) hku (findNow_den (ρ := ρ) k2 q es 0)
    have hcheck := fun e => MapKept.run_checkKey (w := w) hku hkey e 9999
    obtain ⟨d1, d2⟩ := delM_sound (ρ := ρ) k2 q es 0
    refine ⟨_, _, ρ, exec_delete hop (v := .tuple #[]) (w' := { w with heap := w.heap.setIfInBounds (ρ.k n) (.map (denM ρ k2 (delM q es)).toArray clock) }) ?_, came_map hb hh hk (delM_bd (hb.hp _ _ hk).2) ⟨by simp [SV.den, denL], by simp [SV.bd, bdL]⟩⟩
    rw [e1, e2]
    simp only [Builtin.delete_, List.getElem?_toArray, List.getElem?_cons_zero, List.getElem?_cons_succ, Sem.run_bind, hu, Result.andThen_ok, MapKept.run_getObj_map hblk, hcheck, hfk]
    cases hfm : findM es q 0 with
    | none =>
      simp only [Option.map_none, Sem.run_bind, MapKept.run_setObj_map _ hblk, d1 hfm, Result.andThen_ok, Sem.run_pure]
    | some p =>
      obtain ⟨j, u⟩ := p
      obtain ⟨_, q1, q2⟩ := d2 j u hfm
      rw [Nat.sub_zero] at q1 q2
      have : (denM ρ k2 es).toArray.eraseIdxIfInBounds j = (denM ρ k2 (delM q es)).toArray := by
        rw [q2]
        unfold Array.eraseIdxIfInBounds
        rw [dif_pos (by simpa using q1)]
        simp
      simp only [Option.map_some, this, Sem.run_bind, MapKept.run_setObj_map _ hblk, Result.andThen_ok, Sem.run_pure]
  case h_5 _ t =>
    split at h
    case h_2 => cases h
    rename_i k z hm
    cases h
    have hag := withK_agree ρ S.next w.heap.size
    refine ⟨.value (.map (some w.heap.size)), { w with heap := w.heap.push (.map #[] 0) }, ρ.withK S.next w.heap.size, by simp [execOp, hop, Instr.makeMap], ⟨⟨by simp [SV.den, withK_same], Nat.lt_succ_self _⟩, hag, ⟨_, hh.new hb.hp hag (d := .mp k [] 0) (o := .map #[] 0) ?_⟩, fresh_keeps _ _, fresh_bd hb trivial⟩⟩
    simp [CSat, withK_same, denM]
  case h_6 _ t x y v =>
    split at h
    case h_2 => cases h
    rename_i k z n k1 q u hm hx hy hv
    split at h
    case h_2 => cases h
    rename_i k2 es clock hk
    obtain ⟨hc, h9⟩ := whenB_some h
    clear h
    rw [Bool.and_eq_true] at hc
    have k1e := IntKind.beq_eq hc.1
    have k2e := IntKind.beq_eq hc.2
    subst k1e; subst k2e
    have hblk := hh.block hk (hh.sat _ _ hk)
    obtain ⟨kt, et, hu, hku, hz⟩ := mapOf_sound (ρ := ρ) hty hm
    have e1 := hf x (by simp [Op.operands]) _ hx
    have e2 := hf y (by simp [Op.operands]) _ hy
    have e3 := hf v (by simp [Op.operands]) _ hv
    simp only [SV.den, IE.den] at e1 e2
    have hkey : MapKept.IsKey (.int k2) (.int k2 q) := by simp [MapKept.IsKey]
    have hfk := MapKept.run_findKey (w := w) hku (findNow_den (ρ := ρ) k2 q es 0)
    have hcheck := fun e => MapKept.run_checkKey (w := w) hku hkey e 9999
    obtain ⟨d1, d2⟩ := putM_sound (ρ := ρ) k2 q u clock es 0
    cases hput : putM q u clock es with
    | mk l g =>
      rw [hput] at h9 d1 d2
      simp only [Option.some.injEq, Prod.mk.injEq] at h9
      obtain ⟨rfl, rfl⟩ := h9
      have hbl : bdM S.next l := by
        have := putM_bd (q := q) (clock := clock) (opnd_bd hb.tm hv) (hb.hp _ _ hk).2
        rw [hput] at this; exact this
      refine ⟨.skip, { w with heap := w.heap.setIfInBounds (ρ.k n) (.map (denM ρ k2 l).toArray (bif g then clock + 1 else clock)) }, ρ, ?_, came_map hb hh hk hbl rfl⟩
      simp only [execOp, hop, e1, e2, e3, Instr.mapUpdate, Sem.run_bind, hu, Result.andThen_ok, MapKept.run_getObj_map hblk, hcheck, hfk]
      cases hfm : findM es q 0 with
      | none =>
        obtain ⟨q1, q2⟩ := d1 hfm
        simp only at q1 q2
        subst q1
        have : (denM ρ k2 es).toArray.push { key := .int k2 q, val := u.den ρ, born := clock } = (denM ρ k2 l).toArray := by rw [q2]; simp
        simp only [Option.map_none, this, MapKept.run_setObj_map _ hblk, Result.andThen_ok, Sem.run_pure, cond_true]
      | some p =>
        obtain ⟨j, u'⟩ := p
        obtain ⟨_, q1, q2⟩ := d2 j u' hfm
        rw [Nat.sub_zero] at q2
        simp only at q1 q2
        subst q1
        obtain ⟨_, b', hget⟩ := findM_get (ρ := ρ) k2 q es 0 j u' hfm
        rw [Nat.sub_zero] at hget
        have hgetA : (denM ρ k2 es).toArray[j]? = some { key := .int k2 q, val := u'.den ρ, born := b' } := by simpa using hget
        have hstay : (Instr.keyThatStays (.int k2 q) (.int k2 q)).run P w = .ok (.int k2 q) w := by simp [Instr.keyThatStays, Instr.sameBits]
        have hmod : (denM ρ k2 es).toArray.modify j (fun e => { e with key := .int k2 q, val := u.den ρ }) = (denM ρ k2 l).toArray := by rw [q2]; simp
        simp only [Option.map_some, hgetA, Option.getD_some, Sem.run_bind, hstay, Result.andThen_ok, hmod, MapKept.run_setObj_map _ hblk, Sem.run_pure, cond_false]
  case h_7 => cases h

theorem wr_sound {ty : Nat → Option TI} (hty : ∀ t i, ty t = some i → TyOk P t i) : ∀ F : Fr, ∀ (S S' : SS) (o : Oper) (r : Option SV), wr ty S o.op = some (r, S') → ∀ (ρ : Env U) (w : World) (hp : Nat → PHeap), S.Bd → holds I ρ S.path → HSat I ρ F S.hp w hp →
    ∀ f : Operand → Value, (∀ x ∈ o.op.operands, ∀ u, opnd S.tm x = some u → f x = u.den ρ) →
    (∀ c, o.op ≠ .defer c) ∧ ∃ nx w' ρ', (execOp f o).run P w = .ok nx w' ∧ Came I F ρ S r S' nx w' ρ' := by
  intro F S S' o r h ρ w hp hb hps hh f hf
  refine ⟨fun c e => ?_, ?_⟩
  · rw [e] at h
    simp [wr, wr1, wr2, orE] at h
  · unfold wr orE at h
    split at h
    · rename_i hr
      cases h
      exact wr1_sound hty hb hh hr hf
    · exact wr2_sound hty hb hps hh h hf

end
end Go.Vg
