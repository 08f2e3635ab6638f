/- The engine's operations on rows whose length is not known: a store, a new row, an element behind, a copy, a clearing. Conditions: the table of types is the program's. -/
import Derived.Test.YtfkjbiigciabpaaGreatVgWr3
namespace Go.Vg

def SK.ofV : SV → SK
  | .int k _ => .int k
  | .bool _ => .bool
  | _ => .any
def fitS (ps : List PI) : SK → SV → Bool
  | .int k, .int k' e => IntKind.beq k k' && rngB ps k e
  | .bool, .bool _ => true
  | .any, v => v.one
  | _, _ => false
def fitsS (ps : List PI) (sh : List SK) : Nat → List SV → Bool
  | _, [] => true
  | o, v :: vs => (match sh[o % sh.length]? with | some s => fitS ps s v | none => false) && fitsS ps sh (o + 1) vs
def skBeq : List SK → List SK → Bool
  | [], [] => true
  | .int k :: l, .int k' :: l' => IntKind.beq k k' && skBeq l l'
  | .bool :: l, .bool :: l' | .any :: l, .any :: l' => skBeq l l'
  | _, _ => false

/-- A store into a row. -/
def stArr (S : SS) (a : SA) (cs : List SV) : Option SS :=
  match S.hp.get a.blk with
  | some (.arr e size sh r len cap) => match arrPos S.path size len a cs.length with
    | some (p, o, two) => whenB (Nat.beq (size % sh.length) 0 && (!two || Nat.beq sh.length 1) && fitsS S.path sh o cs && allOne cs)
        (some { S with hp := S.hp.set a.blk (.arr e size sh S.next len cap), path := .upd S.next r p cs :: S.path, next := S.next + 1 })
    | none => none
  | _ => none

/-- Is a slice the whole of its row? -/
def wholeS (S : SS) (a : SA) (len : IE) : Option (Nat × Nat × List SK × Nat × IE × IE) :=
  match a.dyn, S.hp.get a.blk with
  | [], some (.arr e size sh r len' cap) => whenB (Nat.beq a.off 0 && len.beq len') (some (e, size, sh, r, len', cap))
  | _, _ => none

def most : IE := .lit 1000000
def SS.freshR (S : SS) (c : Ch) (q : List PI) : SS := { S with hp := S.hp.set S.next c, path := q ++ S.path, next := S.next + 1 }

/-- What an element's nought makes of a row. -/
def shOf (z : List SV) : List SK := z.map SK.ofV

def storeA (ty : Nat → Option TI) (S : SS) (t : Nat) (a x : Operand) : Option (Option SV × SS) :=
  match opnd S.tm a, opnd S.tm x, ty t with
  | some (.ptr sa), some v, some i => match v.cellsOf with
    | some cs => whenB (Nat.beq cs.length i.size && Nat.blt 0 cs.length) (match stArr S sa cs with | some S' => some (none, S') | none => none)
    | none => none
  | _, _, _ => none
def makeA (ty : Nat → Option TI) (S : SS) (t : Nat) (l c : Operand) : Option (Option SV × SS) :=
  match ty t, opnd S.tm l, opnd S.tm c with
  | some i, some (.int k n), some (.int k' m) => match i.und with
    | .slice elem => match ty elem, zeroS ty elem with
      | some ei, some z => whenB (Nat.beq z.length ei.size && Nat.blt 0 ei.size && n.beq m && nonneg S.path n && leqK S.path n most && Nat.ble ei.bytes 1000000 && allOne z && IntKind.beq k k' && fitsS S.path (shOf z) 0 z)
          (some (some (.slice ⟨S.next, 0, []⟩ n n), S.freshR (.arr elem ei.size (shOf z) S.next n n) [.rep S.next n z]))
      | _, _ => none
    | _ => none
  | _, _, _ => none
/-- Elements behind those of a row. -/
def appRow (S : SS) (e : Nat) (ei : TI) (a : SA) (n c : IE) (b : SA) (m : Nat) : Option (Option SV × SS) :=
  match wholeS S a n, ldCells S.path S.hp b (m * ei.size) with
  | some (e', size, sh, r, _, cap), some vs => whenB (Nat.beq e e' && Nat.beq size ei.size && c.beq cap && nonneg S.path n && leqK S.path n most && Nat.ble m 1000000 && Nat.blt 0 m && Nat.beq (size % sh.length) 0 && fitsS S.path sh 0 vs && allOne vs)
      (some (some (.slice ⟨S.next, 0, []⟩ (addN n m) (.var S.next)), { S with hp := (S.hp.del a.blk).set S.next (.arr e ei.size sh S.next (addN n m) (.var S.next)), path := .app S.next r vs :: S.path, next := S.next + 1 }))
  | _, _ => none
/-- The whole of a row, onto nothing. -/
def cloneA (S : SS) (e : Nat) (ei : TI) (b : SA) (n : IE) : Option (Option SV × SS) :=
  match wholeS S b n with
  | some (e', size, sh, r, _, _) => whenB (Nat.beq e e' && Nat.beq size ei.size && ltK S.path (.lit 0) n && leqK S.path n most)
      (some (some (.slice ⟨S.next, 0, []⟩ n (.var S.next)), S.freshR (.arr e ei.size sh r n (.var S.next)) []))
  | none => none
def appA (ty : Nat → Option TI) (S : SS) (s x : Operand) (st xt : Nat) : Option (Option SV × SS) :=
  match elemOf ty st, opnd S.tm s, opnd S.tm x with
  | some (e, ei, _), some sv, some xv => whenB (Nat.beq st xt) (match sv, xv with
    | .slice a n c, .slice b (.lit (.ofNat m)) _ => appRow S e ei a n c b m
    | .slice _ (.lit (.ofNat 0)) (.lit (.ofNat 0)), .slice b n _ => cloneA S e ei b n
    | .nils (.lit (.ofNat 0)) (.lit (.ofNat 0)), .slice b n _ => cloneA S e ei b n
    | _, _ => none)
  | _, _, _ => none
def copyAll (S : SS) (ei : TI) (a : SA) (n : IE) (b : SA) (m : IE) : Option (Option SV × SS) :=
  match wholeS S a n, wholeS S b m with
  | some (e, size, sh, _, _, cap), some (_, size', sh', r', _, _) => whenB (Nat.beq size ei.size && Nat.beq size' ei.size && n.beq m && nonneg S.path n && skBeq sh sh')
      (some (some (.int .i64 n), { S with hp := S.hp.set a.blk (.arr e size sh r' n cap) }))
  | _, _ => none
def copyLit (S : SS) (ei : TI) (a : SA) (n : IE) (b : SA) (k : Nat) : Option (Option SV × SS) :=
  match ldCells S.path S.hp b (k * ei.size) with
  | some vs => whenB (leqK S.path (.lit (.ofNat k)) n && Nat.blt 0 k && Nat.blt 0 ei.size) (match stArr S a vs with
    | some S' => some (some (.int .i64 (.lit (.ofNat k))), S')
    | none => none)
  | none => none
def copyA (ty : Nat → Option TI) (S : SS) (d x : Operand) (dt : Nat) : Option (Option SV × SS) :=
  match elemOf ty dt, opnd S.tm d, opnd S.tm x with
  | some (_, ei, _), some (.slice a n _), some (.slice b m _) => match copyAll S ei a n b m with
    | some r => some r
    | none => match m with
      | .lit (.ofNat k) => copyLit S ei a n b k
      | _ => none
  | _, _, _ => none
def clearA (ty : Nat → Option TI) (S : SS) (x : Operand) (t : Nat) : Option (Option SV × SS) :=
  match elemOf ty t, opnd S.tm x with
  | some (_, ei, z), some (.slice a n _) => match wholeS S a n with
    | some (e, size, sh, _, _, cap) => whenB (Nat.beq size ei.size && nonneg S.path n && Nat.beq (size % sh.length) 0 && fitsS S.path sh 0 z && allOne z)
        (some (some (.tup []), { S with hp := S.hp.set a.blk (.arr e size sh S.next n cap), path := .rep S.next n z :: S.path, next := S.next + 1 }))
    | none => none
  | _, _ => none

def wrA (ty : Nat → Option TI) (S : SS) : Op → Option (Option SV × SS)
  | .store t a x => storeA ty S t a x
  | .makeSlice t l c => makeA ty S t l c
  | .call { callee := .builtin .append, args := ⟨[s, x]⟩, argTypes := ⟨[st, xt]⟩, .. } => appA ty S s x st xt
  | .call { callee := .builtin .copy, args := ⟨[d, x]⟩, argTypes := ⟨[dt, _]⟩, .. } => copyA ty S d x dt
  | .call { callee := .builtin .clear, args := ⟨[x]⟩, argTypes := ⟨[t]⟩, .. } => clearA ty S x t
  | _ => none

def wrV (ty : Nat → Option TI) (S : SS) (op : Op) : Option (Option SV × SS) := orE (wr ty S op) (wrA ty S op)

section
variable {U : Type} {I : Interp U} {ρ ρ' : Env U} {P : Program} {w : World} {F : Fr} {hp : Nat → PHeap}

/-- An environment with a row more; with a block, a number and a row more. -/
def Env.withR (ρ : Env U) (n : Nat) (l : List Value) : Env U := { ρ with r := fun j => if j = n then l else ρ.r j }
def Env.withKIR (ρ : Env U) (n b : Nat) (c : Int) (l : List Value) : Env U := { ρ with k := fun j => if j = n then b else ρ.k j, i := fun j => if j = n then c else ρ.i j, r := fun j => if j = n then l else ρ.r j }
theorem withR_agree (ρ : Env U) (n : Nat) (l : List Value) : Env.Agree n ρ (ρ.withR n l) :=
  ⟨fun _ _ => rfl, fun _ _ => rfl, fun _ _ => rfl, fun _ _ => rfl, fun _ _ => rfl, fun j h => by simp [Env.withR, Nat.ne_of_lt h]⟩
theorem withKIR_agree (ρ : Env U) (n b : Nat) (c : Int) (l : List Value) : Env.Agree n ρ (ρ.withKIR n b c l) :=
  ⟨fun j h => by simp [Env.withKIR, Nat.ne_of_lt h], fun _ _ => rfl, fun j h => by simp [Env.withKIR, Nat.ne_of_lt h], fun _ _ => rfl, fun _ _ => rfl, fun j h => by simp [Env.withKIR, Nat.ne_of_lt h]⟩
theorem withR_r (ρ : Env U) (n : Nat) (l : List Value) : (ρ.withR n l).r n = l := by simp [Env.withR]
theorem withKIR_k (ρ : Env U) (n b : Nat) (c : Int) (l : List Value) : (ρ.withKIR n b c l).k n = b := by simp [Env.withKIR]
theorem withKIR_i (ρ : Env U) (n b : Nat) (c : Int) (l : List Value) : (ρ.withKIR n b c l).i n = c := by simp [Env.withKIR]
theorem withKIR_r (ρ : Env U) (n b : Nat) (c : Int) (l : List Value) : (ρ.withKIR n b c l).r n = l := by simp [Env.withKIR]

theorem fitS_sound {ps : List PI} (hs : holds I ρ ps) {s : SK} {v : SV} (h : fitS ps s v = true) : s.fits (v.den ρ) := by
  unfold fitS at h
  split at h
  · rename_i k k' e
    rw [Bool.and_eq_true] at h
    have e1 := IntKind.beq_eq h.1
    subst e1
    exact ⟨e.den ρ, by simp only [SV.den], rngB_sound hs h.2⟩
  · rename_i b
    exact ⟨b.den ρ, by simp only [SV.den]⟩
  · exact SV.one_den ρ h
  · cases h
theorem fitsS_sound {ps : List PI} (hs : holds I ρ ps) {sh : List SK} : ∀ {o : Nat} {vs : List SV}, fitsS ps sh o vs = true → ∀ j v, (denL ρ vs)[j]? = some v → ∃ s, sh[(o + j) % sh.length]? = some s ∧ s.fits v
  | o, [], _, j, v, hv => by simp [denL] at hv
  | o, u :: us, h, j, v, hv => by
    simp only [fitsS, Bool.and_eq_true] at h
    cases j with
    | zero =>
      simp only [denL, List.getElem?_cons_zero, Option.some.injEq] at hv
      have h1 := h.1
      split at h1
      · rename_i s hs'
        exact ⟨s, hs', hv ▸ fitS_sound hs h1⟩
      · cases h1
    | succ j =>
      simp only [denL, List.getElem?_cons_succ] at hv
      obtain ⟨s, hs2, hf⟩ := fitsS_sound hs h.2 j v hv
      exact ⟨s, by rw [← hs2]; congr 2; omega, hf⟩
theorem skBeq_eq : ∀ {a b : List SK}, skBeq a b = true → a = b
  | [], [], _ => rfl
  | .int k :: l, .int k' :: l', h => by
    simp only [skBeq, Bool.and_eq_true] at h
    rw [IntKind.beq_eq h.1, skBeq_eq h.2]
  | .bool :: l, .bool :: l', h => by rw [skBeq_eq (a := l) (b := l') h]
  | .any :: l, .any :: l', h => by rw [skBeq_eq (a := l) (b := l') h]
  | [], _ :: _, h | _ :: _, [], h | .int _ :: _, .bool :: _, h | .int _ :: _, .any :: _, h | .bool :: _, .int _ :: _, h | .bool :: _, .any :: _, h | .any :: _, .int _ :: _, h | .any :: _, .bool :: _, h => by simp [skBeq] at h

theorem spliceV_length {l : List Value} {p : Nat} {vs : List Value} (h : p + vs.length ≤ l.length) : (spliceV l p vs).length = l.length := by
  simp [spliceV]; omega
theorem spliceV_get {l : List Value} {p : Nat} {vs : List Value} (h : p + vs.length ≤ l.length) (i : Nat) : (spliceV l p vs)[i]? = if p ≤ i ∧ i < p + vs.length then vs[i - p]? else l[i]? := by
  unfold spliceV
  have h1 : (l.take p).length = p := by rw [List.length_take]; omega
  by_cases a : i < p
  · have : ¬ (p ≤ i ∧ i < p + vs.length) := by omega
    rw [if_neg this, List.append_assoc, List.getElem?_append_left (by omega), List.getElem?_take, if_pos a]
  · by_cases b : i < p + vs.length
    · rw [if_pos ⟨by omega, b⟩, List.append_assoc, List.getElem?_append_right (by omega), h1, List.getElem?_append_left (by omega)]
    · have : ¬ (p ≤ i ∧ i < p + vs.length) := by omega
      rw [if_neg this, List.getElem?_append_right (by rw [List.length_append]; omega), List.length_append, h1, List.getElem?_drop]
      congr 1; omega
theorem fits_splice {sh : List SK} {l vs : List Value} {p : Nat} (hl : Fits sh l) (h : p + vs.length ≤ l.length) (hv : ∀ j v, vs[j]? = some v → ∃ s, sh[(p + j) % sh.length]? = some s ∧ s.fits v) : Fits sh (spliceV l p vs) := by
  intro i v hi
  rw [spliceV_get h] at hi
  split at hi
  · rename_i hc
    have := hv (i - p) v hi
    have e : p + (i - p) = i := by omega
    rw [e] at this; exact this
  · exact hl i v hi
theorem fits_append {sh : List SK} {l vs : List Value} (hl : Fits sh l) (hm : l.length % sh.length = 0) (hv : ∀ j v, vs[j]? = some v → ∃ s, sh[(0 + j) % sh.length]? = some s ∧ s.fits v) : Fits sh (l ++ vs) := by
  intro i v hi
  by_cases h : i < l.length
  · rw [List.getElem?_append_left h] at hi; exact hl i v hi
  · rw [List.getElem?_append_right (by omega)] at hi
    have := hv _ v hi
    have e : i % sh.length = (0 + (i - l.length)) % sh.length := by
      have : i = l.length + (i - l.length) := by omega
      rw [this, Nat.add_mod, hm]
      simp
    rw [e]; exact this
theorem fits_rep {sh : List SK} {z : List Value} (hz : z ≠ []) (hm : z.length % sh.length = 0) (hv : ∀ j v, z[j]? = some v → ∃ s, sh[(0 + j) % sh.length]? = some s ∧ s.fits v) (n : Nat) : Fits sh (List.replicate n z).flatten := by
  intro i v hi
  have hlt : i < n * z.length := by
    have := (List.getElem?_eq_some_iff.1 hi).1
    simpa using this
  rw [rep_getElem z hz n i hlt] at hi
  obtain ⟨s, hs, hf⟩ := hv _ v hi
  refine ⟨s, ?_, hf⟩
  rw [← hs, Nat.zero_add, Nat.mod_mod_of_dvd _ (Nat.dvd_of_mod_eq_zero hm)]
theorem rep_length (z : List Value) (n : Nat) : (List.replicate n z).flatten.length = n * z.length := by simp
/-- What a writer of rows has come to. -/
structure CameA (I : Interp U) (F : Fr) (ρ : Env U) (S S' : SS) (w' : World) (ρ' : Env U) : Prop where
  agree : Env.Agree S.next ρ ρ'
  heap : ∃ hp', HSat I ρ' F S'.hp w' hp'
  bd : S'.Bd
  path : holds I ρ' S'.path
  tm : S'.tm = S.tm
  nt : S'.nt = S.nt
  df : S'.df = S.df
  ro : S'.ro = S.ro
  next : S.next ≤ S'.next

theorem CameA.came {S S' : SS} {w' : World} (h : CameA I F ρ S S' w' ρ') {r : Option SV} {nx : Next} (hr : match r with | some v => nx = .value (v.den ρ') ∧ v.bd S'.next | none => nx = .skip) : Came I F ρ S r S' nx w' ρ' :=
  ⟨hr, h.agree, h.heap, ⟨h.tm, h.nt, h.df, .inr h.path, h.next, h.ro⟩, h.bd⟩

theorem Bd_with {S : SS} (hb : S.Bd) {H : Tr Ch} (hH : HBd (S.next + 1) H) {q : List PI} (hq : ∀ p ∈ q, p.bd (S.next + 1)) : ({ S with hp := H, path := q ++ S.path, next := S.next + 1 } : SS).Bd :=
  ⟨hb.tm.mono (Nat.le_succ _), hH, fun p hp => by
    rcases List.mem_append.1 hp with h | h
    · exact hq p h
    · exact PI.bd_mono (Nat.le_succ _) p (hb.path p h), fun d hd => Nat.lt_succ_of_lt (hb.df d hd), fun d hd => Nat.lt_succ_of_lt (hb.ro d hd)⟩

theorem align {p o q s : Nat} {two : Bool} (hq : s % q = 0) (h : two = false → p % s = o % s) (h2 : (!two || Nat.beq q 1) = true) (j : Nat) : (p + j) % q = (o + j) % q := by
  cases htw : two with
  | false =>
    have := mod_of_mod hq (h htw)
    rw [Nat.add_mod, this, ← Nat.add_mod]
  | true =>
    rw [htw] at h2
    have h6 : q = 1 := Nat.eq_of_beq_eq_true (by simpa using h2)
    rw [h6, Nat.mod_one, Nat.mod_one]

theorem stArr_sound {S S' : SS} (hb : S.Bd) (hps : holds I ρ S.path) (hh : HSat I ρ F S.hp w hp) {a : SA} {cs : List SV} (ha : a.bd S.next) (hc : bdL S.next cs) (h : stArr S a cs = some S') :
    ∃ w' ρ', (storeCells (a.den ρ) (denL ρ cs)).run P w = .ok () w' ∧ CameA I F ρ S S' w' ρ' := by
  unfold stArr at h
  split at h
  case h_2 => cases h
  rename_i e size sh r len cap hk
  split at h
  case h_2 => cases h
  rename_i p o two hpos
  obtain ⟨h1, h⟩ := whenB_some h
  cases h
  simp only [Bool.and_eq_true] at h1
  obtain ⟨⟨⟨q1, q2⟩, q3⟩, q4⟩ := h1
  have q1 := Nat.eq_of_beq_eq_true q1
  obtain ⟨h0, h2, h3, h4, h5⟩ := arrPos_sound hps hpos
  obtain ⟨rest, g1, g2, g3, g4⟩ := hh.sat _ _ hk
  have hblk := hh.block hk g4
  have hkb := hb.hp _ _ hk
  have hpl : (p.den ρ).toNat + (denL ρ cs).length ≤ (ρ.r r).length := by rw [denL_length, g1]; exact h3
  obtain ⟨w', hr, hbut, hw'⟩ := run_storeCells (P := P) (denL ρ cs) w (ρ.k a.blk) (p.den ρ).toNat 0 (ρ.r r ++ rest) e hblk (by rw [List.length_append]; omega)
    (fun v hv => by rw [denL_eq] at hv; obtain ⟨u, hu, rfl⟩ := List.mem_map.1 hv; exact SV.one_den ρ (allOne_iff.1 q4 u hu))
  have hag := withR_agree ρ S.next (spliceV (ρ.r r) (p.den ρ).toNat (denL ρ cs))
  have had : a.den ρ = ⟨ρ.k a.blk, (p.den ρ).toNat, none⟩ := by simp [SA.den, h2]
  have hcells : (ρ.r r ++ rest).take ((p.den ρ).toNat + 0) ++ denL ρ cs ++ (ρ.r r ++ rest).drop ((p.den ρ).toNat + 0 + (denL ρ cs).length) = spliceV (ρ.r r) (p.den ρ).toNat (denL ρ cs) ++ rest := by
    rw [Nat.add_zero, List.take_append_of_le_length (by omega), List.drop_append_of_le_length (by omega)]
    simp [spliceV]
  rw [hcells] at hw'
  have hpb : p.bd S.next := h5 _ hkb.2.2.1 ha
  refine ⟨w', ρ.withR S.next (spliceV (ρ.r r) (p.den ρ).toNat (denL ρ cs)), by rw [had]; exact hr, hag, ⟨_, (hh.congr hag hb.hp).turn hk (b := ρ.k a.blk) (o := .cells (ρ.r r ++ rest).toArray e (0, 0)) g4 (d := .arr e size sh S.next len cap)
    (o' := .cells (spliceV (ρ.r r) (p.den ρ).toNat (denL ρ cs) ++ rest).toArray e (0, 0)) ⟨rest, ?_, ?_, ?_, ?_⟩ hbut.other hw' hbut.size hbut.os hbut.output hbut.tape⟩, ?_, ⟨?_, holds_congr hag hb.path hps⟩, rfl, rfl, rfl, rfl, Nat.le_succ _⟩
  · rw [withR_r, spliceV_length hpl, ← IE.den_congr hag len hkb.2.2.1]; exact g1
  · rw [withR_r]
    refine fits_splice g2 hpl fun j v hv => ?_
    rw [align q1 h4 q2 j]
    exact fitsS_sound hps q3 j v hv
  · rw [withR_r, spliceV_length hpl, ← IE.den_congr hag cap hkb.2.2.2]; exact g3
  · rw [withR_r]; rfl
  · exact Bd_with hb (q := [.upd S.next r p cs]) ((hb.hp.mono (Nat.le_succ _)).set (c := .arr e size sh S.next len cap) (Nat.lt_succ_of_lt hkb.1) ⟨Nat.lt_succ_self _, IE.bd_mono (Nat.le_succ _) _ hkb.2.2.1, IE.bd_mono (Nat.le_succ _) _ hkb.2.2.2⟩)
      (fun q hq => by
        simp only [List.mem_singleton] at hq
        subst hq
        exact ⟨Nat.lt_succ_self _, Nat.lt_succ_of_lt hkb.2.1, IE.bd_mono (Nat.le_succ _) _ hpb, bdL_mono (Nat.le_succ _) _ hc⟩)
  · show (ρ.withR S.next _).r S.next = spliceV ((ρ.withR S.next _).r r) _ _
    rw [withR_r, ← hag.r r hkb.2.1, ← IE.den_congr hag p hpb, ← denL_congr hag cs hc]

theorem wholeS_sound {S : SS} (hb : S.Bd) (hh : HSat I ρ F S.hp w hp) {a : SA} {n : IE} {e size : Nat} {sh : List SK} {r : Nat} {len cap : IE} (h : wholeS S a n = some (e, size, sh, r, len, cap)) :
    n = len ∧ S.hp.get a.blk = some (.arr e size sh r len cap) ∧ a.den ρ = ⟨ρ.k a.blk, 0, none⟩ ∧ r < S.next ∧ len.bd S.next ∧ cap.bd S.next ∧ a.blk < S.next ∧
    ∃ rest : List Value, (ρ.r r).length = (len.den ρ).toNat * size ∧ Fits sh (ρ.r r) ∧ (ρ.r r).length + rest.length = (cap.den ρ).toNat * size ∧ hp a.blk = single (ρ.k a.blk) (.cells (ρ.r r ++ rest).toArray e (0, 0)) ∧
      w.heap[ρ.k a.blk]? = some (.cells (ρ.r r ++ rest).toArray e (0, 0)) := by
  unfold wholeS at h
  split at h
  case h_2 => cases h
  rename_i hd hk
  obtain ⟨hc, h⟩ := whenB_some h
  cases h
  rw [Bool.and_eq_true] at hc
  have h0 := Nat.eq_of_beq_eq_true hc.1
  have hl := IE.beq_eq hc.2
  obtain ⟨rest, g1, g2, g3, g4⟩ := hh.sat _ _ hk
  have hkb := hb.hp _ _ hk
  exact ⟨hl, hk, by simp [SA.den, hd, h0, dynDen], hkb.2.1, hkb.2.2.1, hkb.2.2.2, hkb.1, rest, g1, g2, g3, g4, hh.block hk g4⟩

theorem most_den : most.den ρ = 1000000 := rfl

theorem wrap_small {q : Int} (h0 : 0 ≤ q) (h1 : q ≤ 1000000) : IntKind.i64.wrap q = q := by
  have h1' : low .i64 q = q.toNat := by
    cases q with
    | ofNat n =>
      show n % mask .i64 = _
      have : (Int.ofNat n).toNat = n := rfl
      rw [this]
      exact Nat.mod_eq_of_lt (by simp only [mask]; have : (Int.ofNat n) = (n : Int) := rfl; omega)
    | negSucc n => omega
  have h2 : Nat.ble (half .i64) q.toNat = false := by
    cases h : Nat.ble (half .i64) q.toNat with
    | false => rfl
    | true => have := Nat.le_of_ble_eq_true h; simp only [half] at this; omega
  rw [← wrapF_eq]
  simp only [wrapF, h1', h2, Bool.and_false, cond_false]
  exact Int.toNat_of_nonneg h0

theorem holds_append : ∀ {q ps : List PI}, (∀ p ∈ q, p.holds I ρ) → holds I ρ ps → holds I ρ (q ++ ps)
  | [], _, _, h => h
  | p :: q, _, hq, h => ⟨hq p (by simp), holds_append (fun p' hp => hq p' (by simp [hp])) h⟩

theorem came_arr {S : SS} (hb : S.Bd) (hps : holds I ρ S.path) {H : Tr Ch} (hH : HBd S.next H) (hh : HSat I ρ F H w hp) {c : Ch} {q : List PI} {o : Obj} {C : Int} {l : List Value}
    (hd : CSat I (ρ.withKIR S.next w.heap.size C l) S.next c (single w.heap.size o)) (hcb : c.bd (S.next + 1)) (hq : ∀ p ∈ q, p.holds I (ρ.withKIR S.next w.heap.size C l)) (hqb : ∀ p ∈ q, p.bd (S.next + 1)) :
    CameA I F ρ S { S with hp := H.set S.next c, path := q ++ S.path, next := S.next + 1 } { w with heap := w.heap.push o } (ρ.withKIR S.next w.heap.size C l) := by
  have hag := withKIR_agree ρ S.next w.heap.size C l
  exact ⟨hag, ⟨_, hh.new hH hag hd⟩, Bd_with hb ((hH.mono (Nat.le_succ _)).set (Nat.lt_succ_self _) hcb) hqb, holds_append hq (holds_congr hag hb.path hps), rfl, rfl, rfl, rfl, Nat.le_succ _⟩

/-- A chunk of one block, by another name. -/
theorem HSat.move {H : Tr Ch} (hs : HSat I ρ F H w hp) {n k b : Nat} {c d : Ch} {o : Obj} (hk : H.get k = some c) (h : hp k = single b o) (hd : CSat I ρ n d (single b o)) :
    HSat I ρ F ((H.del k).set n d) w (fun j => if j = n then single b o else hp j) := by
  have hown : hp k b = some o := by rw [h]; exact single_same b o
  have g : ∀ {m c}, (H.del k).get m = some c → m ≠ k ∧ H.get m = some c := fun {m c} h => by
    rw [Tr.get_del] at h; split at h
    · cases h
    · exact ⟨‹_›, h⟩
  refine ⟨fun m c' hc => ?_, fun m l c1 c2 j o1 o2 hnm h1 h2 p1 p2 => ?_, fun m c1 j o1 h1 p1 => ?_, fun m c1 j o1 h1 p1 => ?_, hs.frame, hs.grow, hs.os, hs.output, hs.tape⟩
  · rw [Tr.get_set] at hc
    by_cases e : m = n
    · subst e; simp only [if_true] at hc ⊢; cases hc; exact hd
    · simp only [e, if_false] at hc ⊢
      obtain ⟨_, hc⟩ := g hc
      exact hs.sat m c' hc
  · rw [Tr.get_set] at h1 h2
    by_cases e : m = n
    · have e2 : ¬ l = n := fun x => hnm (e.trans x.symm)
      simp only [e, if_true] at p1
      simp only [e2, if_false] at h2 p2
      obtain ⟨rfl, rfl⟩ := single_some p1
      obtain ⟨hlk, h2⟩ := g h2
      exact hs.disj l k c2 c _ o2 _ hlk h2 hk p2 hown
    · simp only [e, if_false] at h1 p1
      obtain ⟨hmk, h1⟩ := g h1
      by_cases e2 : l = n
      · simp only [e2, if_true] at p2
        obtain ⟨rfl, rfl⟩ := single_some p2
        exact hs.disj m k c1 c _ o1 _ hmk h1 hk p1 hown
      · simp only [e2, if_false] at h2 p2
        exact hs.disj m l c1 c2 j o1 o2 hnm h1 (g h2).2 p1 p2
  · rw [Tr.get_set] at h1
    by_cases e : m = n
    · simp only [e, if_true] at p1
      obtain ⟨rfl, rfl⟩ := single_some p1
      exact hs.inw k c _ _ hk hown
    · simp only [e, if_false] at h1 p1
      exact hs.inw m c1 j o1 (g h1).2 p1
  · rw [Tr.get_set] at h1
    by_cases e : m = n
    · simp only [e, if_true] at p1
      obtain ⟨rfl, rfl⟩ := single_some p1
      exact hs.off k c _ _ hk hown
    · simp only [e, if_false] at h1 p1
      exact hs.off m c1 j o1 (g h1).2 p1

theorem fits_one {sh : List SK} {l : List Value} (h : Fits sh l) : ∀ v ∈ l, v.oneCell' = true := fun v hv => by
  obtain ⟨i, hi⟩ := List.getElem?_of_mem hv
  obtain ⟨s, _, hs⟩ := h i v hi
  cases s with
  | int k => obtain ⟨n, rfl, _⟩ := hs; rfl
  | bool => obtain ⟨b, rfl⟩ := hs; rfl
  | any => exact hs

theorem slice_den (a : SA) (n c : IE) : (SV.slice a n c).den ρ = .slice (some (a.den ρ)) (n.den ρ).toNat (c.den ρ).toNat := by simp only [SV.den]

theorem add_zero_addr (b j : Nat) : (⟨b, 0, none⟩ : Addr).add j = ⟨b, j, none⟩ := by
  unfold Addr.add; split
  · rename_i h0; rw [h0]
  · rw [Nat.zero_add]

theorem storeA_sound {ty : Nat → Option TI} (hty : ∀ t i, ty t = some i → TyOk P t i) {S S' : SS} (hb : S.Bd) (hps : holds I ρ S.path) (hh : HSat I ρ F S.hp w hp) {o : Oper} {r : Option SV} {t : Nat} {a x : Operand} (hop : o.op = .store t a x)
    (h : storeA ty S t a x = some (r, S')) {f : Operand → Value} (hf : ∀ y ∈ o.op.operands, ∀ u, opnd S.tm y = some u → f y = u.den ρ) :
    ∃ nx w' ρ', (execOp f o).run P w = .ok nx w' ∧ Came I F ρ S r S' nx w' ρ' := by
  rw [hop] at hf
  unfold storeA at h
  split at h
  case h_2 => cases h
  rename_i sa v i ha hv hi
  split at h
  case h_2 => cases h
  rename_i cs hcs
  obtain ⟨h1, h2⟩ := whenB_some h
  rw [Bool.and_eq_true] at h1
  have hlen := Nat.eq_of_beq_eq_true h1.1
  split at h2
  case h_2 => cases h2
  rename_i S1 hS
  cases h2
  have e1 := hf a (by simp [Op.operands]) _ ha
  have e2 := hf x (by simp [Op.operands]) _ hv
  have hc := cellsOf_sound (ρ := ρ) hcs
  have hab := opnd_bd hb.tm ha
  simp only [SV.bd] at hab
  obtain ⟨w', ρ', hr, hcame⟩ := stArr_sound (P := P) hb hps hh hab (cellsOf_bd hcs (opnd_bd hb.tm hv)) hS
  refine ⟨.skip, w', ρ', ?_, hcame.came (r := none) rfl⟩
  simp only [SV.den] at e1
  unfold execOp
  simp only [hop, e1, e2, Instr.storeAt, Instr.sureAddr, Sem.run_bind, Sem.run_pure, Result.andThen_ok, storeVar, run_sizeOf (hty _ _ hi), hc]
  simp [denL_length, hlen, hr]

theorem makeA_sound {ty : Nat → Option TI} (hty : ∀ t i, ty t = some i → TyOk P t i) {S S' : SS} (hb : S.Bd) (hps : holds I ρ S.path) (hh : HSat I ρ F S.hp w hp) {o : Oper} {r : Option SV} {t : Nat} {l c : Operand} (hop : o.op = .makeSlice t l c)
    (h : makeA ty S t l c = some (r, S')) {f : Operand → Value} (hf : ∀ y ∈ o.op.operands, ∀ u, opnd S.tm y = some u → f y = u.den ρ) :
    ∃ nx w' ρ', (execOp f o).run P w = .ok nx w' ∧ Came I F ρ S r S' nx w' ρ' := by
  rw [hop] at hf
  unfold makeA at h
  split at h
  case h_2 => cases h
  rename_i i k n k' m hi hl hc'
  split at h
  case h_2 => cases h
  rename_i elem hund
  split at h
  case h_2 => cases h
  rename_i ei z hei hz
  obtain ⟨h1, h2⟩ := whenB_some h
  cases h2
  simp only [Bool.and_eq_true] at h1
  obtain ⟨⟨⟨⟨⟨⟨⟨⟨q1, q2⟩, q3⟩, q4⟩, q5⟩, q6⟩, q7⟩, q8⟩, q9⟩ := h1
  have hlen := Nat.eq_of_beq_eq_true q1
  have hpos : 0 < ei.size := by simpa using q2
  have hnm := IE.beq_eq q3
  have hk := IntKind.beq_eq q8
  subst hnm hk
  have h0 := nonneg_sound hps q4
  have hm := leqK_sound hps q5
  rw [most_den] at hm
  have hby := Nat.le_of_ble_eq_true q6
  obtain ⟨v, hv, hc⟩ := zeroS_sound (ρ := ρ) hty hz
  have e1 := hf l (by simp [Op.operands]) _ hl
  have e2 := hf c (by simp [Op.operands]) _ hc'
  simp only [SV.den] at e1 e2
  have hnb : n.bd S.next := by have := opnd_bd hb.tm hl; simpa only [SV.bd] using this
  obtain ⟨info, hti, _, hbytes, _⟩ := run_typeInfo (hty _ _ hei) w
  have hw1 := wrap_small h0 hm
  have hzne : denL ρ z ≠ [] := fun e => by
    have := congrArg List.length e
    rw [denL_length, hlen] at this
    simp at this; omega
  generalize hN : (n.den ρ).toNat = N
  have hnN : n.den ρ = (N : Int) := by omega
  have hmul : ei.bytes * N ≤ 1000000000000 := Nat.le_trans (Nat.mul_le_mul hby (by omega : N ≤ 1000000)) (by decide)
  have hmul' : ((ei.bytes : Int) * (N : Int)) ≤ 1000000000000 := by rw [← Int.natCast_mul]; generalize ei.bytes * N = q at *; omega
  generalize hL : (List.replicate N (denL ρ z)).flatten = L
  have hrow : L.length = N * ei.size := by rw [← hL, rep_length, denL_length, hlen]
  have hag := withKIR_agree ρ S.next w.heap.size 0 L
  have hn2 : n.den (ρ.withKIR S.next w.heap.size 0 L) = (N : Int) := by rw [← IE.den_congr hag n hnb]; exact hnN
  have hcame := came_arr (C := 0) (l := L) hb hps hb.hp hh (c := .arr elem ei.size (shOf z) S.next n n) (q := [.rep S.next n z]) (o := .cells L.toArray elem (0, 0))
    ⟨[], by rw [withKIR_r, hn2]; exact hrow, by
      rw [withKIR_r, ← hL]
      refine fits_rep hzne ?_ (fitsS_sound hps q9) _
      rw [denL_length]; simp [shOf], by rw [withKIR_r, hn2]; simpa using hrow, by rw [withKIR_r, withKIR_k, List.append_nil]⟩
    ⟨Nat.lt_succ_self _, IE.bd_mono (Nat.le_succ _) _ hnb, IE.bd_mono (Nat.le_succ _) _ hnb⟩
    (fun p hp => by
      simp only [List.mem_singleton] at hp
      subst hp
      show (ρ.withKIR S.next w.heap.size 0 L).r S.next = (List.replicate (n.den (ρ.withKIR S.next w.heap.size 0 L)).toNat (denL (ρ.withKIR S.next w.heap.size 0 L) z)).flatten
      rw [withKIR_r, hn2, ← denL_congr hag z (zeroS_bd hz), ← hL]; rfl)
    (fun p hp => by
      simp only [List.mem_singleton] at hp
      subst hp
      exact ⟨Nat.lt_succ_self _, IE.bd_mono (Nat.le_succ _) _ hnb, bdL_mono (Nat.le_succ _) _ (zeroS_bd hz)⟩)
  refine ⟨.value (.slice (some ⟨w.heap.size, 0, none⟩) N N), { w with heap := w.heap.push (.cells L.toArray elem (0, 0)) }, _, ?_, hcame.came (r := some (.slice ⟨S.next, 0, []⟩ n n)) ⟨?_, ?_⟩⟩
  · unfold execOp
    simp only [hop, e1, e2, Instr.makeSlice, Sem.run_bind, run_underlying' (hty _ _ hi), Result.andThen_ok, hund, asInt, asIntOf, Sem.run_pure, hti, hbytes]
    rw [hw1]
    simp only [hnN]
    have c1 : decide ((ei.bytes : Int) * (N : Int) > 2 ^ 48) = false := decide_eq_false (by omega)
    have c2 : decide ((N : Int) < 0) = false := decide_eq_false (by omega)
    have c3 : decide ((N : Int) > (N : Int)) = false := decide_eq_false (by omega)
    simp only [c1, c2, c3, Bool.or_self, Bool.false_eq_true, if_false]
    by_cases hn0 : N * ei.size = 0
    · have h4 : L = [] := List.eq_nil_of_length_eq_zero (by rw [hrow, hn0])
      subst h4
      simp only [Sem.run_bind, run_askRoom, Result.andThen_ok, run_sizeOf (hty _ _ hei), Int.toNat_natCast, if_pos hn0, Sem.run_pure]
      rw [hn0]
      have hr0 : ∀ g : Nat → Value, (Array.range 0).map g = #[] := fun g => by apply Array.ext_getElem?; intro i; simp
      simp only [hr0]
      simp [newRow]
    · have h4 := range_rep (denL ρ z) hzne N (N * ei.size) (by rw [denL_length, hlen])
      rw [hL] at h4
      simp only [Sem.run_bind, run_askRoom, Result.andThen_ok, run_sizeOf (hty _ _ hei), Int.toNat_natCast, if_neg hn0, Sem.run_pure, hv, hc, h4]
      simp [newRow]
  · simp only [SV.den, SA.den, dynDen, hn2, withKIR_k]; rfl
  · simp only [SV.bd]; exact ⟨⟨Nat.lt_succ_self _, fun p h => by cases h⟩, IE.bd_mono (Nat.le_succ _) _ hnb, IE.bd_mono (Nat.le_succ _) _ hnb⟩

theorem whole_cell {b : Nat} {l rest : List Value} {e : Nat} (h : w.heap[b]? = some (.cells (l ++ rest).toArray e (0, 0))) : ∀ j v, l[j]? = some v → w.cell? ((⟨b, 0, none⟩ : Addr).add j) = some v := fun j v hv => by
  rw [add_zero_addr, cell_of_block h, List.getElem?_toArray, List.getElem?_append_left (List.getElem?_eq_some_iff.1 hv).1]
  exact hv

/-- A new row behind a draw. -/
theorem came_grown {S : SS} (hb : S.Bd) (hps : holds I ρ S.path) {H : Tr Ch} (hH : HBd S.next H) (hh : HSat I ρ F H w hp) {e size C : Nat} {sh : List SK} {rr : Nat} {n : IE} {q : List PI} {l l9 rest : List Value}
    (hn : n.bd S.next) (hrr : rr < S.next + 1) (hl : (ρ.withKIR S.next w.heap.size (Int.ofNat C) l9).r rr = l) (h1 : l.length = (n.den ρ).toNat * size) (h2 : Fits sh l) (h3 : l.length + rest.length = C * size)
    (hq : ∀ p ∈ q, p.holds I (ρ.withKIR S.next w.heap.size (Int.ofNat C) l9)) (hqb : ∀ p ∈ q, p.bd (S.next + 1)) :
    Came I F ρ S (some (.slice ⟨S.next, 0, []⟩ n (.var S.next))) { S with hp := H.set S.next (.arr e size sh rr n (.var S.next)), path := q ++ S.path, next := S.next + 1 }
      (.value (.slice (some ⟨w.heap.size, 0, none⟩) (n.den ρ).toNat C)) (w.drew.alloc (.cells (l ++ rest).toArray e (0, 0))) (ρ.withKIR S.next w.heap.size (Int.ofNat C) l9) := by
  have hag := withKIR_agree ρ S.next w.heap.size (Int.ofNat C) l9
  have hC : ((ρ.withKIR S.next w.heap.size (Int.ofNat C) l9).i S.next).toNat = C := by rw [withKIR_i]; rfl
  have hcame := came_arr (w := { w with drawn := w.drawn + 1 }) (C := Int.ofNat C) (l := l9) hb hps hH (hh.drew (w.drawn + 1)) (c := .arr e size sh rr n (.var S.next)) (q := q) (o := .cells (l ++ rest).toArray e (0, 0))
    ⟨rest, by
      show ((ρ.withKIR S.next w.heap.size (Int.ofNat C) l9).r rr).length = _
      rw [hl, ← IE.den_congr hag n hn]; exact h1, by
      show Fits sh ((ρ.withKIR S.next w.heap.size (Int.ofNat C) l9).r rr)
      rw [hl]; exact h2, by
      show ((ρ.withKIR S.next w.heap.size (Int.ofNat C) l9).r rr).length + _ = ((ρ.withKIR S.next w.heap.size (Int.ofNat C) l9).i S.next).toNat * _
      rw [hl, hC]; exact h3, by
      show single _ _ = single ((ρ.withKIR S.next w.heap.size (Int.ofNat C) l9).k S.next) (.cells ((ρ.withKIR S.next w.heap.size (Int.ofNat C) l9).r rr ++ _).toArray e (0, 0))
      rw [hl, withKIR_k]⟩
    ⟨hrr, IE.bd_mono (Nat.le_succ _) _ hn, Nat.lt_succ_self _⟩ hq hqb
  refine hcame.came (r := some (.slice ⟨S.next, 0, []⟩ n (.var S.next))) ⟨?_, ?_⟩
  · show Next.value (.slice (some ⟨w.heap.size, 0, none⟩) _ _) = Next.value ((SV.slice ⟨S.next, 0, []⟩ n (.var S.next)).den (ρ.withKIR S.next w.heap.size (Int.ofNat C) l9))
    simp only [SV.den, SA.den, dynDen, IE.den, ← IE.den_congr hag n hn, hC, withKIR_k]
  · simp only [SV.bd]; exact ⟨⟨Nat.lt_succ_self _, fun p h => by cases h⟩, IE.bd_mono (Nat.le_succ _) _ hn, Nat.lt_succ_self _⟩

theorem cloneA_sound {S S' : SS} (hb : S.Bd) (hps : holds I ρ S.path) (hh : HSat I ρ F S.hp w hp) {e : Nat} {ei : TI} {b : SA} {n yc : IE} {r : Option SV} (h : cloneA S e ei b n = some (r, S'))
    {i : TypeInfo} {zv : Value} {z : List SV} (hsz : i.size = ei.size) (hbt : i.bytes = ei.bytes) (hby : ei.bytes ≤ 1000000) (hzl : z.length = ei.size) (hzc : zv.cells = (denL ρ z).toArray) {f : Value → Value → Sem Value} {sv : Value}
    (hrun : ∀ news : List Value, news.length = (n.den ρ).toNat * i.size → (∀ j v, news[j]? = some v → w.cell? ((b.den ρ).add j) = some v) → 0 < (n.den ρ).toNat → ((n.den ρ).toNat : Int) ≤ 9223372036854775807 → (n.den ρ).toNat * i.bytes ≤ 140737488355328 →
      (f sv (.slice (some (b.den ρ)) (n.den ρ).toNat (yc.den ρ).toNat)).run P w = .ok (.slice (some ⟨w.heap.size, 0, none⟩) (n.den ρ).toNat (grownCap w (n.den ρ).toNat 0 e))
        (w.drew.alloc (.cells (news.toArray ++ Builtin.zeroCells zv.cells (grownCap w (n.den ρ).toNat 0 e - (n.den ρ).toNat)) e))) :
    ∃ x w' ρ', (f sv (.slice (some (b.den ρ)) (n.den ρ).toNat (yc.den ρ).toNat)).run P w = .ok x w' ∧ Came I F ρ S r S' (.value x) w' ρ' := by
  unfold cloneA at h
  split at h
  case h_2 => cases h
  rename_i e' size sh r0 len cap hwh
  obtain ⟨hc2, hw9⟩ := whenB_some h
  cases hw9
  simp only [Bool.and_eq_true] at hc2
  obtain ⟨⟨⟨q1, q2⟩, q3⟩, q4⟩ := hc2
  have q1 := Nat.eq_of_beq_eq_true q1
  have q2 := Nat.eq_of_beq_eq_true q2
  subst q1 q2
  have q3 := ltK_sound hps q3
  have q4 := leqK_sound hps q4
  rw [most_den] at q4
  have q3 : 0 < n.den ρ := q3
  obtain ⟨hnl, hk, had, hrb, hlb, hcb, hbb, rest, g1, g2, g3, g4, g5⟩ := wholeS_sound hb hh hwh
  subst hnl
  have hbytes : (n.den ρ).toNat * i.bytes ≤ 140737488355328 := by
    have : (n.den ρ).toNat * i.bytes ≤ 1000000 * 1000000 := Nat.mul_le_mul (by omega) (by rw [hbt]; exact hby)
    omega
  have hr := hrun (ρ.r r0) (by rw [g1, hsz]) (by rw [had]; exact whole_cell g5) (by omega) (by omega) hbytes
  rw [arr_app] at hr
  have hge := grownCap_ge w (n.den ρ).toNat 0 e
  refine ⟨_, _, _, hr, came_grown (l := ρ.r r0) (l9 := []) (q := []) hb hps hb.hp hh hlb (Nat.lt_succ_of_lt hrb) ((withKIR_agree ρ S.next _ _ _).r r0 hrb).symm g1 g2 ?_ (fun p hp => by cases hp) (fun p hp => by cases hp)⟩
  rw [zero_size hzc, hzl, g1, ← Nat.add_mul]
  congr 1; omega

theorem appRow_sound {S S' : SS} (hb : S.Bd) (hps : holds I ρ S.path) (hh : HSat I ρ F S.hp w hp) {e t oty m : Nat} {ei : TI} {a b : SA} {n c yc : IE} {r : Option SV} (h : appRow S e ei a n c b m = some (r, S')) (hbb : b.bd S.next)
    {i : TypeInfo} {zv : Value} {z : List SV} (hu : P.underlying t = some (.slice e)) (hi : P.info? e = some i) (hz : i.zero = some zv) (hsz : i.size = ei.size) (hbt : i.bytes = ei.bytes) (hby : ei.bytes ≤ 1000000) (hzl : z.length = ei.size) (hzc : zv.cells = (denL ρ z).toArray) :
    ∃ x w' ρ', (Builtin.append_ #[t, t] oty #[.slice (some (a.den ρ)) (n.den ρ).toNat (c.den ρ).toNat, .slice (some (b.den ρ)) m (yc.den ρ).toNat]).run P w = .ok x w' ∧ Came I F ρ S r S' (.value x) w' ρ' := by
  unfold appRow at h
  split at h
  case h_2 => cases h
  rename_i e' size sh r0 len cap vs hwh hvs
  obtain ⟨hc2, h9⟩ := whenB_some h
  cases h9
  simp only [Bool.and_eq_true] at hc2
  obtain ⟨⟨⟨⟨⟨⟨⟨⟨⟨q1, q2⟩, q3⟩, q4⟩, q5⟩, q6⟩, q7⟩, q8⟩, q9⟩, q10⟩ := hc2
  have q1 := Nat.eq_of_beq_eq_true q1
  have q2 := Nat.eq_of_beq_eq_true q2
  subst q1 q2
  have q3 := IE.beq_eq q3
  subst q3
  have q4 := nonneg_sound hps q4
  have q5 := leqK_sound hps q5
  rw [most_den] at q5
  have q6 := Nat.le_of_ble_eq_true q6
  have q7 : 0 < m := by simpa using q7
  have q8 := Nat.eq_of_beq_eq_true q8
  obtain ⟨hnl, hk, had, hrb, hlb, hcb, hab, rest, g1, g2, g3, g4, g5⟩ := wholeS_sound hb hh hwh
  subst hnl
  obtain ⟨hvl, hvc⟩ := ld_cells hh hps hvs
  have hvb : bdL S.next vs := ldCells_bd hb.hp hvs hbb
  rw [← hsz] at *
  have hone : ∀ v ∈ denL ρ vs, v.oneCell' = true := fun v hv => by
    rw [denL_eq] at hv
    obtain ⟨u, hu', rfl⟩ := List.mem_map.1 hv
    exact SV.one_den ρ (allOne_iff.1 q10 u hu')
  have hfit : Fits sh (ρ.r r0 ++ denL ρ vs) := fits_append g2 (by rw [g1, Nat.mul_mod, q8]; simp) (fitsS_sound hps q9)
  have hlen : (ρ.r r0 ++ denL ρ vs).length = ((n.den ρ).toNat + m) * i.size := by rw [List.length_append, g1, hvl, Nat.add_mul]
  have hadd : ((addN n m).den ρ).toNat = (n.den ρ).toNat + m := by rw [addN_den]; omega
  have hnb := addN_bd hlb m
  have hbytes : ((n.den ρ).toNat + m) * i.bytes ≤ 140737488355328 := by
    have : ((n.den ρ).toNat + m) * i.bytes ≤ 2000000 * 1000000 := Nat.mul_le_mul (by omega) (by rw [hbt]; exact hby)
    omega
  have hqb : ∀ p ∈ [PI.app S.next r0 vs], p.bd (S.next + 1) := fun p hp => by
    simp only [List.mem_singleton] at hp
    subst hp
    exact ⟨Nat.lt_succ_self _, Nat.lt_succ_of_lt hrb, bdL_mono (Nat.le_succ _) _ hvb⟩
  have hqh : ∀ (k : Nat) (C : Int), ∀ p ∈ [PI.app S.next r0 vs], p.holds I (ρ.withKIR S.next k C (ρ.r r0 ++ denL ρ vs)) := fun k C p hp => by
    simp only [List.mem_singleton] at hp
    subst hp
    have hag := withKIR_agree ρ S.next k C (ρ.r r0 ++ denL ρ vs)
    show (ρ.withKIR S.next k C (ρ.r r0 ++ denL ρ vs)).r S.next = (ρ.withKIR S.next k C (ρ.r r0 ++ denL ρ vs)).r r0 ++ denL (ρ.withKIR S.next k C (ρ.r r0 ++ denL ρ vs)) vs
    rw [withKIR_r, ← hag.r r0 hrb, ← denL_congr hag vs hvb]
  by_cases hroom : (n.den ρ).toNat + m ≤ (c.den ρ).toNat
  · have hmul : (n.den ρ).toNat * i.size + m * i.size ≤ (c.den ρ).toNat * i.size := by rw [← Nat.add_mul]; exact Nat.mul_le_mul_right _ hroom
    obtain ⟨w', hr, hbut, hw'⟩ := run_storeCells (P := P) (denL ρ vs) w (ρ.k a.blk) ((n.den ρ).toNat * i.size) 0 (ρ.r r0 ++ rest) e g5 (by rw [List.length_append, g3, hvl]; omega) hone
    rw [Nat.add_zero] at hw'
    have hcells : (ρ.r r0 ++ rest).take ((n.den ρ).toNat * i.size) ++ denL ρ vs ++ (ρ.r r0 ++ rest).drop ((n.den ρ).toNat * i.size + (denL ρ vs).length) = (ρ.r r0 ++ denL ρ vs) ++ rest.drop (m * i.size) := by
      rw [hvl, ← g1, List.take_left', List.drop_append]
      · simp
      · rfl
    rw [hcells] at hw'
    have hag := withKIR_agree ρ S.next (ρ.k a.blk) (c.den ρ) (ρ.r r0 ++ denL ρ vs)
    have hcap : ((ρ.withKIR S.next (ρ.k a.blk) (c.den ρ) (ρ.r r0 ++ denL ρ vs)).i S.next).toNat = (c.den ρ).toNat := by rw [withKIR_i]
    have s1 : ((ρ.withKIR S.next (ρ.k a.blk) (c.den ρ) (ρ.r r0 ++ denL ρ vs)).r S.next).length = ((addN n m).den (ρ.withKIR S.next (ρ.k a.blk) (c.den ρ) (ρ.r r0 ++ denL ρ vs))).toNat * i.size := by
      rw [withKIR_r, ← IE.den_congr hag (addN n m) hnb, hadd]; exact hlen
    have s3 : ((ρ.withKIR S.next (ρ.k a.blk) (c.den ρ) (ρ.r r0 ++ denL ρ vs)).r S.next).length + (rest.drop (m * i.size)).length = ((IE.var S.next).den (ρ.withKIR S.next (ρ.k a.blk) (c.den ρ) (ρ.r r0 ++ denL ρ vs))).toNat * i.size := by
      rw [withKIR_r, hlen, List.length_drop]
      show _ = ((ρ.withKIR S.next (ρ.k a.blk) (c.den ρ) (ρ.r r0 ++ denL ρ vs)).i S.next).toNat * i.size
      rw [hcap]
      have h7 : rest.length = (c.den ρ).toNat * i.size - (n.den ρ).toNat * i.size := by omega
      rw [h7, Nat.add_mul]; omega
    have s2 : Fits sh ((ρ.withKIR S.next (ρ.k a.blk) (c.den ρ) (ρ.r r0 ++ denL ρ vs)).r S.next) := by rw [withKIR_r]; exact hfit
    have s4 : single (ρ.k a.blk) (.cells ((ρ.r r0 ++ denL ρ vs) ++ rest.drop (m * i.size)).toArray e (0, 0)) = single ((ρ.withKIR S.next (ρ.k a.blk) (c.den ρ) (ρ.r r0 ++ denL ρ vs)).k a.blk) (.cells ((ρ.withKIR S.next (ρ.k a.blk) (c.den ρ) (ρ.r r0 ++ denL ρ vs)).r S.next ++ rest.drop (m * i.size)).toArray e (0, 0)) := by
      rw [withKIR_r, ← hag.k a.blk hab]
    have s5 : single (ρ.k a.blk) (.cells ((ρ.r r0 ++ denL ρ vs) ++ rest.drop (m * i.size)).toArray e (0, 0)) = single ((ρ.withKIR S.next (ρ.k a.blk) (c.den ρ) (ρ.r r0 ++ denL ρ vs)).k S.next) (.cells ((ρ.withKIR S.next (ρ.k a.blk) (c.den ρ) (ρ.r r0 ++ denL ρ vs)).r S.next ++ rest.drop (m * i.size)).toArray e (0, 0)) := by
      rw [withKIR_r, withKIR_k]
    have hturn := (hh.congr hag hb.hp).turn hk g4 (d := .arr e i.size sh S.next (addN n m) (.var S.next)) (o' := .cells ((ρ.r r0 ++ denL ρ vs) ++ rest.drop (m * i.size)).toArray e (0, 0)) ⟨_, s1, s2, s3, s4⟩ hbut.other hw' hbut.size hbut.os hbut.output hbut.tape
    have hmove := hturn.move (k := a.blk) (n := S.next) (b := ρ.k a.blk) (c := .arr e i.size sh S.next (addN n m) (.var S.next)) (d := .arr e i.size sh S.next (addN n m) (.var S.next)) (by rw [Tr.get_set, if_pos rfl]) (if_pos rfl) ⟨_, s1, s2, s3, s5⟩
    have hst : (storeCells ((a.den ρ).add ((n.den ρ).toNat * i.size)) (denL ρ vs)).run P w = .ok () w' := by
      rw [had, add_zero_addr]; exact hr
    have hcA : CameA I F ρ S { S with hp := (S.hp.del a.blk).set S.next (.arr e i.size sh S.next (addN n m) (.var S.next)), path := .app S.next r0 vs :: S.path, next := S.next + 1 } w' (ρ.withKIR S.next (ρ.k a.blk) (c.den ρ) (ρ.r r0 ++ denL ρ vs)) := by
      refine ⟨hag, ⟨_, hmove.sameGet ?_⟩, ?_, holds_append (hqh _ _) (holds_congr hag hb.path hps), rfl, rfl, rfl, rfl, Nat.le_succ _⟩
      · intro j
        simp only [Tr.get_set, Tr.get_del]
        split
        · rfl
        · split <;> simp_all
      · exact Bd_with hb (q := [.app S.next r0 vs]) (((hb.hp.del _).mono (Nat.le_succ _)).set (c := .arr e i.size sh S.next (addN n m) (.var S.next)) (Nat.lt_succ_self _) ⟨Nat.lt_succ_self _, IE.bd_mono (Nat.le_succ _) _ hnb, Nat.lt_succ_self _⟩) hqb
    refine ⟨_, _, _, run_append_in hu hi hroom hvl hvc hst, hcA.came (r := some (.slice ⟨S.next, 0, []⟩ (addN n m) (.var S.next))) ⟨?_, ?_⟩⟩
    · rw [had]
      show Next.value _ = Next.value ((SV.slice ⟨S.next, 0, []⟩ (addN n m) (.var S.next)).den (ρ.withKIR S.next (ρ.k a.blk) (c.den ρ) (ρ.r r0 ++ denL ρ vs)))
      simp only [SV.den, SA.den, dynDen, IE.den, ← IE.den_congr hag (addN n m) hnb, hadd, hcap, withKIR_k]
    · simp only [SV.bd]; exact ⟨⟨Nat.lt_succ_self _, fun p h => by cases h⟩, IE.bd_mono (Nat.le_succ _) _ hnb, Nat.lt_succ_self _⟩
  · have hlt : (c.den ρ).toNat < (n.den ρ).toNat + m := by omega
    have hr := run_append_grow (P := P) w t oty e i zv hu hi hz (a.den ρ) (n.den ρ).toNat (c.den ρ).toNat (ρ.r r0) g1 (by rw [had]; exact whole_cell g5) (b.den ρ) m (yc.den ρ).toNat (denL ρ vs) hvl hvc hlt (by omega) (growslice_fits hlt hbytes)
    rw [arr_app2] at hr
    have hge := grownCap_ge w ((n.den ρ).toNat + m) (c.den ρ).toNat e
    have hcame := came_grown (C := grownCap w ((n.den ρ).toNat + m) (c.den ρ).toNat e) (l := ρ.r r0 ++ denL ρ vs) (l9 := ρ.r r0 ++ denL ρ vs) (q := [.app S.next r0 vs]) (e := e) (size := i.size) (sh := sh) (rr := S.next) (n := addN n m)
      (rest := (Builtin.zeroCells zv.cells (grownCap w ((n.den ρ).toNat + m) (c.den ρ).toNat e - ((n.den ρ).toNat + m))).toList) hb hps (hb.hp.del a.blk) (hh.del a.blk) hnb (Nat.lt_succ_self _) (withKIR_r _ _ _ _ _) (by rw [hadd]; exact hlen) hfit (by
        rw [zero_size hzc, hzl, hlen, ← Nat.add_mul]
        congr 1; omega) (hqh _ _) hqb
    rw [hadd] at hcame
    exact ⟨_, _, _, hr, hcame⟩

theorem appA_sound {ty : Nat → Option TI} (hty : ∀ t i, ty t = some i → TyOk P t i) {S S' : SS} (hb : S.Bd) (hps : holds I ρ S.path) (hh : HSat I ρ F S.hp w hp) {o : Oper} {r : Option SV} {s x : Operand} {st xt : Nat}
    (hop : o.op = .call { callee := .builtin .append, args := ⟨[s, x]⟩, argTypes := ⟨[st, xt]⟩ }) (h : appA ty S s x st xt = some (r, S')) {f : Operand → Value} (hf : ∀ y ∈ o.op.operands, ∀ u, opnd S.tm y = some u → f y = u.den ρ) :
    ∃ nx w' ρ', (execOp f o).run P w = .ok nx w' ∧ Came I F ρ S r S' nx w' ρ' := by
  have hf2 := hf
  rw [hop] at hf2
  unfold appA at h
  split at h
  case h_2 => cases h
  rename_i e ei z sv xv hel hs hx
  obtain ⟨hc, h9⟩ := whenB_some h
  clear h
  have hst := Nat.eq_of_beq_eq_true hc
  subst hst
  have e1 := hf2 s (by simp [Op.operands, Call.operands]) _ hs
  have e2 := hf2 x (by simp [Op.operands, Call.operands]) _ hx
  obtain ⟨hu, hzl, hpos, hby, i, zv, hi, hsz, hbt, hz, hzc⟩ := elemOf_sound (ρ := ρ) hty hel
  have hxb := opnd_bd hb.tm hx
  split at h9
  · simp only [SV.bd] at hxb
    obtain ⟨x', w', ρ', hr, hcame⟩ := appRow_sound (oty := o.type) hb hps hh h9 hxb.1 hu hi hz hsz hbt hby hzl hzc
    exact ⟨_, w', ρ', exec_append hop (by rw [e1, e2, slice_den, slice_den]; exact hr), hcame⟩
  · rename_i a0 b n yc _
    obtain ⟨x', w', ρ', hr, hcame⟩ := cloneA_sound (P := P) (yc := yc) (sv := .slice (some (a0.den ρ)) 0 0) (f := fun u v => Builtin.append_ #[st, st] o.type #[u, v]) hb hps hh h9 hsz hbt hby hzl hzc (fun news h1 h2 h3 h4 h5 => by
      have h6 := run_append_grow (P := P) w st o.type e i zv hu hi hz (a0.den ρ) 0 0 [] (by simp) (fun j v hv => by simp at hv) (b.den ρ) (n.den ρ).toNat (yc.den ρ).toNat news h1 h2 (by omega) (by omega) (growslice_fits (by omega) (by rw [Nat.zero_add]; exact h5))
      rw [Nat.zero_add] at h6
      simpa using h6)
    exact ⟨_, w', ρ', exec_append hop (by rw [e1, e2, slice_den, slice_den]; exact hr), hcame⟩
  · rename_i b n yc
    obtain ⟨x', w', ρ', hr, hcame⟩ := cloneA_sound (P := P) (yc := yc) (sv := .slice none 0 0) (f := fun u v => Builtin.append_ #[st, st] o.type #[u, v]) hb hps hh h9 hsz hbt hby hzl hzc (fun news h1 h2 h3 h4 h5 =>
      run_append_nil (P := P) w st o.type e i zv hu hi hz (b.den ρ) (n.den ρ).toNat (yc.den ρ).toNat news h1 h2 h3 h4 (by omega))
    exact ⟨_, w', ρ', exec_append hop (by rw [e1, e2, slice_den]; exact hr), hcame⟩
  · cases h9

theorem copyA_sound {ty : Nat → Option TI} (hty : ∀ t i, ty t = some i → TyOk P t i) {S S' : SS} (hb : S.Bd) (hps : holds I ρ S.path) (hh : HSat I ρ F S.hp w hp) {o : Oper} {r : Option SV} {d x : Operand} {dt xt : Nat}
    (hop : o.op = .call { callee := .builtin .copy, args := ⟨[d, x]⟩, argTypes := ⟨[dt, xt]⟩ }) (h : copyA ty S d x dt = some (r, S')) {f : Operand → Value} (hf : ∀ y ∈ o.op.operands, ∀ u, opnd S.tm y = some u → f y = u.den ρ) :
    ∃ nx w' ρ', (execOp f o).run P w = .ok nx w' ∧ Came I F ρ S r S' nx w' ρ' := by
  have hf2 := hf
  rw [hop] at hf2
  unfold copyA at h
  split at h
  case h_2 => cases h
  rename_i e ei z a n c b m yc hel hd hx
  have e1 := hf2 d (by simp [Op.operands, Call.operands]) _ hd
  have e2 := hf2 x (by simp [Op.operands, Call.operands]) _ hx
  obtain ⟨hu, hzl, hpos, hby, i, zv, hi, hsz, hbt, hz, hzc⟩ := elemOf_sound (ρ := ρ) hty hel
  have hdb := opnd_bd hb.tm hd
  have hxb := opnd_bd hb.tm hx
  simp only [SV.bd] at hdb hxb
  split at h
  · rename_i rr hall
    cases h
    unfold copyAll at hall
    split at hall
    case h_2 => cases hall
    rename_i e3 size sh r1 len1 cap1 e4 size' sh' r2 len2 cap2 hw1 hw2
    obtain ⟨hc, h⟩ := whenB_some hall
    cases h
    simp only [Bool.and_eq_true] at hc
    obtain ⟨⟨⟨⟨q1, q2⟩, q3⟩, q4⟩, q5⟩ := hc
    have q1 := Nat.eq_of_beq_eq_true q1
    have q2 := Nat.eq_of_beq_eq_true q2
    subst q1 q2
    have q3 := IE.beq_eq q3
    subst q3
    have q4 := nonneg_sound hps q4
    have q5 := skBeq_eq q5
    subst q5
    obtain ⟨hn1, hk1, had1, hr1, hl1, hc1, hb1, rest1, a1, a2, a3, a4, a5⟩ := wholeS_sound hb hh hw1
    obtain ⟨hn2, hk2, had2, hr2, hl2, hc2, hb2, rest2, b1, b2, b3, b4, b5⟩ := wholeS_sound hb hh hw2
    subst hn1
    rw [← hn2] at b1
    have hf1 := run_firstCells_some (P := P) w i.size (n.den ρ).toNat (b.den ρ) (n.den ρ).toNat (yc.den ρ).toNat (ρ.r r2) (by rw [b1, hsz]) (by rw [had2]; exact whole_cell b5)
    obtain ⟨w', hr, hbut, hw'⟩ := run_storeCells (P := P) (ρ.r r2) w (ρ.k a.blk) 0 0 (ρ.r r1 ++ rest1) e3 a5 (by rw [List.length_append, a1, b1]; omega) (fits_one b2)
    have hcells : (ρ.r r1 ++ rest1).take (0 + 0) ++ ρ.r r2 ++ (ρ.r r1 ++ rest1).drop (0 + 0 + (ρ.r r2).length) = ρ.r r2 ++ rest1 := by
      have hl : (ρ.r r2).length = (ρ.r r1).length := by rw [a1, b1]
      rw [hl]; simp
    rw [hcells] at hw'
    have hst : (storeCells (a.den ρ) (ρ.r r2)).run P w = .ok () w' := by rw [had1]; exact hr
    have hcA : CameA I F ρ S { S with hp := S.hp.set a.blk (.arr e3 ei.size sh r2 n cap1) } w' ρ := ⟨Env.Agree.refl _ _, ⟨_, hh.turn hk1 a4 (d := .arr e3 ei.size sh r2 n cap1) (o' := .cells (ρ.r r2 ++ rest1).toArray e3 (0, 0))
      ⟨rest1, b1, b2, by rw [b1, ← a1]; exact a3, rfl⟩ hbut.other hw' hbut.size hbut.os hbut.output hbut.tape⟩, ⟨hb.tm, hb.hp.set (c := .arr e3 ei.size sh r2 n cap1) hb1 ⟨hr2, hl1, hc1⟩, hb.path, hb.df, hb.ro⟩, hps, rfl, rfl, rfl, rfl, Nat.le_refl _⟩
    refine ⟨_, _, ρ, exec_copy hop (v := .int .i64 (n.den ρ)) (w' := w') ?_, hcA.came (r := some (.int .i64 n)) ⟨?_, ?_⟩⟩
    · rw [e1, e2, slice_den, slice_den]
      have hcast : (((n.den ρ).toNat : Nat) : Int) = n.den ρ := Int.toNat_of_nonneg q4
      simp [Builtin.copy_, run_underlying hu, sizeOf, typeInfo, hi, Builtin.lenOf, hf1, hst, goInt]
      exact Int.max_eq_left q4
    · simp only [SV.den]
    · simp only [SV.bd]; exact hl1
  · split at h
    case h_2 => cases h
    rename_i k _
    unfold copyLit at h
    split at h
    case h_2 => cases h
    rename_i vs hvs
    obtain ⟨hc, h⟩ := whenB_some h
    split at h
    case h_2 => cases h
    rename_i S1 hS
    cases h
    simp only [Bool.and_eq_true] at hc
    have q1 := leqK_sound hps hc.1.1
    have q1 : (k : Int) ≤ n.den ρ := q1
    obtain ⟨hvl, hvc⟩ := ld_cells hh hps hvs
    obtain ⟨w', ρ', hr, hcame⟩ := stArr_sound (P := P) hb hps hh hdb.1 (ldCells_bd hb.hp hvs hxb.1) hS
    have hf1 := run_firstCells_some (P := P) w i.size k (b.den ρ) k (yc.den ρ).toNat (denL ρ vs) (by rw [hvl, hsz]) hvc
    have hk : k ≤ (n.den ρ).toNat := by omega
    refine ⟨_, _, ρ', exec_copy hop (v := .int .i64 k) (w' := w') ?_, hcame.came (r := some (.int .i64 (.lit (.ofNat k)))) ⟨rfl, trivial⟩⟩
    rw [e1, e2, slice_den, slice_den]
    have hd2 : ((IE.lit (.ofNat k)).den ρ).toNat = k := rfl
    rw [hd2]
    generalize (n.den ρ).toNat = N at *
    have hmin : k.min N = k := Nat.min_eq_left hk
    simp [Builtin.copy_, run_underlying hu, sizeOf, typeInfo, hi, Builtin.lenOf, hmin, hf1, hr, goInt]

theorem clearA_sound {ty : Nat → Option TI} (hty : ∀ t i, ty t = some i → TyOk P t i) {S S' : SS} (hb : S.Bd) (hps : holds I ρ S.path) (hh : HSat I ρ F S.hp w hp) {o : Oper} {r : Option SV} {x : Operand} {t : Nat}
    (hop : o.op = .call { callee := .builtin .clear, args := ⟨[x]⟩, argTypes := ⟨[t]⟩ }) (h : clearA ty S x t = some (r, S')) {f : Operand → Value} (hf : ∀ y ∈ o.op.operands, ∀ u, opnd S.tm y = some u → f y = u.den ρ) :
    ∃ nx w' ρ', (execOp f o).run P w = .ok nx w' ∧ Came I F ρ S r S' nx w' ρ' := by
  have hf2 := hf
  rw [hop] at hf2
  unfold clearA at h
  split at h
  case h_2 => cases h
  rename_i e ei z a n c hel hx
  split at h
  case h_2 => cases h
  rename_i e3 size sh r1 len1 cap1 hw1
  obtain ⟨hc, h⟩ := whenB_some h
  cases h
  simp only [Bool.and_eq_true] at hc
  obtain ⟨⟨⟨⟨q1, q2⟩, q3⟩, q4⟩, q5⟩ := hc
  have q1 := Nat.eq_of_beq_eq_true q1
  subst q1
  have q2 := nonneg_sound hps q2
  have q3 := Nat.eq_of_beq_eq_true q3
  have e1 := hf2 x (by simp [Op.operands, Call.operands]) _ hx
  obtain ⟨hu, hzl, hpos, hby, i, zv, hi, hsz, hbt, hz, hzc⟩ := elemOf_sound (ρ := ρ) hty hel
  have hzb : bdL S.next z := by
    unfold elemOf at hel
    split at hel
    case h_2 => cases hel
    split at hel
    case h_2 => cases hel
    split at hel
    case h_2 => cases hel
    rename_i hz0
    have := (whenB_some hel).2
    cases this
    exact zeroS_bd hz0
  obtain ⟨hn1, hk1, had1, hr1, hl1, hc1, hb1, rest1, a1, a2, a3, a4, a5⟩ := wholeS_sound hb hh hw1
  subst hn1
  have hzne : denL ρ z ≠ [] := fun e => by
    have := congrArg List.length e
    rw [denL_length, hzl] at this
    simp at this; omega
  generalize hN : (n.den ρ).toNat = N at *
  generalize hL : (List.replicate N (denL ρ z)).flatten = L
  have hrow : L.length = N * ei.size := by rw [← hL, rep_length, denL_length, hzl]
  have hfits : Fits sh L := by rw [← hL]; exact fits_rep hzne (by rw [denL_length, hzl]; exact q3) (fitsS_sound hps q4) _
  obtain ⟨w', hr, hbut, hw'⟩ := run_storeCells (P := P) L w (ρ.k a.blk) 0 0 (ρ.r r1 ++ rest1) e3 a5 (by rw [List.length_append, a1, hrow]; omega) (fits_one hfits)
  have hcells : (ρ.r r1 ++ rest1).take (0 + 0) ++ L ++ (ρ.r r1 ++ rest1).drop (0 + 0 + L.length) = L ++ rest1 := by
    have hl : L.length = (ρ.r r1).length := by rw [a1, hrow]
    rw [hl]; simp
  rw [hcells] at hw'
  have hst : (storeCells (a.den ρ) L).run P w = .ok () w' := by rw [had1]; exact hr
  have hag := withR_agree ρ S.next L
  have hn2 : (n.den (ρ.withR S.next L)).toNat = N := by rw [← IE.den_congr hag n hl1]; exact hN
  have hcA : CameA I F ρ S { S with hp := S.hp.set a.blk (.arr e3 ei.size sh S.next n cap1), path := .rep S.next n z :: S.path, next := S.next + 1 } w' (ρ.withR S.next L) := by
    refine ⟨hag, ⟨_, (hh.congr hag hb.hp).turn hk1 a4 (d := .arr e3 ei.size sh S.next n cap1) (o' := .cells (L ++ rest1).toArray e3 (0, 0))
      ⟨rest1, by rw [withR_r, hn2]; exact hrow, by rw [withR_r]; exact hfits, by rw [withR_r, ← IE.den_congr hag cap1 hc1, hrow, ← a1]; exact a3, by rw [withR_r]; rfl⟩ hbut.other hw' hbut.size hbut.os hbut.output hbut.tape⟩, ?_, ⟨?_, holds_congr hag hb.path hps⟩, rfl, rfl, rfl, rfl, Nat.le_succ _⟩
    · exact Bd_with hb (q := [.rep S.next n z]) ((hb.hp.mono (Nat.le_succ _)).set (c := .arr e3 ei.size sh S.next n cap1) (Nat.lt_succ_of_lt hb1) ⟨Nat.lt_succ_self _, IE.bd_mono (Nat.le_succ _) _ hl1, IE.bd_mono (Nat.le_succ _) _ hc1⟩)
        (fun q hq => by
          simp only [List.mem_singleton] at hq
          subst hq
          exact ⟨Nat.lt_succ_self _, IE.bd_mono (Nat.le_succ _) _ hl1, bdL_mono (Nat.le_succ _) _ hzb⟩)
    · show (ρ.withR S.next L).r S.next = (List.replicate (n.den (ρ.withR S.next L)).toNat (denL (ρ.withR S.next L) z)).flatten
      rw [withR_r, hn2, ← denL_congr hag z hzb, hL]
  refine ⟨_, _, ρ.withR S.next L, exec_clear hop (v := .tuple #[]) (w' := w') ?_, hcA.came (r := some (.tup [])) ⟨by simp [SV.den, denL], by simp [SV.bd, bdL]⟩⟩
  rw [e1, slice_den, hN]
  by_cases h0 : N = 0
  · subst h0
    have hL0 : L = [] := by rw [← hL]; rfl
    rw [hL0] at hst
    simp only [storeCells, Sem.run_pure, Result.ok.injEq, true_and] at hst
    subst hst
    simp [Builtin.clear_, run_underlying hu]
  · have hzd : (Builtin.zeroCells zv.cells N).toList = L := by rw [zeroCells_den hzc (by omega), repS_den, hL]
    simp [Builtin.clear_, run_underlying hu, zeroValue, typeInfo, hi, hz, hzd, hst, h0]

theorem wrA_sound {ty : Nat → Option TI} (hty : ∀ t i, ty t = some i → TyOk P t i) {S S' : SS} (hb : S.Bd) (hps : holds I ρ S.path) (hh : HSat I ρ F S.hp w hp) {o : Oper} {r : Option SV}
    (h : wrA ty S o.op = some (r, S')) {f : Operand → Value} (hf : ∀ x ∈ o.op.operands, ∀ u, opnd S.tm x = some u → f x = u.den ρ) :
    ∃ nx w' ρ', (execOp f o).run P w = .ok nx w' ∧ Came I F ρ S r S' nx w' ρ' := by
  generalize hop : o.op = op at h
  unfold wrA at h
  split at h
  · exact storeA_sound hty hb hps hh hop h hf
  · exact makeA_sound hty hb hps hh hop h hf
  · exact appA_sound hty hb hps hh hop h hf
  · exact copyA_sound hty hb hps hh hop h hf
  · exact clearA_sound hty hb hps hh hop h hf
  · cases h

theorem wrV_sound {ty : Nat → Option TI} (hty : ∀ t i, ty t = some i → TyOk P t i) : ∀ F : Fr, ∀ (S S' : SS) (o : Oper) (r : Option SV), wrV ty S o.op = some (r, S') → ∀ (ρ : Env U) (w : World) (hp : Nat → PHeap), S.Bd → holds I ρ S.path → HSat I ρ F S.hp w hp →
    ∀ f : Operand → Value, (∀ x ∈ o.op.operands, ∀ u, opnd S.tm x = some u → f x = u.den ρ) →
    (∀ c, o.op ≠ .defer c) ∧ ∃ nx w' ρ', (execOp f o).run P w = .ok nx w' ∧ Came I F ρ S r S' nx w' ρ' := by
  intro F S S' o r h ρ w hp hb hps hh f hf
  unfold wrV orE at h
  split at h
  · rename_i hr
    cases h
    exact wr_sound hty F S S' o r hr ρ w hp hb hps hh f hf
  · refine ⟨fun c e => ?_, wrA_sound hty hb hps hh h hf⟩
    rw [e] at h
    simp [wrA] at h
end
end Go.Vg
