/- Symbolic memory of the engine: chunks by name, what they say of a world, and how loads, stores and new blocks keep it. No condition. -/
import Derived.Test.YtfkjbiigciabpaaGreatVgVal
import Derived.Laws.World
namespace Go.Vg

inductive SX where
  | normal
  | exit (n : Nat)
  | goto (n : Nat)
  | ret
  | bad
  deriving Inhabited

/-- The jump that a round of a range over a function has left. -/
def SX.code : SX → Option Code
  | .exit n => some (.exit n)
  | .goto n => some (.goto n)
  | .ret => some .ret
  | _ => none

/-- What a cell of a row is. -/
inductive SK where
  | int (k : IntKind)
  | bool
  | any
def SK.fits : SK → Value → Prop
  | .int k, v => ∃ n, v = .int k n ∧ k.wrap n = n
  | .bool, v => ∃ b, v = .bool b
  | .any, v => v.oneCell' = true
/-- A row whose cells are of a shape that comes again and again. -/
def Fits (sh : List SK) (l : List Value) : Prop := ∀ i v, l[i]? = some v → ∃ s, sh[i % sh.length]? = some s ∧ s.fits v

inductive Ch where
  | cells (elem : Nat) (cs : List SV)
  | row (elem size : Nat) (cs : List SV) (cap : IE)
  | abs (p : Nat) (ks : List Nat) (is : List IE) (us rs : List Nat) (vs : List SV)
  | arr (elem size : Nat) (sh : List SK) (r : Nat) (len cap : IE)
  | dfr
  | mp (k : IntKind) (es : List (Int × SV × Nat)) (clock : Nat)
  | loop (st : LoopState) (pend : SX) (nt : Nat) (tm : Tr SV) (params : Array Tmp) (assign body : Code) (df : Nat)

inductive PI where
  | cond (b : BE) (w : Bool)
  | fact (p : Nat) (is : List IE) (bs : List BE) (us rs : List Nat) (vs : List SV)
  | upd (r' r : Nat) (p : IE) (vs : List SV)
  | app (r' r : Nat) (vs : List SV)
  | rep (r' : Nat) (n : IE) (vs : List SV)
  | rng (k : IntKind) (e : IE)

structure SS where
  tm : Tr SV
  nt : Nat
  df : List Nat
  hp : Tr Ch
  path : List PI
  next : Nat
  ro : Option Nat

abbrev PHeap := Nat → Option Obj
def single (b : Nat) (o : Obj) : PHeap := fun c => if c = b then some o else none
theorem single_same (b : Nat) (o : Obj) : single b o b = some o := by simp [single]
theorem single_some {b c : Nat} {o o' : Obj} (h : single b o c = some o') : c = b ∧ o' = o := by
  unfold single at h; split at h
  · exact ⟨‹_›, by cases h; rfl⟩
  · cases h

/-- A row with a part put in from a place on. -/
def spliceV (l : List Value) (p : Nat) (vs : List Value) : List Value := l.take p ++ vs ++ l.drop (p + vs.length)

/-- What abstract chunks and facts mean. -/
structure Interp (U : Type) where
  hp : Nat → List Nat → List Int → List U → List (List Value) → List Value → PHeap → Prop
  fc : Nat → List Int → List Bool → List U → List (List Value) → List Value → Prop

/-- What must stay as it lay. -/
structure Fr where
  keep : Nat → Prop
  w0 : World

section
variable {U : Type} (I : Interp U) (ρ : Env U)

def TSat (tm : Tr SV) (nt : Nat) (tmps : Array Value) : Prop :=
  tmps.size = nt ∧ ∀ t v, tm.get t = some v → tmps[t]? = some (v.den ρ)

/-- The entries of a map. -/
def denM (k : IntKind) : List (Int × SV × Nat) → List MapEntry
  | [] => []
  | (n, v, b) :: es => { key := .int k n, val := v.den ρ, born := b } :: denM k es

def CSat (n : Nat) : Ch → PHeap → Prop
  | .cells e cs, h => h = single (ρ.k n) (.cells (denL ρ cs).toArray e (0, 0))
  | .row e size cs cap, h => ∃ rest : List Value, cs.length + rest.length = (cap.den ρ).toNat * size ∧ h = single (ρ.k n) (.cells (denL ρ cs ++ rest).toArray e (0, 0))
  | .abs p ks is us rs vs, h => I.hp p (ρ.k n :: ks.map ρ.k) (is.map (IE.den ρ)) (us.map ρ.u) (rs.map ρ.r) (denL ρ vs) h
  | .arr e size sh r len cap, h => ∃ rest : List Value, (ρ.r r).length = (len.den ρ).toNat * size ∧ Fits sh (ρ.r r) ∧ (ρ.r r).length + rest.length = (cap.den ρ).toNat * size ∧
      h = single (ρ.k n) (.cells (ρ.r r ++ rest).toArray e (0, 0))
  | .dfr, h => h = single (ρ.k n) (.deferred (some []))
  | .mp k es clock, h => h = single (ρ.k n) (.map (denM ρ k es).toArray clock)
  | .loop st pend nt tm params assign body df, h => ∃ (fn : FuncId) (tmps : Array Value), TSat ρ tm nt tmps ∧
      h = single (ρ.k n) (.loop { state := st, pending := pend.code, fn, tmps, params, assign, body, defers := ρ.k df })

structure HSat (F : Fr) (H : Tr Ch) (w : World) (hp : Nat → PHeap) : Prop where
  sat : ∀ n c, H.get n = some c → CSat I ρ n c (hp n)
  disj : ∀ n m c d b o o', n ≠ m → H.get n = some c → H.get m = some d → hp n b = some o → hp m b = some o' → False
  inw : ∀ n c b o, H.get n = some c → hp n b = some o → w.heap[b]? = some o
  off : ∀ n c b o, H.get n = some c → hp n b = some o → ¬ F.keep b
  frame : ∀ b, F.keep b → w.heap[b]? = F.w0.heap[b]? ∧ b < w.heap.size
  grow : F.w0.heap.size ≤ w.heap.size
  os : w.os = F.w0.os
  output : w.output = F.w0.output
  tape : w.tape = F.w0.tape

def PI.holds : PI → Prop
  | .cond b w => b.den ρ = w
  | .fact p is bs us rs vs => I.fc p (is.map (IE.den ρ)) (bs.map (BE.den ρ)) (us.map ρ.u) (rs.map ρ.r) (denL ρ vs)
  | .upd r' r p vs => ρ.r r' = spliceV (ρ.r r) (p.den ρ).toNat (denL ρ vs)
  | .app r' r vs => ρ.r r' = ρ.r r ++ denL ρ vs
  | .rep r' n vs => ρ.r r' = (List.replicate (n.den ρ).toNat (denL ρ vs)).flatten
  | .rng k e => k.wrap (e.den ρ) = e.den ρ

def holds : List PI → Prop
  | [] => True
  | p :: ps => p.holds I ρ ∧ holds ps
end

def bdM (n : Nat) : List (Int × SV × Nat) → Prop
  | [] => True
  | (_, v, _) :: es => v.bd n ∧ bdM n es

def Ch.bd (n : Nat) : Ch → Prop
  | .cells _ cs => bdL n cs
  | .row _ _ cs cap => bdL n cs ∧ cap.bd n
  | .abs _ ks is us rs vs => (∀ k ∈ ks, k < n) ∧ (∀ e ∈ is, IE.bd n e) ∧ (∀ u ∈ us, u < n) ∧ (∀ r ∈ rs, r < n) ∧ bdL n vs
  | .arr _ _ _ r len cap => r < n ∧ len.bd n ∧ cap.bd n
  | .dfr => True
  | .mp _ es _ => bdM n es
  | .loop _ _ _ tm _ _ _ df => (∀ t v, tm.get t = some v → v.bd n) ∧ df < n
def PI.bd (n : Nat) : PI → Prop
  | .cond b _ => b.bd n
  | .fact _ is bs us rs vs => (∀ e ∈ is, IE.bd n e) ∧ (∀ e ∈ bs, BE.bd n e) ∧ (∀ u ∈ us, u < n) ∧ (∀ r ∈ rs, r < n) ∧ bdL n vs
  | .upd r' r p vs => r' < n ∧ r < n ∧ p.bd n ∧ bdL n vs
  | .app r' r vs => r' < n ∧ r < n ∧ bdL n vs
  | .rep r' e vs => r' < n ∧ e.bd n ∧ bdL n vs
  | .rng _ e => e.bd n
def TBd (n : Nat) (tm : Tr SV) : Prop := ∀ t v, tm.get t = some v → v.bd n
def HBd (n : Nat) (H : Tr Ch) : Prop := ∀ m c, H.get m = some c → m < n ∧ c.bd n

structure SS.Bd (S : SS) : Prop where
  tm : TBd S.next S.tm
  hp : HBd S.next S.hp
  path : ∀ p ∈ S.path, p.bd S.next
  df : ∀ d ∈ S.df, d < S.next
  ro : ∀ d, S.ro = some d → d < S.next

section
variable {U : Type} {I : Interp U} {n m : Nat} {ρ ρ' : Env U}

theorem bdM_mono (h : n ≤ m) : ∀ es : List (Int × SV × Nat), bdM n es → bdM m es
  | [], _ => trivial
  | (_, v, _) :: es, hb => ⟨SV.bd_mono h v hb.1, bdM_mono h es hb.2⟩
theorem denM_congr (h : Env.Agree n ρ ρ') (k : IntKind) : ∀ es : List (Int × SV × Nat), bdM n es → denM ρ k es = denM ρ' k es
  | [], _ => rfl
  | (_, v, _) :: es, hb => by simp only [denM, SV.den_congr h v hb.1, denM_congr h k es hb.2]

theorem Ch.bd_mono (h : n ≤ m) : ∀ c : Ch, c.bd n → c.bd m
  | .cells _ cs, hb => bdL_mono h cs hb
  | .row _ _ cs cap, hb => ⟨bdL_mono h cs hb.1, IE.bd_mono h cap hb.2⟩
  | .abs _ ks is us rs vs, hb => ⟨fun k hk => Nat.lt_of_lt_of_le (hb.1 k hk) h, fun e he => IE.bd_mono h e (hb.2.1 e he), fun u hu => Nat.lt_of_lt_of_le (hb.2.2.1 u hu) h, fun r hr => Nat.lt_of_lt_of_le (hb.2.2.2.1 r hr) h, bdL_mono h vs hb.2.2.2.2⟩
  | .arr _ _ _ r len cap, hb => ⟨Nat.lt_of_lt_of_le hb.1 h, IE.bd_mono h len hb.2.1, IE.bd_mono h cap hb.2.2⟩
  | .dfr, _ => trivial
  | .mp _ es _, hb => bdM_mono h es hb
  | .loop .., hb => ⟨fun t v hv => SV.bd_mono h v (hb.1 t v hv), Nat.lt_of_lt_of_le hb.2 h⟩
theorem PI.bd_mono (h : n ≤ m) : ∀ p : PI, p.bd n → p.bd m
  | .cond b _, hb => BE.bd_mono h b hb
  | .fact _ is bs us rs vs, hb => ⟨fun e he => IE.bd_mono h e (hb.1 e he), fun e he => BE.bd_mono h e (hb.2.1 e he), fun u hu => Nat.lt_of_lt_of_le (hb.2.2.1 u hu) h, fun r hr => Nat.lt_of_lt_of_le (hb.2.2.2.1 r hr) h, bdL_mono h vs hb.2.2.2.2⟩
  | .upd _ _ p vs, hb => ⟨Nat.lt_of_lt_of_le hb.1 h, Nat.lt_of_lt_of_le hb.2.1 h, IE.bd_mono h p hb.2.2.1, bdL_mono h vs hb.2.2.2⟩
  | .app _ _ vs, hb => ⟨Nat.lt_of_lt_of_le hb.1 h, Nat.lt_of_lt_of_le hb.2.1 h, bdL_mono h vs hb.2.2⟩
  | .rep _ e vs, hb => ⟨Nat.lt_of_lt_of_le hb.1 h, IE.bd_mono h e hb.2.1, bdL_mono h vs hb.2.2⟩
  | .rng _ e, hb => IE.bd_mono h e hb
theorem TBd.mono (h : n ≤ m) {tm : Tr SV} (hb : TBd n tm) : TBd m tm := fun t v hv => SV.bd_mono h v (hb t v hv)
theorem HBd.mono (h : n ≤ m) {H : Tr Ch} (hb : HBd n H) : HBd m H := fun k c hc => ⟨Nat.lt_of_lt_of_le (hb k c hc).1 h, Ch.bd_mono h c (hb k c hc).2⟩

theorem TSat.congr (h : Env.Agree n ρ ρ') {tm : Tr SV} {nt : Nat} {tmps : Array Value} (hb : TBd n tm) (hs : TSat ρ tm nt tmps) : TSat ρ' tm nt tmps :=
  ⟨hs.1, fun t v hv => by rw [← SV.den_congr h v (hb t v hv)]; exact hs.2 t v hv⟩

theorem map_den_congr (h : Env.Agree n ρ ρ') (is : List IE) (hb : ∀ e ∈ is, IE.bd n e) : is.map (IE.den ρ) = is.map (IE.den ρ') :=
  List.map_congr_left fun e he => IE.den_congr h e (hb e he)

theorem CSat.congr (h : Env.Agree n ρ ρ') {k : Nat} {c : Ch} {hp : PHeap} (hk : k < n) (hb : c.bd n) (hs : CSat I ρ k c hp) : CSat I ρ' k c hp := by
  cases c with
  | cells e cs => simp only [CSat, ← h.k k hk, ← denL_congr h cs hb] at hs ⊢; exact hs
  | row e size cs cap => simp only [CSat, ← h.k k hk, ← denL_congr h cs hb.1, ← IE.den_congr h cap hb.2] at hs ⊢; exact hs
  | abs p ks is us rs vs =>
    have e1 : ks.map ρ.k = ks.map ρ'.k := List.map_congr_left fun x hx => h.k x (hb.1 x hx)
    have e3 : us.map ρ.u = us.map ρ'.u := List.map_congr_left fun x hx => h.u x (hb.2.2.1 x hx)
    have e4 : rs.map ρ.r = rs.map ρ'.r := List.map_congr_left fun x hx => h.r x (hb.2.2.2.1 x hx)
    simp only [CSat, ← h.k k hk, ← e1, ← map_den_congr h is hb.2.1, ← e3, ← e4, ← denL_congr h vs hb.2.2.2.2] at hs ⊢; exact hs
  | arr e size sh r len cap =>
    simp only [CSat, ← h.k k hk, ← h.r r hb.1, ← IE.den_congr h len hb.2.1, ← IE.den_congr h cap hb.2.2] at hs ⊢; exact hs
  | dfr => simp only [CSat, ← h.k k hk] at hs ⊢; exact hs
  | mp kd es clock => simp only [CSat, ← h.k k hk, ← denM_congr h kd es hb] at hs ⊢; exact hs
  | loop st pend nt tm params assign body df =>
    obtain ⟨fn, tmps, ht, hs⟩ := hs
    exact ⟨fn, tmps, TSat.congr h hb.1 ht, by rw [← h.k k hk, ← h.k df hb.2]; exact hs⟩

theorem PI.holds_congr (h : Env.Agree n ρ ρ') {p : PI} (hb : p.bd n) (hs : p.holds I ρ) : p.holds I ρ' := by
  cases p with
  | cond b w => simp only [PI.holds, ← BE.den_congr h b hb] at hs ⊢; exact hs
  | fact p is bs us rs vs =>
    have e2 : bs.map (BE.den ρ) = bs.map (BE.den ρ') := List.map_congr_left fun x hx => BE.den_congr h x (hb.2.1 x hx)
    have e3 : us.map ρ.u = us.map ρ'.u := List.map_congr_left fun x hx => h.u x (hb.2.2.1 x hx)
    have e4 : rs.map ρ.r = rs.map ρ'.r := List.map_congr_left fun x hx => h.r x (hb.2.2.2.1 x hx)
    simp only [PI.holds, ← map_den_congr h is hb.1, ← e2, ← e3, ← e4, ← denL_congr h vs hb.2.2.2.2] at hs ⊢; exact hs
  | upd r' r p vs => simp only [PI.holds, ← h.r r' hb.1, ← h.r r hb.2.1, ← IE.den_congr h p hb.2.2.1, ← denL_congr h vs hb.2.2.2] at hs ⊢; exact hs
  | app r' r vs => simp only [PI.holds, ← h.r r' hb.1, ← h.r r hb.2.1, ← denL_congr h vs hb.2.2] at hs ⊢; exact hs
  | rep r' e vs => simp only [PI.holds, ← h.r r' hb.1, ← IE.den_congr h e hb.2.1, ← denL_congr h vs hb.2.2] at hs ⊢; exact hs
  | rng k e => simp only [PI.holds, ← IE.den_congr h e hb] at hs ⊢; exact hs
theorem holds_congr (h : Env.Agree n ρ ρ') : ∀ {ps : List PI}, (∀ p ∈ ps, p.bd n) → holds I ρ ps → holds I ρ' ps
  | [], _, _ => trivial
  | p :: ps, hb, hs => ⟨PI.holds_congr h (hb p (by simp)) hs.1, holds_congr h (fun q hq => hb q (by simp [hq])) hs.2⟩
theorem holds_mem : ∀ {ps : List PI}, holds I ρ ps → ∀ p ∈ ps, p.holds I ρ
  | _ :: _, hs, p, hp => by
    cases hp with
    | head => exact hs.1
    | tail _ hp => exact holds_mem hs.2 p hp

variable {F : Fr} {H : Tr Ch} {w : World} {hp : Nat → PHeap}

theorem HSat.congr (h : Env.Agree n ρ ρ') (hb : HBd n H) (hs : HSat I ρ F H w hp) : HSat I ρ' F H w hp :=
  { hs with sat := fun k c hc => CSat.congr h (hb k c hc).1 (hb k c hc).2 (hs.sat k c hc) }

/-- A draw changes nothing. -/
theorem HSat.drew (hs : HSat I ρ F H w hp) (d : Nat) : HSat I ρ F H { w with drawn := d } hp :=
  ⟨hs.sat, hs.disj, hs.inw, hs.off, hs.frame, hs.grow, hs.os, hs.output, hs.tape⟩

/-- A chunk is let go. -/
theorem HSat.del (hs : HSat I ρ F H w hp) (k : Nat) : HSat I ρ F (H.del k) w hp := by
  have g : ∀ {n c}, (H.del k).get n = some c → H.get n = some c := fun {n c} h => by
    rw [Tr.get_del] at h; split at h
    · cases h
    · exact h
  exact ⟨fun n c h => hs.sat n c (g h), fun n m c d b o o' hn h1 h2 => hs.disj n m c d b o o' hn (g h1) (g h2), fun n c b o h => hs.inw n c b o (g h), fun n c b o h => hs.off n c b o (g h),
    hs.frame, hs.grow, hs.os, hs.output, hs.tape⟩

/-- The block of a chunk of one block. -/
theorem HSat.block (hs : HSat I ρ F H w hp) {k b : Nat} {c : Ch} {o : Obj} (hk : H.get k = some c) (h : hp k = single b o) : w.heap[b]? = some o :=
  hs.inw k c b o hk (by rw [h]; exact single_same b o)

/-- One block's object is turned: the chunk that owns it is another one. -/
theorem HSat.turn (hs : HSat I ρ F H w hp) {k b : Nat} {c d : Ch} {o o' : Obj} (hk : H.get k = some c) (h : hp k = single b o) (hd : CSat I ρ k d (single b o'))
    {w' : World} (hw : ∀ j, j ≠ b → w'.heap[j]? = w.heap[j]?) (hb : w'.heap[b]? = some o') (hz : w'.heap.size = w.heap.size) (ho : w'.os = w.os) (hu : w'.output = w.output) (ht : w'.tape = w.tape) :
    HSat I ρ F (H.set k d) w' (fun j => if j = k then single b o' else hp j) := by
  have hown : hp k b = some o := by rw [h]; exact single_same b o
  refine ⟨fun n c' hc => ?_, fun n m c1 c2 j o1 o2 hnm h1 h2 p1 p2 => ?_, fun n c1 j o1 h1 p1 => ?_, fun n c1 j o1 h1 p1 => ?_, fun j hj => ?_, by rw [hz]; exact hs.grow, ho.trans hs.os, hu.trans hs.output, ht.trans hs.tape⟩
  · rw [Tr.get_set] at hc
    by_cases e : n = k
    · subst e; simp only [if_true] at hc ⊢; cases hc; exact hd
    · simp only [e, if_false] at hc ⊢; exact hs.sat n c' hc
  · rw [Tr.get_set] at h1 h2
    by_cases e : n = k
    · subst e
      have e2 : ¬ m = n := fun x => hnm x.symm
      simp only [if_true] at p1
      simp only [e2, if_false] at h2 p2
      obtain ⟨rfl, _⟩ := single_some p1
      exact hs.disj n m c c2 j o o2 hnm hk h2 hown p2
    · simp only [e, if_false] at h1 p1
      by_cases e2 : m = k
      · subst e2
        simp only [if_true] at p2
        obtain ⟨rfl, _⟩ := single_some p2
        exact hs.disj n m c1 c j o1 o hnm h1 hk p1 hown
      · simp only [e2, if_false] at h2 p2
        exact hs.disj n m c1 c2 j o1 o2 hnm h1 h2 p1 p2
  · rw [Tr.get_set] at h1
    by_cases e : n = k
    · subst e
      simp only [if_true] at p1
      obtain ⟨rfl, rfl⟩ := single_some p1
      exact hb
    · simp only [e, if_false] at h1 p1
      have : j ≠ b := fun x => hs.disj n k c1 c j o1 o e h1 hk p1 (by rw [x]; exact hown)
      rw [hw j this]; exact hs.inw n c1 j o1 h1 p1
  · rw [Tr.get_set] at h1
    by_cases e : n = k
    · subst e
      simp only [if_true] at p1
      obtain ⟨rfl, rfl⟩ := single_some p1
      exact hs.off n c j o hk hown
    · simp only [e, if_false] at h1 p1
      exact hs.off n c1 j o1 h1 p1
  · have hne : j ≠ b := fun x => hs.off k c b o hk hown (x ▸ hj)
    rw [hw j hne, hz]; exact hs.frame j hj

/-- A new block, by a new name. -/
theorem HSat.new (hs : HSat I ρ F H w hp) (hb : HBd n H) {o : Obj} {d : Ch} (hag : Env.Agree n ρ ρ') (hd : CSat I ρ' n d (single w.heap.size o)) :
    HSat I ρ' F (H.set n d) { w with heap := w.heap.push o } (fun j => if j = n then single w.heap.size o else hp j) := by
  have lt : ∀ {j : Nat} {o' : Obj}, w.heap[j]? = some o' → j < w.heap.size := fun h => (Array.getElem?_eq_some_iff.1 h).1
  have old : ∀ {j : Nat}, j < w.heap.size → (w.heap.push o)[j]? = w.heap[j]? := fun {j} h => by
    rw [Array.getElem?_push]; simp [Nat.ne_of_lt h]
  refine ⟨fun k c' hc => ?_, fun k m c1 c2 j o1 o2 hnm h1 h2 p1 p2 => ?_, fun k c1 j o1 h1 p1 => ?_, fun k c1 j o1 h1 p1 => ?_, fun j hj => ?_, ?_, hs.os, hs.output, hs.tape⟩
  · rw [Tr.get_set] at hc
    by_cases e : k = n
    · subst e; simp only [if_true] at hc ⊢; cases hc; exact hd
    · simp only [e, if_false] at hc ⊢; exact CSat.congr hag (hb k c' hc).1 (hb k c' hc).2 (hs.sat k c' hc)
  · rw [Tr.get_set] at h1 h2
    by_cases e : k = n
    · have e2 : ¬ m = n := fun x => hnm (e.trans x.symm)
      simp only [e, if_true] at p1
      simp only [e2, if_false] at h2 p2
      obtain ⟨rfl, _⟩ := single_some p1
      exact absurd (lt (hs.inw m c2 _ o2 h2 p2)) (Nat.lt_irrefl _)
    · simp only [e, if_false] at h1 p1
      by_cases e2 : m = n
      · simp only [e2, if_true] at p2
        obtain ⟨rfl, _⟩ := single_some p2
        exact absurd (lt (hs.inw k c1 _ o1 h1 p1)) (Nat.lt_irrefl _)
      · simp only [e2, if_false] at h2 p2
        exact hs.disj k m c1 c2 j o1 o2 hnm h1 h2 p1 p2
  · rw [Tr.get_set] at h1
    by_cases e : k = n
    · simp only [e, if_true] at p1
      obtain ⟨rfl, rfl⟩ := single_some p1
      simp
    · simp only [e, if_false] at h1 p1
      have := hs.inw k c1 j o1 h1 p1
      show (w.heap.push o)[j]? = some o1
      rw [old (lt this)]; exact this
  · rw [Tr.get_set] at h1
    by_cases e : k = n
    · simp only [e, if_true] at p1
      obtain ⟨rfl, rfl⟩ := single_some p1
      exact fun hk => absurd (hs.frame _ hk).2 (Nat.lt_irrefl _)
    · simp only [e, if_false] at h1 p1
      exact hs.off k c1 j o1 h1 p1
  · obtain ⟨h1, h2⟩ := hs.frame j hj
    refine ⟨?_, ?_⟩
    · show (w.heap.push o)[j]? = _
      rw [old h2]; exact h1
    · show j < (w.heap.push o).size
      simp; omega
  · show F.w0.heap.size ≤ (w.heap.push o).size
    have := hs.grow
    simp; omega

end
end Go.Vg
