/- A region whose order is drawn: the walk of all orders, and that it is sound. Conditions: those of what runs the calls. -/
import Derived.Test.YtfkjbiigciabpaaGreatVgDraw
namespace Go.Vg

abbrev DOuts := List (SX × Nat × SS)

def passL (k : SS → Option DOuts) (done : Nat) : Outs → Option DOuts
  | [] => some []
  | (.normal, S) :: l => match k S, passL k done l with
    | some a, some b => some (a ++ b)
    | _, _ => none
  | (x, S) :: l => match passL k done l with
    | some b => some ((x, done, S) :: b)
    | none => none

/-- All readers that may, in the order of the text. -/
def passR (G : GT) (ops : List Oper) (dms : List Nat) : List Nat → Nat → SS → Option DOuts
  | [], done, S => some [(.normal, done, S)]
  | i :: is, done, S => match ops[i]?, dms[i]? with
    | some o, some dm => match !has done i && rdKind o.op && sub dm done with
      | true => match rdG G ops o S with
        | some l => passL (passR G ops dms is (done ||| 2 ^ i)) done l
        | none => none
      | false => passR G ops dms is done S
    | _, _ => none

/-- The operations that write one of these slots. -/
def dstM (ops : List Oper) (ts : List Nat) : List Nat → Nat
  | [] => 0
  | y :: ys => Nat.lor (match ops[y]? with
    | some o => match o.dst with
      | some d => cond (ts.contains d) (Nat.pow 2 y) 0
      | none => 0
    | none => 0) (dstM ops ts ys)
/-- Is each operation that is done, and writes a slot of these, ahead of all else? -/
def aheadOk (ops : List Oper) (c done : Nat) (ts ys : List Nat) : Bool := sub (Nat.land done (dstM ops ts ys)) c

/-! New variables and rows that lie neither ahead of nor behind some other writer are put off: those of a set. -/
def isAlloc : Op → Bool
  | .alloc _ | .makeSlice .. => true
  | _ => false
def unordB (ops : List Oper) (cls : List Nat) (i c : Nat) : List Nat → Bool
  | [] => false
  | j :: js => (match ops[j]?, cls[j]? with
    | some o, some cj => !Nat.beq i j && !rdKind o.op && !has cj i && !has c j
    | _, _ => false) || unordB ops cls i c js
def amOf (ops : List Oper) (cls all : List Nat) : List Nat → Nat
  | [] => 0
  | i :: is => (match ops[i]?, cls[i]? with
    | some o, some c => cond (isAlloc o.op && o.guard.isNone && o.dst.isSome && unordB ops cls i c all) (2 ^ i) 0
    | _, _ => 0) ||| amOf ops cls all is
def aOkD (ops : List Oper) (c am i d : Nat) (ts : List Nat) : List Nat → Bool
  | [] => true
  | y :: ys => (match ops[y]? with
    | some oy => match oy.dst with
      | some e => (Nat.beq y i || !Nat.beq e d) && (!ts.contains e || (has c y && !has am y))
      | none => true
    | none => true) && aOkD ops c am i d ts ys
def aOk (ops : List Oper) (cls all : List Nat) (am : Nat) : List Nat → Bool
  | [] => true
  | i :: is => (!has am i || (match ops[i]?, cls[i]? with
    | some o, some c => isAlloc o.op && o.guard.isNone && (match o.dst with
      | some d => aOkD ops c am i d (looks ops o) all
      | none => false)
    | _, _ => false)) && aOk ops cls all am is
/-- Do all other writers that are left wait for it? -/
def waits (ops : List Oper) (cls : List Nat) (am done i : Nat) : List Nat → Bool
  | [] => true
  | j :: js => (match ops[j]?, cls[j]? with
    | some o, some cj => rdKind o.op || has am j || has done j || has cj i
    | _, _ => false) && waits ops cls am done i js
def nextA (ops : List Oper) (dms cls : List Nat) (am done : Nat) (all : List Nat) : List Nat → Option Nat
  | [] => none
  | i :: is => match dms[i]? with
    | some dm => cond (has am i && !has done i && sub dm done && waits ops cls am done i all) (some i) (nextA ops dms cls am done all is)
    | none => nextA ops dms cls am done all is
def chkA (G : GT) (o : Oper) (S : SS) : Bool :=
  match wr1 G.ty S o.op with
  | some (some _, _) => dstOk S o.dst
  | _ => false
/-- Does none of those that are put off write a slot of these? -/
def offA (ops : List Oper) (am done : Nat) (ts ys : List Nat) : Bool := sub (Nat.land am (dstM ops ts ys)) done

def nodeOk (G : GT) (ops : List Oper) (dms cls : List Nat) (am : Nat) (nx : Option Nat) (forced done : Nat) (S : SS) (all : List Nat) : List Nat → Bool
  | [] => true
  | i :: is => (match ops[i]?, dms[i]?, cls[i]? with
    | some o, some dm, some c =>
      (has done i || !rdKind o.op || !sub dm done) &&
      (has am i || has done i || !sub dm (done ||| am) || (match nx with | none => sub dm done | some x => has c x)) &&
      (!has am i || has done i || !sub dm (done ||| am) || (chkA G o S && aheadOk ops c done (looks ops o) all && offA ops am done (looks ops o) all)) &&
      (!has done i || !rdKind o.op || has forced i || (chkR G ops o S && aheadOk ops c done (looks ops o) all && offA ops am done (looks ops o) all))
    | _, _, _ => false) && nodeOk G ops dms cls am nx forced done S all is

def bindD (k : Nat → SS → Option Outs) : DOuts → Option Outs
  | [] => some []
  | (.normal, d, S) :: l => match k d S, bindD k l with
    | some a, some b => some (a ++ b)
    | _, _ => none
  | (x, _, S) :: l => match bindD k l with
    | some b => some ((x, S) :: b)
    | none => none

/-- One writer after another, each that may. -/
def eachW (k : Nat → Oper → Nat → Option Outs) (ops : List Oper) (cls : List Nat) : List Nat → Option Outs
  | [] => some []
  | i :: is => match ops[i]?, cls[i]? with
    | some o, some c => match k i o c, eachW k ops cls is with
      | some a, some b => some (a ++ b)
      | _, _ => none
    | _, _ => none

def mayW (dms : List Nat) (am done : Nat) : List Nat → List Nat
  | [] => []
  | i :: is => match dms[i]? with
    | some dm => cond (!has am i && (!has done i && sub dm done)) (i :: mayW dms am done is) (mayW dms am done is)
    | none => mayW dms am done is

def drawF (G : GT) (wr : SS → Op → Option (Option SV × SS)) (cf yf : CallF) (ops : List Oper) (dms cls all : List Nat) (am : Nat) : Nat → Nat → Nat → SS → Option Outs
  | 0, _, _, _ => none
  | f + 1, forced, done, S => match nextA ops dms cls am done all all with
    | some x => whenB (nodeOk G ops dms cls am (some x) forced done S all all) (match ops[x]?, cls[x]? with
      | some o, some c => match wr1 G.ty S o.op with
        | some (some v, S1) => match passR G ops dms all (done ||| 2 ^ x) (S1.setD o.dst v) with
          | some l => bindD (drawF G wr cf yf ops dms cls all am f (forced ||| (c ||| 2 ^ x))) l
          | none => none
        | _ => none
      | _, _ => none)
    | none => whenB (nodeOk G ops dms cls am none forced done S all all) (match mayW dms am done all with
      | [] => whenB (sub am done) (some [(.normal, S)])
      | ws => eachW (fun i o c => whenB (aheadOk ops c done (o.dst.toList ++ looks ops o) all && offA ops am done (o.dst.toList ++ looks ops o) all)
        (bindS (opG G wr cf yf ops o S) (thenS fun S' => match passR G ops dms all (done ||| 2 ^ i) S' with
          | some l => bindD (drawF G wr cf yf ops dms cls all am f (forced ||| (c ||| 2 ^ i))) l
          | none => none))) ops cls ws)

def drawS (G : GT) (wr : SS → Op → Option (Option SV × SS)) (cf yf : CallF) (ops : List Oper) (S : SS) : Option Outs :=
  let dms := ops.map dmOf
  let cls := clF dms []
  let all := List.range ops.length
  let am := amOf ops cls all all
  whenB (aOk ops cls all am all) (match passR G ops dms all 0 S with
    | some l => bindD (drawF G wr cf yf ops dms cls all am (ops.length + 1) 0) l
    | none => none)

section
variable {U : Type} {I : Interp U} {P : Program} {F : Fr} {ρ ρ' : Env U}

def GoodD (I : Interp U) (l : DOuts) : Prop := ∀ d S, (SX.bad, d, S) ∈ l → ∀ ρ : Env U, ¬ holds I ρ S.path

theorem passL_mem {k : SS → Option DOuts} {done : Nat} : ∀ {l : Outs} {out : DOuts}, passL k done l = some out →
    (∀ S, (SX.normal, S) ∈ l → ∃ o, k S = some o ∧ ∀ p ∈ o, p ∈ out) ∧ (∀ S, (SX.bad, S) ∈ l → (SX.bad, done, S) ∈ out)
  | [], out, h => by simp only [passL, Option.some.injEq] at h; subst h; simp
  | (x, T) :: l, out, h => by
    have other : ∀ b, x ≠ .normal → passL k done l = some b → out = (x, done, T) :: b →
        (∀ S, (SX.normal, S) ∈ (x, T) :: l → ∃ o, k S = some o ∧ ∀ p ∈ o, p ∈ out) ∧ (∀ S, (SX.bad, S) ∈ (x, T) :: l → (SX.bad, done, S) ∈ out) := fun b hx hb ho => by
      obtain ⟨h1, h2⟩ := passL_mem hb
      subst ho
      refine ⟨fun S hS => ?_, fun S hS => ?_⟩
      · rcases List.mem_cons.1 hS with e | hS
        · cases e; exact absurd rfl hx
        · obtain ⟨o, e, hs⟩ := h1 S hS
          exact ⟨o, e, fun p hp => List.mem_cons_of_mem _ (hs p hp)⟩
      · rcases List.mem_cons.1 hS with e | hS
        · cases e; simp
        · exact List.mem_cons_of_mem _ (h2 S hS)
    cases x with
    | normal =>
      simp only [passL] at h
      split at h
      case h_2 => cases h
      rename_i a b ha hb
      cases h
      obtain ⟨h1, h2⟩ := passL_mem hb
      refine ⟨fun S hS => ?_, fun S hS => ?_⟩
      · rcases List.mem_cons.1 hS with e | hS
        · cases e; exact ⟨a, ha, fun p hp => List.mem_append_left _ hp⟩
        · obtain ⟨o, e, hs⟩ := h1 S hS
          exact ⟨o, e, fun p hp => List.mem_append_right _ (hs p hp)⟩
      · rcases List.mem_cons.1 hS with e | hS
        · cases e
        · exact List.mem_append_right _ (h2 S hS)
    | _ =>
      simp only [passL] at h
      split at h
      case h_2 => cases h
      rename_i b hb
      cases h
      exact other b (by simp) hb rfl

theorem bindD_mem {k : Nat → SS → Option Outs} : ∀ {l : DOuts} {out : Outs}, bindD k l = some out →
    (∀ d S, (SX.normal, d, S) ∈ l → ∃ o, k d S = some o ∧ ∀ p ∈ o, p ∈ out) ∧ (∀ d S, (SX.bad, d, S) ∈ l → (SX.bad, S) ∈ out)
  | [], out, h => by simp only [bindD, Option.some.injEq] at h; subst h; simp
  | (x, d, T) :: l, out, h => by
    have other : ∀ b, x ≠ .normal → bindD k l = some b → out = (x, T) :: b →
        (∀ d' S, (SX.normal, d', S) ∈ (x, d, T) :: l → ∃ o, k d' S = some o ∧ ∀ p ∈ o, p ∈ out) ∧ (∀ d' S, (SX.bad, d', S) ∈ (x, d, T) :: l → (SX.bad, S) ∈ out) := fun b hx hb ho => by
      obtain ⟨h1, h2⟩ := bindD_mem hb
      subst ho
      refine ⟨fun d' S hS => ?_, fun d' S hS => ?_⟩
      · rcases List.mem_cons.1 hS with e | hS
        · cases e; exact absurd rfl hx
        · obtain ⟨o, e, hs⟩ := h1 d' S hS
          exact ⟨o, e, fun p hp => List.mem_cons_of_mem _ (hs p hp)⟩
      · rcases List.mem_cons.1 hS with e | hS
        · cases e; simp
        · exact List.mem_cons_of_mem _ (h2 d' S hS)
    cases x with
    | normal =>
      simp only [bindD] at h
      split at h
      case h_2 => cases h
      rename_i a b ha hb
      cases h
      obtain ⟨h1, h2⟩ := bindD_mem hb
      refine ⟨fun d' S hS => ?_, fun d' S hS => ?_⟩
      · rcases List.mem_cons.1 hS with e | hS
        · cases e; exact ⟨a, ha, fun p hp => List.mem_append_left _ hp⟩
        · obtain ⟨o, e, hs⟩ := h1 d' S hS
          exact ⟨o, e, fun p hp => List.mem_append_right _ (hs p hp)⟩
      · rcases List.mem_cons.1 hS with e | hS
        · cases e
        · exact List.mem_append_right _ (h2 d' S hS)
    | _ =>
      simp only [bindD] at h
      split at h
      case h_2 => cases h
      rename_i b hb
      cases h
      exact other b (by simp) hb rfl

theorem eachW_mem {k : Nat → Oper → Nat → Option Outs} {ops : List Oper} {cls : List Nat} : ∀ {ws : List Nat} {out : Outs}, eachW k ops cls ws = some out →
    ∀ i ∈ ws, ∃ o c r, ops[i]? = some o ∧ cls[i]? = some c ∧ k i o c = some r ∧ ∀ p ∈ r, p ∈ out
  | i :: is, out, h, j, hj => by
    simp only [eachW] at h
    split at h
    case h_2 => cases h
    rename_i o c ho hc
    split at h
    case h_2 => cases h
    rename_i a b ha hb
    cases h
    rcases List.mem_cons.1 hj with e | hj
    · subst e; exact ⟨o, c, a, ho, hc, ha, fun p hp => List.mem_append_left _ hp⟩
    · obtain ⟨o', c', r, h1, h2, h3, h4⟩ := eachW_mem hb j hj
      exact ⟨o', c', r, h1, h2, h3, fun p hp => List.mem_append_right _ (h4 p hp)⟩

theorem mayW_mem {dms : List Nat} {am done : Nat} : ∀ {is : List Nat} {i dm : Nat}, i ∈ is → dms[i]? = some dm → has am i = false → has done i = false → sub dm done = true → i ∈ mayW dms am done is
  | j :: is, i, dm, hi, hd, ha, hn, hs => by
    simp only [mayW]
    rcases List.mem_cons.1 hi with e | hi
    · subst e; simp [hd, ha, hn, hs]
    · have := mayW_mem hi hd ha hn hs
      split
      · cases cond_cases : (!has am j && (!has done j && sub _ done)) <;> simp [this]
      · exact this

theorem nodeOk_mem {G : GT} {ops : List Oper} {dms cls : List Nat} {am : Nat} {nx : Option Nat} {forced done : Nat} {S : SS} {all : List Nat} : ∀ {is : List Nat}, nodeOk G ops dms cls am nx forced done S all is = true → ∀ i ∈ is,
    ∃ o dm c, ops[i]? = some o ∧ dms[i]? = some dm ∧ cls[i]? = some c ∧ (has done i = false → rdKind o.op = true → sub dm done = true → False) ∧
      (has am i = false → has done i = false → sub dm (done ||| am) = true → match nx with | none => sub dm done = true | some x => has c x = true) ∧
      (has am i = true → has done i = false → sub dm (done ||| am) = true → chkA G o S = true ∧ aheadOk ops c done (looks ops o) all = true ∧ offA ops am done (looks ops o) all = true) ∧
      (has done i = true → rdKind o.op = true → has forced i = false → chkR G ops o S = true ∧ aheadOk ops c done (looks ops o) all = true ∧ offA ops am done (looks ops o) all = true)
  | j :: is, h, i, hi => by
    simp only [nodeOk, Bool.and_eq_true] at h
    obtain ⟨h1, h2⟩ := h
    rcases List.mem_cons.1 hi with e | hi
    · subst e
      split at h1
      case h_2 => cases h1
      rename_i o dm c ho hd hc
      simp only [Bool.and_eq_true] at h1
      obtain ⟨⟨⟨q1, q2⟩, q3⟩, q4⟩ := h1
      refine ⟨o, dm, c, ho, hd, hc, fun a b d => ?_, fun a b d => ?_, fun a b d => ?_, fun a b d => ?_⟩
      · rw [a, b, d] at q1; simp at q1
      · rw [a, b, d] at q2
        cases nx <;> simpa using q2
      · rw [a, b, d] at q3; simpa [and_assoc] using q3
      · rw [a, b, d] at q4; simpa [and_assoc] using q4
    · exact nodeOk_mem h2 i hi

theorem dstM_mem {ops : List Oper} {ts : List Nat} : ∀ {ys : List Nat}, ∀ y ∈ ys, ∀ o d, ops[y]? = some o → o.dst = some d → d ∈ ts → has (dstM ops ts ys) y = true
  | z :: ys, y, hy, o, d, ho, hd, hts => by
    simp only [dstM]
    rw [show ∀ a b : Nat, Nat.lor a b = a ||| b from fun _ _ => rfl, has_or, Bool.or_eq_true]
    rcases List.mem_cons.1 hy with e | hy
    · subst e
      left
      have : ts.contains d = true := by simpa using hts
      simp only [ho, hd, this, cond_true]
      rw [show Nat.pow 2 y = 2 ^ y from rfl, has_pow]; simp
    · exact .inr (dstM_mem y hy o d ho hd hts)
theorem offA_mem {ops : List Oper} {am done : Nat} {ts : List Nat} {ys : List Nat} (h : offA ops am done ts ys = true) (y : Nat) (hy : y ∈ ys) (o : Oper) (d : Nat) (ho : ops[y]? = some o) (hd : o.dst = some d) (ham : has am y = true) (hdn : has done y = false) : d ∉ ts := by
  intro hts
  have := sub_has h (i := y) (by rw [has_and, ham, dstM_mem y hy o d ho hd hts]; rfl)
  rw [hdn] at this; cases this

theorem aOkD_mem {ops : List Oper} {c am i d : Nat} {ts : List Nat} : ∀ {ys : List Nat}, aOkD ops c am i d ts ys = true → ∀ y ∈ ys, ∀ o e, ops[y]? = some o → o.dst = some e → (y = i ∨ e ≠ d) ∧ (e ∈ ts → has c y = true ∧ has am y = false)
  | z :: ys, h, y, hy, o, e, ho, he => by
    simp only [aOkD, Bool.and_eq_true] at h
    rcases List.mem_cons.1 hy with x | hy
    · subst x
      have := h.1
      simp only [ho, he, Bool.and_eq_true, Bool.or_eq_true, Bool.not_eq_true'] at this
      refine ⟨?_, fun hm => ?_⟩
      · rcases this.1 with h1 | h1
        · exact .inl (Nat.eq_of_beq_eq_true h1)
        · refine .inr fun e' => ?_
          rw [e'] at h1; simp at h1
      · rcases this.2 with h1 | h1
        · have h2 : ts.contains e = true := by simpa using hm
          rw [h2] at h1; cases h1
        · exact h1
    · exact aOkD_mem h.2 y hy o e ho he

theorem aOk_mem {ops : List Oper} {cls all : List Nat} {am : Nat} : ∀ {is : List Nat}, aOk ops cls all am is = true → ∀ i ∈ is, has am i = true →
    ∃ o c d, ops[i]? = some o ∧ cls[i]? = some c ∧ o.dst = some d ∧ isAlloc o.op = true ∧ o.guard = none ∧
      ∀ y ∈ all, ∀ oy e, ops[y]? = some oy → oy.dst = some e → (y = i ∨ e ≠ d) ∧ (e ∈ looks ops o → has c y = true ∧ has am y = false)
  | j :: is, h, i, hi, ha => by
    simp only [aOk, Bool.and_eq_true] at h
    rcases List.mem_cons.1 hi with e | hi
    · subst e
      have := h.1
      rw [ha] at this
      simp only [Bool.not_true, Bool.false_or] at this
      split at this
      case h_2 => cases this
      rename_i o c ho hc
      simp only [Bool.and_eq_true] at this
      obtain ⟨⟨q1, q2⟩, q3⟩ := this
      split at q3
      case h_2 => cases q3
      rename_i d hd
      exact ⟨o, c, d, ho, hc, hd, q1, by simpa using q2, aOkD_mem q3⟩
    · exact aOk_mem h.2 i hi ha

theorem nextA_some {ops : List Oper} {dms cls : List Nat} {am done : Nat} {all : List Nat} : ∀ {is : List Nat} {x : Nat}, nextA ops dms cls am done all is = some x → x ∈ is ∧ has am x = true ∧ has done x = false
  | i :: is, x, h => by
    have tl : nextA ops dms cls am done all is = some x → x ∈ i :: is ∧ has am x = true ∧ has done x = false := fun h => by
      obtain ⟨h1, h2⟩ := nextA_some h
      exact ⟨List.mem_cons_of_mem _ h1, h2⟩
    simp only [nextA] at h
    split at h
    · rename_i dm hd
      cases hc : (has am i && !has done i && sub dm done && waits ops cls am done i all) with
      | true =>
        rw [hc] at h
        simp only [cond_true, Option.some.injEq] at h
        subst h
        simp only [Bool.and_eq_true, Bool.not_eq_true'] at hc
        exact ⟨by simp, hc.1.1.1, hc.1.1.2⟩
      | false => rw [hc] at h; exact tl h
    · exact tl h

theorem aheadOk_mem {ops : List Oper} {c done : Nat} {ts : List Nat} {ys : List Nat} (h : aheadOk ops c done ts ys = true) (y : Nat) (hy : y ∈ ys) (o : Oper) (d : Nat) (ho : ops[y]? = some o) (hd : o.dst = some d) (hts : d ∈ ts) (hdn : has done y = true) : has c y = true :=
  sub_has h (i := y) (by rw [has_and, hdn, dstM_mem y hy o d ho hd hts]; rfl)

/-- The pass of the readers: some way of it is the environment's. -/
theorem passR_sound {G : GT} {ops : List Oper} {dms : List Nat} : ∀ (is : List Nat) (done : Nat) (S : SS) (out : DOuts), passR G ops dms is done S = some out → GoodD I out →
    ∀ {av : Act} {w : World}, Pre I F ρ S av w →
    ∃ done' S' av', (SX.normal, done', S') ∈ out ∧ Pre I F ρ S' av' w ∧ Same S S' ∧ av'.tmps.size = av.tmps.size ∧ (∀ i, has done i = true → has done' i = true) ∧
      (∀ i, has done' i = true → has done i = true ∨ ∃ o, ops[i]? = some o ∧ rdKind o.op = true) ∧
      (∀ t, (∀ y o, has done' y = true → has done y = false → ops[y]? = some o → o.dst ≠ some t) → av'.tmps[t]? = av.tmps[t]?)
  | [], done, S, out, h, _, av, w, hpre => by
    simp only [passR, Option.some.injEq] at h; subst h
    exact ⟨done, S, av, by simp, hpre, Same.refl S, rfl, fun _ h => h, fun _ h => .inl h, fun _ _ => rfl⟩
  | i :: is, done, S, out, h, hg, av, w, hpre => by
    simp only [passR] at h
    split at h
    case h_2 => cases h
    rename_i o dm ho hd
    split at h
    · rename_i hc
      simp only [Bool.and_eq_true, Bool.not_eq_true'] at hc
      split at h
      case h_2 => cases h
      rename_i l hl
      obtain ⟨hn, hb⟩ := passL_mem h
      obtain ⟨S1, x, hm, hp1, hs1⟩ := rdG_sound hl (fun T hT => hg _ T (hb T hT)) hpre
      obtain ⟨o1, ho1, hsub⟩ := hn S1 hm
      obtain ⟨done', S', av', hm', hp', hs', hz, hle, hge, htm⟩ := passR_sound is _ S1 o1 ho1 (fun d T hT => hg d T (hsub _ hT)) hp1
      have hle' : ∀ j, has done j = true → has done' j = true := fun j hj => hle j (by rw [has_or, hj]; rfl)
      have hi' : has done' i = true := hle i (by rw [has_or, has_pow]; simp)
      refine ⟨done', S', av', hsub _ hm', hp', hs1.trans hs', ?_, hle', fun j hj => ?_, fun t ht => ?_⟩
      · rw [hz]; cases o.dst <;> simp [Act.put]
      · rcases hge j hj with h1 | h1
        · rw [has_or, Bool.or_eq_true, has_pow] at h1
          rcases h1 with h1 | h1
          · exact .inl h1
          · have : i = j := by simpa using h1
            subst this; exact .inr ⟨o, ho, hc.1.2⟩
        · exact .inr h1
      · rw [htm t (fun y oy hy1 hy2 hy3 => by
          refine ht y oy hy1 ?_ hy3
          rw [has_or, Bool.or_eq_false_iff] at hy2; exact hy2.1)]
        have hne := ht i o hi' hc.1.1 ho
        cases hod : o.dst with
        | none => rfl
        | some d =>
          simp only [Act.put]
          rw [Array.getElem?_setIfInBounds_ne]
          intro e; subst e; exact hne hod
    · exact passR_sound is done S out h hg hpre

end
end Go.Vg
