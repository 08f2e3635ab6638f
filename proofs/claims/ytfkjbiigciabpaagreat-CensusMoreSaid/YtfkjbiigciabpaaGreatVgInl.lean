/- A call in place, a round, a range over a function: the engine's walks of them are sound. Conditions: the tables are the program's; what walks the bodies is sound. -/
import Derived.Test.YtfkjbiigciabpaaGreatVgExec
namespace Go.Vg

section
variable {U : Type} {I : Interp U} {P : Program} {F : Fr} {ρ ρ' : Env U} {H : Tr Ch} {w w' : World} {hp : Nat → PHeap}

/-- A chunk of one block is let go; its block may be whatever then. -/
theorem HSat.lose (hs : HSat I ρ F H w hp) {k b : Nat} {c : Ch} {o : Obj} (hk : H.get k = some c) (h : hp k = single b o) (hw : But b w w') : HSat I ρ F (H.del k) w' hp := by
  have hown : hp k b = some o := by rw [h]; exact single_same b o
  have g : ∀ {n c'}, (H.del k).get n = some c' → n ≠ k ∧ H.get n = some c' := fun {n c'} h => by
    rw [Tr.get_del] at h; split at h
    · cases h
    · exact ⟨‹_›, h⟩
  have hne : ∀ {n c' j o'}, n ≠ k → H.get n = some c' → hp n j = some o' → j ≠ b := fun {n c' j o'} e h1 p1 x => hs.disj n k c' c j o' o e h1 hk p1 (by rw [x]; exact hown)
  refine ⟨fun n c' h => hs.sat n c' (g h).2, fun n m c' d j o1 o2 hn h1 h2 => hs.disj n m c' d j o1 o2 hn (g h1).2 (g h2).2, fun n c' j o' h1 p1 => ?_, fun n c' j o' h1 => hs.off n c' j o' (g h1).2, fun j hj => ?_,
    by rw [hw.size]; exact hs.grow, hw.os.trans hs.os, hw.output.trans hs.output, hw.tape.trans hs.tape⟩
  · rw [hw.other j (hne (g h1).1 (g h1).2 p1)]; exact hs.inw n c' j o' (g h1).2 p1
  · have hjb : j ≠ b := fun x => hs.off k c b o hk hown (x ▸ hj)
    rw [hw.other j hjb, hw.size]; exact hs.frame j hj

theorem putObj_but (w : World) (b : Nat) (o : Obj) : But b w (w.putObj b o) :=
  ⟨fun j hj => World.putObj_heap_other (fun e => hj e), by simp [World.putObj], rfl, rfl, rfl⟩

theorem putObj_turn (hs : HSat I ρ F H w hp) {k : Nat} {c d : Ch} {o o' : Obj} (hk : H.get k = some c) (h : hp k = single (ρ.k k) o) (hd : CSat I ρ k d (single (ρ.k k) o')) :
    ∃ hp', HSat I ρ F (H.set k d) (w.putObj (ρ.k k) o') hp' := by
  have hb := putObj_but w (ρ.k k) o'
  have hlt := (Array.getElem?_eq_some_iff.1 (hs.block hk h)).1
  exact ⟨_, hs.turn hk h hd hb.other (World.putObj_heap_same hlt) hb.size hb.os hb.output hb.tape⟩

theorem loop_obj (hs : HSat I ρ F H w hp) {k : Nat} {st : LoopState} {pend : SX} {nt : Nat} {tm : Tr SV} {ps : Array Tmp} {as bd : Code} {df : Nat} (hk : H.get k = some (.loop st pend nt tm ps as bd df)) :
    ∃ (fn : FuncId) (tmps : Array Value), TSat ρ tm nt tmps ∧ w.heap[ρ.k k]? = some (.loop { state := st, pending := pend.code, fn, tmps, params := ps, assign := as, body := bd, defers := ρ.k df }) ∧
      hp k = single (ρ.k k) (.loop { state := st, pending := pend.code, fn, tmps, params := ps, assign := as, body := bd, defers := ρ.k df }) := by
  obtain ⟨fn, tmps, ht, h⟩ := hs.sat _ _ hk
  exact ⟨fn, tmps, ht, hs.block hk h, h⟩

/-! ### The frame of a call -/
theorem get_ofList : ∀ (xs : List SV) (n : Nat) (t : Tr SV) (i : Nat), (Tr.ofList xs n t).get i = if n ≤ i ∧ i < n + xs.length then xs[i - n]? else t.get i
  | [], n, t, i => by
    have : ¬ (n ≤ i ∧ i < n + ([] : List SV).length) := by simp
    rw [if_neg this]; rfl
  | x :: xs, n, t, i => by
    simp only [Tr.ofList, get_ofList xs (n + 1) (t.set n x) i, Tr.get_set, List.length_cons]
    by_cases h : i = n
    · subst h
      have h1 : ¬ (i + 1 ≤ i ∧ i < i + 1 + xs.length) := by omega
      have h2 : i ≤ i ∧ i < i + (xs.length + 1) := by omega
      rw [if_neg h1, if_pos h2]; simp
    · by_cases h1 : n + 1 ≤ i ∧ i < n + 1 + xs.length
      · have h2 : n ≤ i ∧ i < n + (xs.length + 1) := by omega
        rw [if_pos h1, if_pos h2]
        have : i - n = (i - (n + 1)) + 1 := by omega
        rw [this]; rfl
      · have h2 : ¬ (n ≤ i ∧ i < n + (xs.length + 1)) := by omega
        rw [if_neg h1, if_neg h2, if_neg h]

theorem frame_ts (args : List SV) (ntmps : Nat) : TSat ρ (Tr.ofList args 0 .lf) (args.length + (ntmps - args.length)) ((denL ρ args).toArray ++ Array.replicate (ntmps - (denL ρ args).toArray.size) undef) := by
  refine ⟨by simp [denL_length], fun t v hv => ?_⟩
  rw [get_ofList] at hv
  split at hv
  · rename_i h
    rw [Nat.sub_zero] at hv
    have hl : t < (denL ρ args).toArray.size := by simp [denL_length]; omega
    rw [Array.getElem?_append_left hl, List.getElem?_toArray, denL_getElem?, hv]; rfl
  · cases hv
theorem frame_bd {n : Nat} {args : List SV} (h : bdL n args) : TBd n (Tr.ofList args 0 .lf) := fun t v hv => by
  rw [get_ofList] at hv
  split at hv
  · exact (bdL_iff _).1 h v (List.mem_of_getElem? hv)
  · cases hv

/-! ### How a call ends -/
def resF (tmps : Array Value) : ResultVar → Sem Value
  | .tmp t => pure (tmps.getD t undef)
  | .cell a t => do loadVar t (← asAddr (tmps.getD a undef))
theorem results_eq (fn : Func) (tmps : Array Value) : results fn tmps = (do let vs ← fn.results.mapM (resF tmps); pure (if h : vs.size = 1 then vs[0] else .tuple vs)) := by
  unfold results
  have : ∀ f g : ResultVar → Sem Value, f = g → (do let vs ← fn.results.mapM f; pure (if h : vs.size = 1 then vs[0] else Value.tuple vs) : Sem Value) = (do let vs ← fn.results.mapM g; pure (if h : vs.size = 1 then vs[0] else .tuple vs)) := fun f g e => by rw [e]
  exact this _ _ (funext fun x => by cases x <;> rfl)

theorem resS_sound {ty : Nat → Option TI} (hty : ∀ t i, ty t = some i → TyOk P t i) {tm : Tr SV} {nt : Nat} (hs : HSat I ρ F H w hp) {tmps : Array Value} (ht : TSat ρ tm nt tmps) :
    ∀ {rs : List ResultVar} {vs : List SV}, resS ty tm H rs = some vs →
      (rs.mapM (resF tmps)).run P w = .ok (denL ρ vs) w
  | [], vs, h => by simp only [resS, Option.some.injEq] at h; subst h; simp [denL]
  | .tmp t :: rs, vs, h => by
    simp only [resS] at h
    split at h
    case h_2 => cases h
    rename_i v us hv hus
    cases h
    rw [List.mapM_cons]
    have e : tmps.getD t undef = v.den ρ := by rw [Array.getD_eq_getD_getElem?, ht.2 t v hv]; rfl
    simp only [resF, Sem.run_bind, Sem.run_pure, Result.andThen_ok, resS_sound hty hs ht hus, denL, e]
  | .cell a t :: rs, vs, h => by
    simp only [resS] at h
    split at h
    case h_2 => cases h
    rename_i sa v us ha hv hus
    cases h
    rw [List.mapM_cons]
    have e : tmps.getD a undef = .pointer (some (sa.den ρ)) := by rw [Array.getD_eq_getD_getElem?, ht.2 a _ ha]; rfl
    have hl : (loadVar t (sa.den ρ)).run P w = .ok (v.den ρ) w := by
      have := rd_sound (P := P) (I := I) (ρ := ρ) (o := { dst := none, op := .load t (.tmp a), type := 0, pos := "", after := #[], guard := none }) hty (ps := []) trivial hs (tm := tm) (v := v) hv
        (f := fun _ => .pointer (some (sa.den ρ))) (fun x hx u hu => by
          simp only [Op.operands] at hx
          have : x = .tmp a := by simpa using hx
          subst this
          simp only [opnd] at hu
          rw [ha] at hu; cases hu; rfl)
      simp only [execOp, Instr.loadAt, Instr.sureAddr, Sem.run_bind, Sem.run_pure, Result.andThen_ok] at this
      cases hr : (loadVar t (sa.den ρ)).run P w with
      | ok x w' => rw [hr] at this; simp only [Result.andThen_ok] at this; cases this; rfl
      | halt x w' => rw [hr] at this; cases this
    have hf : (resF tmps (.cell a t)).run P w = .ok (v.den ρ) w := by simp only [resF, e, asAddr, Sem.run_bind, Sem.run_pure, Result.andThen_ok, hl]
    simp only [Sem.run_bind, hf, Sem.run_pure, Result.andThen_ok, resS_sound hty hs ht hus, denL]

theorem resS_bd {n : Nat} {ty : Nat → Option TI} {tm : Tr SV} (ht : TBd n tm) (hH : HBd n H) : ∀ {rs : List ResultVar} {vs : List SV}, resS ty tm H rs = some vs → bdL n vs
  | [], vs, h => by simp only [resS, Option.some.injEq] at h; subst h; simp [bdL]
  | .tmp t :: rs, vs, h => by
    simp only [resS] at h
    split at h
    case h_2 => cases h
    rename_i v us hv hus
    cases h
    simp only [bdL]; exact ⟨ht _ _ hv, resS_bd ht hH hus⟩
  | .cell a t :: rs, vs, h => by
    simp only [resS] at h
    split at h
    case h_2 => cases h
    rename_i sa v us ha hv hus
    cases h
    simp only [bdL]; exact ⟨rd_bd ht hH hv, resS_bd ht hH hus⟩

theorem oneV_den (vs : List SV) : (oneV vs).den ρ = (if h : (denL ρ vs).toArray.size = 1 then (denL ρ vs).toArray[0]'(by omega) else .tuple (denL ρ vs).toArray) := by
  unfold oneV
  split
  · simp [denL]
  · rename_i hne
    have : ¬ (denL ρ vs).toArray.size = 1 := by
      simp only [List.size_toArray, denL_length]
      intro h
      match vs, h with
      | [v], _ => exact hne v rfl
    rw [dif_neg this]; simp [SV.den]
theorem oneV_bd {n : Nat} {vs : List SV} (h : bdL n vs) : (oneV vs).bd n := by
  unfold oneV
  split
  · simp only [bdL] at h; exact h.1
  · simp only [SV.bd]; exact h

theorem results_run {ty : Nat → Option TI} (hty : ∀ t i, ty t = some i → TyOk P t i) {tm : Tr SV} {nt : Nat} (hs : HSat I ρ F H w hp) {tmps : Array Value} (ht : TSat ρ tm nt tmps) {fn : Func} {rs : List ResultVar}
    (hr : fn.results.toList = rs) {vs : List SV} (h : resS ty tm H rs = some vs) : (results fn tmps).run P w = .ok ((oneV vs).den ρ) w := by
  have h1 := resS_sound (P := P) hty hs ht h
  subst hr
  rw [results_eq, Sem.run_bind, Array.mapM_eq_mapM_toList, Sem.run_map, h1]
  simp only [Result.andThen_ok, Sem.run_pure, oneV_den]

theorem takeDf_leaves {n : Nat} {fn : Func} {tmps : Array Value} {R : Ending → World → Prop} : ∀ (ds : List Nat) (H H' : Tr Ch) (w : World) (hp : Nat → PHeap), takeDf ds H = some H' → HSat I ρ F H w hp →
    (∀ w' , HSat I ρ F H' w' hp → LeavesIn Fence.wide n P fn tmps R [] .returning w') →
    LeavesInM Fence.wide n P fn tmps R (marks ρ ds) .returning w
  | [], H, H', w, hp, h, hs, hk => by
    simp only [takeDf, Option.some.injEq] at h; subst h
    exact hk w hs
  | d :: ds, H, H', w, hp, h, hs, hk => by
    simp only [takeDf] at h
    split at h
    case h_2 => cases h
    rename_i hd
    have hsat := hs.sat _ _ hd
    have hb := hs.block hd hsat
    refine ⟨by simp, .inl ⟨ρ.k d, w.putObj (ρ.k d) (.deferred none), rfl, run_takeDeferred hb, ?_⟩⟩
    exact takeDf_leaves ds (H.del d) H' _ hp h (hs.lose hd hsat (putObj_but w _ _)) hk

theorem takeDf_bd {n : Nat} : ∀ {ds : List Nat} {H H' : Tr Ch}, takeDf ds H = some H' → HBd n H → HBd n H'
  | [], H, H', h, hb => by simp only [takeDf, Option.some.injEq] at h; subst h; exact hb
  | d :: ds, H, H', h, hb => by
    simp only [takeDf] at h
    split at h
    case h_2 => cases h
    refine takeDf_bd h fun m c hc => ?_
    rw [Tr.get_del] at hc
    split at hc
    · cases hc
    · exact hb m c hc

theorem inlL_mem {ty : Nat → Option TI} {S : SS} {rs : List ResultVar} : ∀ {l : Outs} {co : COuts}, inlL ty S rs l = some co →
    (∀ S', (SX.bad, S') ∈ l → (none, S') ∈ co) ∧
    (∀ x S', (x, S') ∈ l → x = .bad ∨ ((x = .normal ∨ x = .ret) ∧ ∃ H vs, takeDf S'.df S'.hp = some H ∧ resS ty S'.tm H rs = some vs ∧ (some (oneV vs), S'.back S H) ∈ co))
  | [], co, h => by simp only [inlL, Option.some.injEq] at h; subst h; simp
  | (x, T) :: l, co, h => by
    simp only [inlL] at h
    split at h
    case h_1 => cases h
    rename_i b hb
    obtain ⟨h1, h2⟩ := inlL_mem hb
    have ok : ∀ (hx : x = .normal ∨ x = .ret), (match takeDf T.df T.hp with
        | some H => match resS ty T.tm H rs with
          | some vs => some ((some (oneV vs), T.back S H) :: b)
          | none => none
        | none => none) = some co →
        (∀ S', (SX.bad, S') ∈ (x, T) :: l → (none, S') ∈ co) ∧
        (∀ y S', (y, S') ∈ (x, T) :: l → y = .bad ∨ ((y = .normal ∨ y = .ret) ∧ ∃ H vs, takeDf S'.df S'.hp = some H ∧ resS ty S'.tm H rs = some vs ∧ (some (oneV vs), S'.back S H) ∈ co)) := fun hx h => by
      split at h
      case h_2 => cases h
      rename_i H hH
      split at h
      case h_2 => cases h
      rename_i vs hvs
      cases h
      refine ⟨fun S' hS => ?_, fun y S' hS => ?_⟩
      · rcases List.mem_cons.1 hS with e | hS
        · cases e; rcases hx with e | e <;> cases e
        · exact List.mem_cons_of_mem _ (h1 S' hS)
      · rcases List.mem_cons.1 hS with e | hS
        · cases e; exact .inr ⟨hx, H, vs, hH, hvs, by simp⟩
        · rcases h2 y S' hS with e | ⟨e, H', vs', a1, a2, a3⟩
          · exact .inl e
          · exact .inr ⟨e, H', vs', a1, a2, List.mem_cons_of_mem _ a3⟩
    cases x with
    | normal => exact ok (.inl rfl) h
    | ret => exact ok (.inr rfl) h
    | bad =>
      cases h
      refine ⟨fun S' hS => ?_, fun y S' hS => ?_⟩
      · rcases List.mem_cons.1 hS with e | hS
        · cases e; simp
        · exact List.mem_cons_of_mem _ (h1 S' hS)
      · rcases List.mem_cons.1 hS with e | hS
        · cases e; exact .inl rfl
        · rcases h2 y S' hS with e | ⟨e, H', vs', a1, a2, a3⟩
          · exact .inl e
          · exact .inr ⟨e, H', vs', a1, a2, List.mem_cons_of_mem _ a3⟩
    | exit n => cases h
    | goto n => cases h

/-- A call in place. -/
theorem inl_sound {G : GT} (hG : GOk P G) {ex : Code → SS → Option Outs} (hex : SoundX I P F ex) : SoundC I P F (inl G ex) := by
  intro f args S co h hg hargs ρ w hpre
  unfold inl at h
  split at h
  case h_2 => cases h
  rename_i fi hfi
  split at h
  case h_2 => cases h
  rename_i outs houts
  obtain ⟨fn, h1, h2, h3, h4, h5⟩ := hG.fn f fi hfi
  obtain ⟨m1, m2⟩ := inlL_mem h
  refine ⟨⟨fn, h1, by rw [h4]; rfl, h5⟩, ?_⟩
  have hgo : Good I outs := fun S' hS => hg S' (m1 S' hS)
  have hpre1 : Pre I F ρ (S.frame args fi.ntmps) { tmps := (denL ρ args).toArray ++ Array.replicate (fn.ntmps - (denL ρ args).toArray.size) undef, defers := [] } w :=
    ⟨⟨frame_bd hargs, hpre.bd.hp, hpre.bd.path, (by intro _ h; cases h), (by intro _ h; cases h)⟩, hpre.path, by rw [h2]; exact frame_ts args fi.ntmps, rfl, hpre.heap⟩
  have hw := hex fi.body (S.frame args fi.ntmps) outs houts hgo ρ _ w hpre1
  refine callsIn_of_wp_marks (F := Fence.wide) (n := 0) h1 h4 trivial (wpIn_mono hw ?_)
  intro e a w' hpo
  obtain ⟨x, S', ρ', hm, hx, hag, hp', hn, hro⟩ := hpo.ex
  have hxb : x ≠ .bad := fun e' => by subst e'; cases e <;> simp [Match] at hx
  rcases m2 x S' hm with e' | ⟨hxx, H, vs, hH, hvs, hmem⟩
  · exact absurd e' hxb
  · obtain ⟨hpp, hs⟩ := hp'.heap
    have hbd := takeDf_bd (n := S'.next) hH hp'.bd.hp
    have leave : LeavesInM Fence.wide 0 P fn a.tmps (PostC I F ρ S co) a.defers .returning w' := by
      rw [hp'.df]
      refine takeDf_leaves _ _ _ _ hpp hH hs fun w2 hs2 => ⟨(oneV vs).den ρ', results_run hG.ty hs2 hp'.ts h3 hvs, ?_⟩
      refine ⟨oneV vs, S'.back S H, ρ', hmem, rfl, hag, hp'.path, ⟨hpre.bd.tm.mono hn, hbd, hp'.bd.path, fun d hd => Nat.lt_of_lt_of_le (hpre.bd.df d hd) hn, fun d hd => Nat.lt_of_lt_of_le (hpre.bd.ro d hd) hn⟩,
        ⟨hpp, hs2⟩, oneV_bd (resS_bd hp'.bd.tm hbd hvs), hn, rfl, rfl, rfl, rfl⟩
    rcases hxx with e' | e' <;> subst e' <;> cases e <;> simp only [Match] at hx <;> exact leave
end
end Go.Vg
