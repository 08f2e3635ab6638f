/- A round of a range over a function, and the range: the engine's walks of them are sound. Conditions: what walks the bodies and the calls is sound. -/
import Derived.Test.YtfkjbiigciabpaaGreatVgInl
namespace Go.Vg

section
variable {U : Type} {I : Interp U} {P : Program} {F : Fr} {ρ ρ' : Env U} {H : Tr Ch} {w w' : World} {hp : Nat → PHeap}

theorem setPs_ts : ∀ (ps : List Tmp) (vs : List SV) (tm : Tr SV) (nt : Nat) (tmps : Array Value), psOk nt ps = true → TSat ρ tm nt tmps →
    TSat ρ (setPs tm ps vs) nt ((ps.zip (denL ρ vs)).foldl (fun tmps (p : Tmp × Value) => tmps.setIfInBounds p.1 p.2) tmps)
  | [], vs, tm, nt, tmps, _, h => by cases vs <;> simpa [setPs] using h
  | p :: ps, [], tm, nt, tmps, _, h => by simpa [setPs, denL] using h
  | p :: ps, v :: vs, tm, nt, tmps, hok, h => by
    simp only [psOk, Bool.and_eq_true] at hok
    simp only [setPs, denL, List.zip_cons_cons, List.foldl_cons]
    have hlt : p < nt := by simpa using hok.1
    have := TSat.put (a := { tmps := tmps, defers := [] }) h (d := some p) (v := v) hlt
    exact setPs_ts ps vs (tm.set p v) nt _ hok.2 this
theorem setPs_bd {n : Nat} : ∀ (ps : List Tmp) (vs : List SV) (tm : Tr SV), TBd n tm → bdL n vs → TBd n (setPs tm ps vs)
  | [], vs, tm, h, _ => by cases vs <;> exact h
  | p :: ps, [], tm, h, _ => h
  | p :: ps, v :: vs, tm, h, hv => by
    simp only [bdL] at hv
    exact setPs_bd ps vs _ (TBd.set h (d := some p) hv.1) hv.2

theorem isNil_eq {α : Type} {l : List α} (h : isNil l = true) : l = [] := by cases l with | nil => rfl | cons _ _ => cases h

theorem yldL_mem {n : Nat} {S : SS} : ∀ {l : Outs} {co : COuts}, yldL n S l = some co →
    (∀ S', (SX.bad, S') ∈ l → (none, S') ∈ co) ∧
    (∀ x S', (x, S') ∈ l → x = .bad ∨ ∃ nt tm ps as bd df, S'.hp.get n = some (.loop .busy .normal nt tm ps as bd df) ∧ S'.df = [] ∧
      ((x = .normal ∧ (some (.bool (.lit true)), S'.back S (S'.hp.set n (.loop .ready .normal nt tm ps as bd df))) ∈ co) ∨
       (x ≠ .normal ∧ (some (.bool (.lit false)), S'.back S (S'.hp.set n (.loop .done x nt tm ps as bd df))) ∈ co)))
  | [], co, h => by simp only [yldL, Option.some.injEq] at h; subst h; simp
  | (x, T) :: l, co, h => by
    simp only [yldL] at h
    split at h
    case h_1 => cases h
    rename_i b hb
    obtain ⟨h1, h2⟩ := yldL_mem hb
    have tl : ∀ p : Option SV × SS, co = p :: b → ∀ y S', (y, S') ∈ l → y = .bad ∨ ∃ nt tm ps as bd df, S'.hp.get n = some (.loop .busy .normal nt tm ps as bd df) ∧ S'.df = [] ∧
      ((y = .normal ∧ (some (.bool (.lit true)), S'.back S (S'.hp.set n (.loop .ready .normal nt tm ps as bd df))) ∈ co) ∨
       (y ≠ .normal ∧ (some (.bool (.lit false)), S'.back S (S'.hp.set n (.loop .done y nt tm ps as bd df))) ∈ co)) := fun p hp y S' hS => by
      subst hp
      rcases h2 y S' hS with e | ⟨nt, tm, ps, as, bd, df, a1, a2, a3⟩
      · exact .inl e
      · refine .inr ⟨nt, tm, ps, as, bd, df, a1, a2, ?_⟩
        rcases a3 with ⟨b1, b2⟩ | ⟨b1, b2⟩
        · exact .inl ⟨b1, List.mem_cons_of_mem _ b2⟩
        · exact .inr ⟨b1, List.mem_cons_of_mem _ b2⟩
    split at h
    · cases h
      refine ⟨fun S' hS => ?_, fun y S' hS => ?_⟩
      · rcases List.mem_cons.1 hS with e | hS
        · cases e; simp
        · exact List.mem_cons_of_mem _ (h1 S' hS)
      · rcases List.mem_cons.1 hS with e | hS
        · cases e; exact .inl rfl
        · exact tl _ rfl y S' hS
    · rename_i hx
      split at h
      case h_2 => cases h
      rename_i nt tm ps as bd df hget
      obtain ⟨hnil, h⟩ := whenB_some h
      have hd := isNil_eq hnil
      split at h
      · cases h
        refine ⟨fun S' hS => ?_, fun y S' hS => ?_⟩
        · rcases List.mem_cons.1 hS with e | hS
          · cases e
          · exact List.mem_cons_of_mem _ (h1 S' hS)
        · rcases List.mem_cons.1 hS with e | hS
          · cases e; exact .inr ⟨nt, tm, ps, as, bd, df, hget, hd, .inl ⟨rfl, by simp⟩⟩
          · exact tl _ rfl y S' hS
      · rename_i hx2
        cases h
        refine ⟨fun S' hS => ?_, fun y S' hS => ?_⟩
        · rcases List.mem_cons.1 hS with e | hS
          · cases e; exact absurd rfl hx
          · exact List.mem_cons_of_mem _ (h1 S' hS)
        · rcases List.mem_cons.1 hS with e | hS
          · cases e; exact .inr ⟨nt, tm, ps, as, bd, df, hget, hd, .inr ⟨fun e => hx2 (by rw [e]), by simp⟩⟩
          · exact tl _ rfl y S' hS

theorem yld_sound {ex : Code → SS → Option Outs} (hex : SoundX I P F ex) : SoundY I P F (yld ex) := by
  intro n args S co h hg hargs ρ w hpre
  unfold yld at h
  split at h
  case h_2 => cases h
  rename_i nt tm ps as bd df hget
  obtain ⟨hok, h⟩ := whenB_some h
  simp only [Bool.and_eq_true] at hok
  have hlen := Nat.eq_of_beq_eq_true hok.1
  split at h
  case h_2 => cases h
  rename_i S2 has
  split at h
  case h_2 => cases h
  rename_i nt' tm' ps' as' bd' df' hget2
  obtain ⟨hnil, h⟩ := whenB_some h
  have hd2 := isNil_eq hnil
  split at h
  case h_2 => cases h
  rename_i outs houts
  obtain ⟨hp, hheap⟩ := hpre.heap
  obtain ⟨fn, tmps, hts, hobj, _⟩ := loop_obj hheap hget
  obtain ⟨m1, m2⟩ := yldL_mem h
  have hnb := (hpre.bd.hp _ _ hget).1
  have htmb := (hpre.bd.hp _ _ hget).2.1
  have hy := run_yield (P := P) (args := (denL ρ args).toArray) hobj (by simp [denL_length]; exact hlen.symm)
  refine ⟨_, _, _, _, _, hy, roundIn_of_wpIn (F := Fence.wide) trivial ?_⟩
  have hzip : (ps.zip (denL ρ args).toArray).foldl (fun tmps (x : Tmp × Value) => tmps.setIfInBounds x.1 x.2) tmps = (ps.toList.zip (denL ρ args)).foldl (fun tmps (x : Tmp × Value) => tmps.setIfInBounds x.1 x.2) tmps := by
    rw [← Array.foldl_toList]; simp
  have hpre1 : Pre I F ρ { S with tm := setPs tm ps.toList args, nt := nt, df := [], ro := some n } { tmps := (ps.zip (denL ρ args).toArray).foldl (fun tmps (x : Tmp × Value) => tmps.setIfInBounds x.1 x.2) tmps, defers := [] } w :=
    ⟨⟨setPs_bd _ _ _ htmb hargs, hpre.bd.hp, hpre.bd.path, (by intro _ h; cases h), (by intro d hd; cases hd; exact hnb)⟩, hpre.path, by rw [hzip]; exact setPs_ts _ _ _ _ _ hok.2 hts, rfl, hpre.heap⟩
  have hw1 := hex as _ _ has (fun S' hS => by simp at hS) ρ _ w hpre1
  refine wpIn_mono hw1 ?_
  intro e a₁ w₁ hpo
  obtain ⟨x, S', ρ', hm, hx, hag, hp', hn, hro⟩ := hpo.ex
  have hm' := List.mem_singleton.1 hm
  cases hm'
  cases e <;> simp only [Match] at hx
  -- the round begins
  obtain ⟨hp2, hheap2⟩ := hp'.heap
  obtain ⟨fn2, tmps2, hts2, hobj2, hsing2⟩ := loop_obj hheap2 hget2
  have hkn : ρ'.k n = ρ.k n := (hag.k n hnb).symm
  obtain ⟨hp3, hheap3⟩ := putObj_turn hheap2 hget2 hsing2 (d := .loop .busy .normal nt' tm' ps' as' bd' df')
    (o' := .loop { state := .busy, pending := none, fn := fn2, tmps := tmps2, params := ps', assign := as', body := bd', defers := ρ'.k df' }) ⟨fn2, tmps2, hts2, rfl⟩
  refine ⟨_, by have := run_beginRound (P := P) hobj2 rfl; rw [hkn] at this; exact this, ?_⟩
  have hnb2 : n < S2.next := Nat.lt_of_lt_of_le hnb hn
  have hcb := (hp'.bd.hp _ _ hget2).2
  have hpre3 : Pre I F ρ' { S2 with hp := S2.hp.set n (.loop .busy .normal nt' tm' ps' as' bd' df') } a₁ (w₁.putObj (ρ.k n) (.loop { state := .busy, pending := none, fn := fn2, tmps := tmps2, params := ps', assign := as', body := bd', defers := ρ'.k df' })) :=
    ⟨⟨hp'.bd.tm, hp'.bd.hp.set hnb2 hcb, hp'.bd.path, hp'.bd.df, hp'.bd.ro⟩, hp'.path, hp'.ts, hp'.df, ⟨hp3, by rw [← hkn]; exact hheap3⟩⟩
  have hw3 := hex bd _ _ houts (fun S' hS => hg S' (m1 S' hS)) ρ' a₁ _ hpre3
  have hfe : Fof ρ' S2.ro = Fence.wide.inRound (ρ.k n) := by rw [hro]; simp only [Fof, hkn]
  rw [show ({ S2 with hp := S2.hp.set n (.loop .busy .normal nt' tm' ps' as' bd' df') } : SS).ro = S2.ro from rfl, hfe] at hw3
  refine wpIn_mono hw3 ?_
  intro e a₄ w₄ hpo4
  obtain ⟨y, S4, ρ4, hm4, hx4, hag4, hp4, hn4, hro4⟩ := hpo4.ex
  have hyb : y ≠ .bad := fun e' => by subst e'; cases e <;> simp [Match] at hx4
  rcases m2 y S4 hm4 with e' | ⟨nt4, tm4, ps4, as4, bd4, df4, hget4, hdf4, hcase⟩
  · exact absurd e' hyb
  · obtain ⟨hpp4, hheap4⟩ := hp4.heap
    obtain ⟨fn4, tmps4, hts4, hobj4, hsing4⟩ := loop_obj hheap4 hget4
    have hkn4 : ρ4.k n = ρ.k n := (hag4.k n hnb2).symm.trans hkn
    have hag04 : Env.Agree S.next ρ ρ4 := hag.trans (hag4.mono hn)
    have hn04 : S.next ≤ S4.next := Nat.le_trans hn hn4
    have hnb4 : n < S4.next := Nat.lt_of_lt_of_le hnb2 hn4
    have hcb4 := (hp4.bd.hp _ _ hget4).2
    -- the round ends, its record turned
    have fin : ∀ (x : SX) (st : LoopState) (b : Bool) (jump : Option Code), x.code = jump → (if jump.isNone then LoopState.ready else LoopState.done) = st → b = jump.isNone →
        (some (.bool (.lit b)), S4.back S (S4.hp.set n (.loop st x nt4 tm4 ps4 as4 bd4 df4))) ∈ co →
        ∃ v w', (Instr.endRound (ρ.k n) jump).run P w₄ = .ok v w' ∧ PostC I F ρ S co (.returned v) w' := fun x st b jump hjump hst hb hmem => by
      have hr := run_endRound (P := P) jump hobj4
      obtain ⟨hp5, hheap5⟩ := putObj_turn hheap4 hget4 hsing4 (d := .loop st x nt4 tm4 ps4 as4 bd4 df4)
        (o' := .loop { state := st, pending := jump, fn := fn4, tmps := tmps4, params := ps4, assign := as4, body := bd4, defers := ρ4.k df4 }) ⟨fn4, tmps4, hts4, by rw [hjump]⟩
      rw [hkn4] at hr hheap5
      rw [hst] at hr
      refine ⟨_, _, hr, ⟨.bool (.lit b), _, ρ4, hmem, by simp [SV.den, BE.den, hb], hag04, hp4.path, ⟨hpre.bd.tm.mono hn04, hp4.bd.hp.set hnb4 hcb4, hp4.bd.path, fun d hd => Nat.lt_of_lt_of_le (hpre.bd.df d hd) hn04, fun d hd => Nat.lt_of_lt_of_le (hpre.bd.ro d hd) hn04⟩,
        ⟨hp5, hheap5⟩, by simp [SV.bd, BE.bd], hn04, rfl, rfl, rfl, rfl⟩⟩
    rcases hcase with ⟨hy, hmem⟩ | ⟨hy, hmem⟩
    · subst hy
      cases e <;> simp only [Match] at hx4
      exact fin .normal .ready true none rfl rfl rfl hmem
    · cases y <;> cases e <;> simp only [Match] at hx4
      · exact absurd rfl hy
      · subst hx4; exact fin (.exit _) .done false (some (.exit _)) rfl rfl rfl hmem
      · subst hx4; exact fin (.goto _) .done false (some (.goto _)) rfl rfl rfl hmem
      · exact fin .ret .done false (some .ret) rfl rfl rfl hmem

theorem rangeL_mem {l : Nat} : ∀ {co : COuts} {outs : Outs}, rangeL l co = some outs →
    (∀ S', ((none : Option SV), S') ∈ co → (SX.bad, S') ∈ outs) ∧
    (∀ v S', (some v, S') ∈ co → ∃ st x nt tm ps as bd df, S'.hp.get l = some (.loop st x nt tm ps as bd df) ∧ st ≠ .busy ∧ x ≠ .bad ∧ (x, { S' with hp := S'.hp.del l }) ∈ outs)
  | [], outs, h => by simp only [rangeL, Option.some.injEq] at h; subst h; simp
  | (r, T) :: co, outs, h => by
    simp only [rangeL] at h
    split at h
    case h_1 => cases h
    rename_i b hb
    obtain ⟨h1, h2⟩ := rangeL_mem hb
    cases r with
    | none =>
      cases h
      refine ⟨fun S' hS => ?_, fun v S' hS => ?_⟩
      · rcases List.mem_cons.1 hS with e | hS
        · cases e; simp
        · exact List.mem_cons_of_mem _ (h1 S' hS)
      · rcases List.mem_cons.1 hS with e | hS
        · cases e
        · obtain ⟨st, x, nt, tm, ps, as, bd, df, a1, a2, a3, a4⟩ := h2 v S' hS
          exact ⟨st, x, nt, tm, ps, as, bd, df, a1, a2, a3, List.mem_cons_of_mem _ a4⟩
    | some v0 =>
      simp only at h
      split at h
      · cases h
      · cases h
      · rename_i hnb hnx hget
        cases h
        refine ⟨fun S' hS => ?_, fun v S' hS => ?_⟩
        · rcases List.mem_cons.1 hS with e | hS
          · cases e
          · exact List.mem_cons_of_mem _ (h1 S' hS)
        · rcases List.mem_cons.1 hS with e | hS
          · cases e
            exact ⟨_, _, _, _, _, _, _, _, hget, fun e => hnb e, fun e => hnx e, by simp⟩
          · obtain ⟨st, x, nt, tm, ps, as, bd, df, a1, a2, a3, a4⟩ := h2 v S' hS
            exact ⟨st, x, nt, tm, ps, as, bd, df, a1, a2, a3, List.mem_cons_of_mem _ a4⟩
      · cases h

/-- What comes behind the iterator: the record is let go, a jump that pends is done. -/
theorem range_post {l : Nat} {co : COuts} {outs : Outs} (hL : rangeL l co = some outs) {S S1 : SS} {a : Act} {ds : List Deferred} {w1 : World} (hag1 : Env.Agree S.next ρ ρ')
    (hp1 : Pre I F ρ' S1 { a with defers := ds } w1) (hn1 : S.next ≤ S1.next) (hro1 : S1.ro = S.ro) (hl : l < S1.next)
    {e : Ending} {w2 : World} (hpo : PostC I F ρ' S1 co e w2) : rangePost (Fof ρ S.ro) 0 P (ρ'.k l) (Post I F ρ S outs) { a with defers := ds } e w2 := by
  obtain ⟨v, S', ρ2, hm, he, hag, hpath, hbd, ⟨hp, hheap⟩, hv, hn, htm, hnt, hdf, hro⟩ := hpo.ex
  subst he
  obtain ⟨m1, m2⟩ := rangeL_mem hL
  obtain ⟨st, x, nt, tm, ps, as, bd, df, hget, hst, hxb, hmem⟩ := m2 v S' hm
  obtain ⟨fn, tmps, hts, hobj, hsing⟩ := loop_obj hheap hget
  have hkl : ρ2.k l = ρ'.k l := (hag.k l hl).symm
  have hend := run_endLoop (P := P) hobj hst
  have hheap2 := hheap.lose hget hsing (putObj_but w2 (ρ2.k l) (.loop { state := .exhausted, pending := x.code, fn, tmps, params := ps, assign := as, body := bd, defers := ρ2.k df }))
  rw [hkl] at hend hheap2
  refine ⟨x.code, _, hend, ?_⟩
  have hHb : HBd S'.next (S'.hp.del l) := fun k c hc => by
    rw [Tr.get_del] at hc; split at hc
    · cases hc
    · exact hbd.hp k c hc
  have hpost : ∀ e, Match x e → Post I F ρ S outs e { a with defers := ds } (w2.putObj (ρ'.k l) (.loop { state := .exhausted, pending := x.code, fn, tmps, params := ps, assign := as, body := bd, defers := ρ2.k df })) := fun e he =>
    ⟨x, _, ρ2, hmem, he, hag1.trans (hag.mono hn1),
      ⟨⟨hbd.tm, hHb, hbd.path, hbd.df, hbd.ro⟩, hpath, by show TSat ρ2 S'.tm S'.nt a.tmps; rw [htm, hnt]; exact hp1.ts.congr hag hp1.bd.tm,
        by show ds = marks ρ2 S'.df; rw [hdf, ← marks_congr hag hp1.bd.df]; exact hp1.df, ⟨_, hheap2⟩⟩, Nat.le_trans hn1 hn, hro.trans hro1⟩
  cases x with
  | normal => exact hpost .normal trivial
  | exit n => exact wpIn_exit (hpost (.exit n) rfl)
  | goto n => exact wpIn_goto (hpost (.goto n) rfl)
  | ret => exact wpIn_ret (hpost .ret trivial)
  | bad => exact absurd rfl hxb

theorem calls_fof {g : FuncId} {args : Array Value} {R : Ending → World → Prop} {ro : Option Nat} (h : CallsIn Fence.wide 0 P g args w R) : CallsIn (Fof ρ ro) (0 - 1) P g args w R := by
  cases ro <;> exact h

theorem range_sound {cf : CallF} (hC : SoundC I P F cf) {f : Operand} {ps : Array Tmp} {as bd : Code} {S : SS} {outs : Outs} (h : rangeS cf f ps as bd S = some outs) (hg : Good I outs) {a : Act} {w : World}
    (hpre : Pre I F ρ S a w) : (Code.rangeFunc f ps as bd).wpIn (Fof ρ S.ro) 0 P (Post I F ρ S outs) a w := by
  unfold rangeS at h
  split at h
  case h_2 => cases h
  rename_i g first cap hf
  have e1 := eval_opnd (ρ := ρ) hpre.ts hf
  have hfb := opnd_bd hpre.bd.tm hf
  simp only [SV.bd] at hfb
  simp only [SV.den, SFn.den] at e1
  obtain ⟨hp, hheap⟩ := hpre.heap
  have run2 : ∀ (l : Nat) (W : World), (resolve a.eval (rangeCall f l) 0).run P W = .ok { target := .fn (.func g) (denL ρ cap).toArray, args := (denL ρ first).toArray ++ #[.func (.yield l) #[] #[]] } W := fun l W => by
    have h2 : (#[Operand.const (Value.func (.yield l) #[] #[])] : Array Operand).map a.eval = #[Value.func (.yield l) #[] #[]] := by simp [Act.eval]
    simp only [resolve, rangeCall, e1, h2, Deferred.ofValue, Sem.run_pure]
  split at h
  · rename_i hro
    simp only at h
    split at h
    case h_2 => cases h
    rename_i co hco
    -- the block for deferred calls, and the record
    have hagA := withK_agree ρ S.next w.heap.size
    have hA : HSat I (ρ.withK S.next w.heap.size) F (S.hp.set S.next .dfr) (w.alloc (.deferred (some []))) _ := hheap.new hpre.bd.hp hagA (d := .dfr) (o := .deferred (some [])) (by simp only [CSat, withK_same])
    have hbA : HBd (S.next + 1) (S.hp.set S.next .dfr) := (hpre.bd.hp.mono (Nat.le_succ _)).set (Nat.lt_succ_self _) trivial
    have hagB := withK_agree (ρ.withK S.next w.heap.size) (S.next + 1) (w.alloc (.deferred (some []))).heap.size
    have hkA : ((ρ.withK S.next w.heap.size).withK (S.next + 1) (w.alloc (.deferred (some []))).heap.size).k S.next = w.heap.size := by
      have := hagB.k S.next (Nat.lt_succ_self _)
      rw [← this, withK_same]
    have hkB : ((ρ.withK S.next w.heap.size).withK (S.next + 1) (w.alloc (.deferred (some []))).heap.size).k (S.next + 1) = w.heap.size + 1 := by
      rw [withK_same]; simp
    have hagAB : Env.Agree S.next ρ ((ρ.withK S.next w.heap.size).withK (S.next + 1) (w.alloc (.deferred (some []))).heap.size) := hagA.trans (hagB.mono (Nat.le_succ _))
    refine wpIn_rangeFunc fun fn _ => ?_
    have hB : HSat I ((ρ.withK S.next w.heap.size).withK (S.next + 1) (w.alloc (.deferred (some []))).heap.size) F ((S.hp.set S.next .dfr).set (S.next + 1) (.loop .ready .normal S.nt S.tm ps as bd S.next))
        ((w.alloc (.deferred (some []))).alloc (.loop { state := .ready, pending := none, fn, tmps := a.tmps, params := ps, assign := as, body := bd, defers := w.heap.size })) _ :=
      hA.new hbA hagB (d := .loop .ready .normal S.nt S.tm ps as bd S.next) (o := .loop { state := .ready, pending := none, fn, tmps := a.tmps, params := ps, assign := as, body := bd, defers := w.heap.size })
        ⟨fn, a.tmps, hpre.ts.congr hagAB hpre.bd.tm, by rw [hkA]; rw [withK_same]; rfl⟩
    have hpre1 : Pre I F ((ρ.withK S.next w.heap.size).withK (S.next + 1) (w.alloc (.deferred (some []))).heap.size)
        { S with hp := (S.hp.set S.next .dfr).set (S.next + 1) (.loop .ready .normal S.nt S.tm ps as bd S.next), next := S.next + 2, df := S.next :: S.df }
        { a with defers := [{ target := .collected w.heap.size, args := #[] }] ++ a.defers } ((w.alloc (.deferred (some []))).alloc (.loop { state := .ready, pending := none, fn, tmps := a.tmps, params := ps, assign := as, body := bd, defers := w.heap.size })) :=
      ⟨⟨hpre.bd.tm.mono (by show S.next ≤ S.next + 2; omega), (hbA.mono (Nat.le_succ _)).set (by show S.next + 1 < S.next + 2; omega) ⟨hpre.bd.tm.mono (by show S.next ≤ S.next + 2; omega), by show S.next < S.next + 2; omega⟩,
        fun p hp => PI.bd_mono (by show S.next ≤ S.next + 2; omega) p (hpre.bd.path p hp), fun d hd => by
          rcases List.mem_cons.1 hd with e | hd
          · subst e; show S.next < S.next + 2; omega
          · exact Nat.lt_of_lt_of_le (hpre.bd.df d hd) (by show S.next ≤ S.next + 2; omega), fun d hd => Nat.lt_of_lt_of_le (hpre.bd.ro d hd) (by show S.next ≤ S.next + 2; omega)⟩,
        holds_congr hagAB hpre.bd.path hpre.path, hpre.ts.congr hagAB hpre.bd.tm, by
          show [({ target := .collected w.heap.size, args := #[] } : Deferred)] ++ a.defers = marks _ (S.next :: S.df)
          simp only [marks, List.map_cons, hkA, List.singleton_append]
          rw [hpre.df]; exact congrArg _ (marks_congr hagAB hpre.bd.df), ⟨_, hB⟩⟩
    obtain ⟨m1, _⟩ := rangeL_mem h
    have hargsb : bdL (S.next + 2) (first ++ [.func (.yld (S.next + 1)) [] []] ++ cap) := bdL_append (bdL_append (bdL_mono (by omega) _ hfb.2.1) (by simp [bdL, SV.bd, SFn.bd])) (bdL_mono (by omega) _ hfb.2.2)
    obtain ⟨hfn, hcall⟩ := hC g _ _ co hco (fun S' hS => hg S' (m1 S' hS)) hargsb _ _ hpre1.preC
    have hden : (denL ((ρ.withK S.next w.heap.size).withK (S.next + 1) (w.alloc (.deferred (some []))).heap.size) (first ++ [.func (.yld (S.next + 1)) [] []] ++ cap)).toArray =
        ((denL ρ first).toArray ++ #[.func (.yield (w.heap.size + 1)) #[] #[]]) ++ (denL ρ cap).toArray := by
      rw [denL_append, denL_append, ← denL_congr hagAB first hfb.2.1, ← denL_congr hagAB cap hfb.2.2]
      simp [denL, SV.den, SFn.den, withK_same]
    rw [hden] at hcall
    refine ⟨w.heap.size + 1, _, ((w.alloc (.deferred (some []))).alloc (.loop { state := .ready, pending := none, fn, tmps := a.tmps, params := ps, assign := as, body := bd, defers := w.heap.size })), _, ((w.alloc (.deferred (some []))).alloc (.loop { state := .ready, pending := none, fn, tmps := a.tmps, params := ps, assign := as, body := bd, defers := w.heap.size })), g, ((denL ρ first).toArray ++ #[.func (.yield (w.heap.size + 1)) #[] #[]] ++ (denL ρ cap).toArray), ((w.alloc (.deferred (some []))).alloc (.loop { state := .ready, pending := none, fn, tmps := a.tmps, params := ps, assign := as, body := bd, defers := w.heap.size })), by rw [hro]; exact run_enterLoop_outer fn a.tmps ps as bd, run2 _ _, fun _ _ => Fof_fn _ _ _, ?_, (by intro h; rw [Fof_depth] at h; cases h), ?_⟩
    · simp only [invoke, run_callFunc hfn]
    · refine CallsIn.mono (calls_fof hcall) fun e w2 hpo => ?_
      have := range_post (P := P) (ρ := ρ) (a := a) (S := S) (ds := [{ target := .collected w.heap.size, args := #[] }] ++ a.defers) h hagAB hpre1 (by show S.next ≤ S.next + 2; omega) (by rfl) (by show S.next + 1 < S.next + 2; omega) hpo
      rw [hkB] at this; exact this
  · rename_i r hro
    split at h
    case h_2 => cases h
    rename_i st0 x0 nt0 tm0 ps0 as0 bd0 dn hget
    simp only at h
    split at h
    case h_2 => cases h
    rename_i co hco
    obtain ⟨fn0, tmps0, hts0, hobj0, _⟩ := loop_obj hheap hget
    have hdn := (hpre.bd.hp _ _ hget).2.2
    have hagA := withK_agree ρ S.next w.heap.size
    refine wpIn_rangeFunc fun fn _ => ?_
    have hA : HSat I (ρ.withK S.next w.heap.size) F (S.hp.set S.next (.loop .ready .normal S.nt S.tm ps as bd dn))
        (w.alloc (.loop { state := .ready, pending := none, fn, tmps := a.tmps, params := ps, assign := as, body := bd, defers := ρ.k dn })) _ :=
      hheap.new hpre.bd.hp hagA (d := .loop .ready .normal S.nt S.tm ps as bd dn) (o := .loop { state := .ready, pending := none, fn, tmps := a.tmps, params := ps, assign := as, body := bd, defers := ρ.k dn })
        ⟨fn, a.tmps, hpre.ts.congr hagA hpre.bd.tm, by rw [withK_same, ← hagA.k dn hdn]; rfl⟩
    have hpre1 : Pre I F (ρ.withK S.next w.heap.size) { S with hp := S.hp.set S.next (.loop .ready .normal S.nt S.tm ps as bd dn), next := S.next + 1 } { a with defers := [] ++ a.defers }
        (w.alloc (.loop { state := .ready, pending := none, fn, tmps := a.tmps, params := ps, assign := as, body := bd, defers := ρ.k dn })) :=
      ⟨⟨hpre.bd.tm.mono (Nat.le_succ _), (hpre.bd.hp.mono (Nat.le_succ _)).set (Nat.lt_succ_self _) ⟨hpre.bd.tm.mono (Nat.le_succ _), Nat.lt_succ_of_lt hdn⟩,
        fun p hp => PI.bd_mono (Nat.le_succ _) p (hpre.bd.path p hp), fun d hd => Nat.lt_succ_of_lt (hpre.bd.df d hd), fun d hd => Nat.lt_succ_of_lt (hpre.bd.ro d hd)⟩,
        holds_congr hagA hpre.bd.path hpre.path, hpre.ts.congr hagA hpre.bd.tm, by
          show [] ++ a.defers = marks _ S.df
          rw [List.nil_append, hpre.df]; exact marks_congr hagA hpre.bd.df, ⟨_, hA⟩⟩
    obtain ⟨m1, _⟩ := rangeL_mem h
    have hargsb : bdL (S.next + 1) (first ++ [.func (.yld S.next) [] []] ++ cap) := bdL_append (bdL_append (bdL_mono (Nat.le_succ _) _ hfb.2.1) (by simp [bdL, SV.bd, SFn.bd])) (bdL_mono (Nat.le_succ _) _ hfb.2.2)
    obtain ⟨hfn, hcall⟩ := hC g _ _ co hco (fun S' hS => hg S' (m1 S' hS)) hargsb _ _ hpre1.preC
    have hden : (denL (ρ.withK S.next w.heap.size) (first ++ [.func (.yld S.next) [] []] ++ cap)).toArray =
        ((denL ρ first).toArray ++ #[.func (.yield w.heap.size) #[] #[]]) ++ (denL ρ cap).toArray := by
      rw [denL_append, denL_append, ← denL_congr hagA first hfb.2.1, ← denL_congr hagA cap hfb.2.2]
      simp [denL, SV.den, SFn.den, withK_same]
    rw [hden] at hcall
    refine ⟨w.heap.size, [], (w.alloc (.loop { state := .ready, pending := none, fn, tmps := a.tmps, params := ps, assign := as, body := bd, defers := ρ.k dn })), _, (w.alloc (.loop { state := .ready, pending := none, fn, tmps := a.tmps, params := ps, assign := as, body := bd, defers := ρ.k dn })), g, ((denL ρ first).toArray ++ #[.func (.yield w.heap.size) #[] #[]] ++ (denL ρ cap).toArray), (w.alloc (.loop { state := .ready, pending := none, fn, tmps := a.tmps, params := ps, assign := as, body := bd, defers := ρ.k dn })), by rw [hro]; exact run_enterLoop_inner hobj0 fn a.tmps ps as bd, run2 _ _, fun _ _ => Fof_fn _ _ _, ?_, (by intro h; rw [Fof_depth] at h; cases h), ?_⟩
    · simp only [invoke, run_callFunc hfn]
    · refine CallsIn.mono (calls_fof hcall) fun e w2 hpo => ?_
      have := range_post (P := P) (ρ := ρ) (a := a) (S := S) (ds := [] ++ a.defers) h hagA hpre1 (Nat.le_succ _) rfl (Nat.lt_succ_self _) hpo
      rw [withK_same] at this; exact this

end
end Go.Vg
