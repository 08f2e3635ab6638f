/- The engine's step of one operation is sound, with its guard, and so is a region whose order is fixed. Conditions: those of what runs the calls. -/
import Derived.Test.YtfkjbiigciabpaaGreatVgOp
namespace Go.Vg

section
variable {U : Type} {I : Interp U} {P : Program} {F : Fr} {ρ ρ' : Env U}


/-- What an operation has come to, its slot set. -/
theorem Came.post {S S' : SS} {r : Option SV} {nx : Next} {w' : World} (hc : Came I F ρ S r S' nx w' ρ') {a : Act} {w : World} (hpre : Pre I F ρ S a w) {d : Option Tmp} (hd : dstOk S d = true)
    (hpath : True) : Pre I F ρ' S' a w' := by
  obtain ⟨hv, hag, hheap, hk, hbd⟩ := hc
  exact ⟨hbd, (by rcases hk.path with e | e; (rw [e]; exact holds_congr hag hpre.bd.path hpre.path); exact e), by rw [hk.tm, hk.nt]; exact hpre.ts.congr hag hpre.bd.tm,
    by rw [hk.df, ← marks_congr hag hpre.bd.df]; exact hpre.df, hheap⟩

theorem opCore_sound {G : GT} (hG : GOk P G) {wr : SS → Op → Option (Option SV × SS)} (hW : SoundW I P F wr) {cf yf : CallF} (hC : SoundC I P F cf) (hY : SoundY I P F yf) {o : Oper} {S : SS} {outs : Outs}
    (h : opCore G wr cf yf o S = some outs) (hg : Good I outs) {a av : Act} {w : World} (hpre : Pre I F ρ S av w) (hev : ∀ x ∈ o.op.operands, ∀ u, opnd S.tm x = some u → a.eval x = u.den ρ)
    {K : Act → World → Prop} {Q : Exit → Act → World → Prop} (hK : ∀ x w', Post I F ρ S outs .normal (av.put o.dst x) w' → K (a.put o.dst x) w') : o.wpIn (Fof ρ S.ro) 0 P a w K Q := by
  obtain ⟨hd, h⟩ := whenB_some h
  refine ⟨fun f _ => Fof_fn _ _ _, ?_⟩
  obtain ⟨hp, hheap⟩ := hpre.heap
  cases hrd : rd G.ty S.tm S.hp S.path o.op with
  | some v =>
    rw [hrd] at h
    simp only [Option.some.injEq] at h; subst h
    have hnd := rd_noDefer hrd
    rw [Oper.semAt_eq _ _ _ hnd, rd_sound hG.ty hpre.path hheap hrd hev, Oper.uponIn_value]
    have hvb := rd_bd hpre.bd.tm hpre.bd.hp hrd
    exact hK _ _ ⟨.normal, S.setD o.dst v, ρ, by simp, trivial, Env.Agree.refl _ _, hpre.setD hd hvb, Nat.le_refl _, rfl⟩
  | none =>
    rw [hrd] at h
    simp only at h
    cases hwr : wr S o.op with
    | some p =>
      obtain ⟨r, S'⟩ := p
      rw [hwr] at h
      obtain ⟨hnd, nx, w', ρ', hrun, hcame⟩ := hW S S' o r hwr ρ w hp hpre.bd hpre.path hheap a.eval hev
      rw [Oper.semAt_eq _ _ _ hnd, hrun]
      have hp' := hcame.post hpre hd trivial
      have hk := hcame.keeps
      have hd' : dstOk S' o.dst = true := by unfold dstOk at hd ⊢; rw [hk.nt]; exact hd
      cases r with
      | some v =>
        simp only [Option.some.injEq] at h; subst h
        obtain ⟨hv1, hv2⟩ := hcame.val
        rw [hv1, Oper.uponIn_value]
        exact hK _ _ ⟨.normal, S'.setD o.dst v, ρ', by simp, trivial, hcame.agree, hp'.setD hd' hv2, hk.next, hk.ro⟩
      | none =>
        simp only [Option.some.injEq] at h; subst h
        have hv1 : nx = .skip := hcame.val
        rw [hv1, Oper.uponIn_skip]
        exact hK _ _ ⟨.normal, S'.delD o.dst, ρ', by simp, trivial, hcame.agree, hp'.delD, hk.next, hk.ro⟩
    | none =>
      rw [hwr] at h
      simp only at h
      have hnd : ∀ c, o.op ≠ .defer c := by intro c e; rw [e] at h; simp only [callOp, reduceCtorEq] at h
      rw [Oper.semAt_eq _ _ _ hnd]
      exact (callOp_sound hG hC hY h hg hpre hev hd hK).2

theorem opS_sound {G : GT} (hG : GOk P G) {wr : SS → Op → Option (Option SV × SS)} (hW : SoundW I P F wr) {cf yf : CallF} (hC : SoundC I P F cf) (hY : SoundY I P F yf) {o : Oper} {S : SS} {outs : Outs}
    (h : opS G wr cf yf o S = some outs) (hg : Good I outs) {a av : Act} {w : World} (hpre : Pre I F ρ S av w) (hev : ∀ x ∈ o.op.operands, ∀ u, opnd S.tm x = some u → a.eval x = u.den ρ)
    {K : Act → World → Prop} {Q : Exit → Act → World → Prop} (hK : ∀ x w', Post I F ρ S outs .normal (av.put o.dst x) w' → K (a.put o.dst x) w') : o.wpIn (Fof ρ S.ro) 0 P a w K Q := by
  unfold opS at h
  cases hf : forkNeeds (needs G.ty S.tm o.op) S with
  | mk l r =>
    rw [hf] at h
    cases r with
    | none =>
      simp only [Option.some.injEq] at h; subst h
      obtain ⟨S', e, _⟩ := forkNeeds_sound hf (needs_bd hpre.bd.tm) hpre hg
      cases e
    | some S1 =>
      simp only at h
      cases hc : opCore G wr cf yf o S1 with
      | none => rw [hc] at h; cases h
      | some l' =>
        rw [hc] at h
        simp only [Option.some.injEq] at h; subst h
        obtain ⟨S', e, hp1, htm, hnt, hdf, hn, hro, _⟩ := forkNeeds_sound hf (needs_bd hpre.bd.tm) hpre (hg.sub fun p hp => List.mem_append_left _ hp)
        cases e
        have := opCore_sound hG hW hC hY hc (hg.sub fun p hp => List.mem_append_right _ hp) hp1 (by rw [htm]; exact hev) (K := K) (Q := Q) (fun x' w' hpo => hK x' w' (by
          obtain ⟨x, S2, ρ2, hm, hx, hag, hpp, hn2, hr2⟩ := hpo.ex
          rw [hn] at hag hn2
          exact ⟨x, S2, ρ2, List.mem_append_right _ hm, hx, hag, hpp, hn2, hr2.trans hro⟩))
        rw [hro] at this; exact this

/-- The slots that an operation looks at. -/
def looks (ops : List Oper) (o : Oper) : List Nat := o.looksAt ops.toArray
theorem mem_looks {ops : List Oper} {o : Oper} {t : Nat} (h : Operand.tmp t ∈ o.op.operands) : t ∈ looks ops o :=
  List.mem_append_left _ (List.mem_filterMap.2 ⟨.tmp t, by simpa using h, rfl⟩)
theorem mem_looks_guard {ops : List Oper} {o oj : Oper} {j d : Nat} {want : Bool} (hg : o.guard = some (j, want)) (hj : ops[j]? = some oj) (hd : oj.dst = some d) : d ∈ looks ops o := by
  refine List.mem_append_right _ ?_
  simp [hg, hj, hd]
theorem eval_looks {tm : Tr SV} {nt : Nat} {ops : List Oper} {o : Oper} {a av : Act} (ht : TSat ρ tm nt av.tmps) (hag : ∀ t ∈ looks ops o, av.tmps[t]? = a.tmps[t]?) :
    ∀ x ∈ o.op.operands, ∀ u, opnd tm x = some u → a.eval x = u.den ρ := fun x hx u hu => by
  rw [← eval_opnd ht hu]
  cases x with
  | tmp t => simp only [Act.eval, Array.getD_eq_getD_getElem?, hag t (mem_looks hx)]
  | _ => rfl

/-- What is asked at an operation's place in a list. -/
def wpG (Fe : Fence) (P : Program) (ops : Array Oper) (Q : Exit → Act → World → Prop) (o : Oper) (K : Act → World → Prop) (a : Act) (w : World) : Prop :=
  if Region.wanted o (yielded ops a.tmps) then o.wpIn Fe 0 P a w K Q else K (a.put o.dst undef) w

theorem yielded_of {tm : Tr SV} {nt : Nat} {a av : Act} (ht : TSat ρ tm nt av.tmps) {ops : List Oper} {j d : Nat} {oj : Oper} {e : BE} (hj : ops[j]? = some oj) (hd : oj.dst = some d) (he : tm.get d = some (.bool e))
    (hag : av.tmps[d]? = a.tmps[d]?) : yielded ops.toArray a.tmps j = some (e.den ρ) := by
  have := ht.2 d _ he
  rw [hag] at this
  simp only [SV.den] at this
  simp [yielded, hj, hd, this]

theorem yielded_nil {tm : Tr SV} {nt : Nat} {a av : Act} (ht : TSat ρ tm nt av.tmps) {ops : List Oper} {j d : Nat} {oj : Oper} (hj : ops[j]? = some oj) (hd : oj.dst = some d) (he : tm.get d = some (.tup []))
    (hag : av.tmps[d]? = a.tmps[d]?) : yielded ops.toArray a.tmps j = none := by
  have := ht.2 d _ he
  rw [hag] at this
  simp only [SV.den] at this
  simp [yielded, hj, hd, this]

theorem assume_dst {S : SS} {e : BE} {b : Bool} {d : Option Tmp} (h : dstOk S d = true) : dstOk (assume S e b) d = true := by
  cases d with
  | none => rfl
  | some d => simp only [dstOk, (assume_hp S e b).2.2.1] at h ⊢; exact h

theorem opG_sound {G : GT} (hG : GOk P G) {wr : SS → Op → Option (Option SV × SS)} (hW : SoundW I P F wr) {cf yf : CallF} (hC : SoundC I P F cf) (hY : SoundY I P F yf) {ops : List Oper} {o : Oper} {S : SS} {outs : Outs}
    (h : opG G wr cf yf ops o S = some outs) (hg : Good I outs) {a av : Act} {w : World} (hpre : Pre I F ρ S av w) (hag : ∀ t ∈ looks ops o, av.tmps[t]? = a.tmps[t]?)
    {K : Act → World → Prop} {Q : Exit → Act → World → Prop} (hK : ∀ x w', Post I F ρ S outs .normal (av.put o.dst x) w' → K (a.put o.dst x) w') : wpG (Fof ρ S.ro) P ops.toArray Q o K a w := by
  have hev := eval_looks (o := o) hpre.ts hag
  unfold opG at h
  unfold wpG
  cases hgd : o.guard with
  | none =>
    rw [hgd] at h
    simp only [Region.wanted, hgd, if_true]
    exact opS_sound hG hW hC hY h hg hpre hev hK
  | some p =>
    obtain ⟨j, want⟩ := p
    rw [hgd] at h
    simp only at h
    split at h
    case h_2 => cases h
    rename_i oj hj
    split at h
    case h_2 => cases h
    rename_i d hdd
    split at h
    case h_3 => cases h
    case h_2 =>
      rename_i he
      obtain ⟨hd, h⟩ := whenB_some h
      cases h
      have hy := yielded_nil (a := a) hpre.ts hj hdd he (hag d (mem_looks_guard hgd hj hdd))
      simp only [Region.wanted, hgd, hy]
      rw [if_neg (by simp)]
      exact hK _ _ ⟨.normal, S.nil o.dst, ρ, by simp, trivial, Env.Agree.refl _ _, hpre.nil hd, Nat.le_refl _, rfl⟩
    rename_i e he
    have hy := yielded_of (a := a) hpre.ts hj hdd he (hag d (mem_looks_guard hgd hj hdd))
    have heb := hpre.bd.tm _ _ he
    simp only [SV.bd] at heb
    split at h
    · rename_i b hk
      have hb := known_sound hpre.path _ _ hk
      cases hbw : b == want with
      | true =>
        rw [hbw] at h
        have : b = want := by simpa using hbw
        simp only [Region.wanted, hgd, hy, hb, this, beq_self_eq_true, if_true]
        exact opS_sound hG hW hC hY h hg hpre hev hK
      | false =>
        rw [hbw] at h
        simp only [cond_false] at h
        obtain ⟨hd, h⟩ := whenB_some h
        cases h
        have hne : ¬ (some b == some want) = true := by
          intro hc
          rw [Option.some_beq_some] at hc
          rw [hc] at hbw; cases hbw
        simp only [Region.wanted, hgd, hy, hb]
        rw [if_neg hne]
        exact hK _ _ ⟨.normal, S.nil o.dst, ρ, by simp, trivial, Env.Agree.refl _ _, hpre.nil hd, Nat.le_refl _, rfl⟩
    · split at h
      case h_2 => cases h
      rename_i l hl
      obtain ⟨hd, h⟩ := whenB_some h
      cases h
      obtain ⟨h1, h2, h3, h4, h5, h6⟩ := assume_hp S e want
      obtain ⟨g1, g2, g3, g4, g5, g6⟩ := assume_hp S e (!want)
      by_cases hev1 : e.den ρ = want
      · simp only [Region.wanted, hgd, hy, hev1, beq_self_eq_true, if_true]
        have := opS_sound hG hW hC hY hl (hg.sub fun p hp => List.mem_cons_of_mem _ hp) (hpre.assume heb hev1) (by rw [h2]; exact hev) (K := K) (Q := Q) (fun x' w' hpo => hK x' w' (by
          obtain ⟨x, S2, ρ2, hm, hx, hag, hpp, hn2, hr2⟩ := hpo.ex
          rw [h5] at hag hn2
          exact ⟨x, S2, ρ2, List.mem_cons_of_mem _ hm, hx, hag, hpp, hn2, hr2.trans h6⟩))
        rw [h6] at this; exact this
      · have hev' : e.den ρ = !want := by cases hh : e.den ρ <;> cases want <;> simp_all
        have hne : ¬ (some (e.den ρ) == some want) = true := by
          intro hc
          rw [Option.some_beq_some] at hc
          exact hev1 (by simpa using hc)
        simp only [Region.wanted, hgd, hy]
        rw [if_neg hne]
        exact hK _ _ ⟨.normal, (assume S e (!want)).nil o.dst, ρ, by simp, trivial, Env.Agree.refl _ _, (hpre.assume heb hev').nil (assume_dst hd), by show S.next ≤ _; rw [SS.nil, SS.setD]; simp only [g5]; exact Nat.le_refl _, by rw [SS.nil, SS.setD]; exact g6⟩

theorem seqI_sound {G : GT} (hG : GOk P G) {wr : SS → Op → Option (Option SV × SS)} (hW : SoundW I P F wr) {cf yf : CallF} (hC : SoundC I P F cf) (hY : SoundY I P F yf) {ops : List Oper} :
    ∀ (is : List Nat) (S : SS) (outs : Outs), seqI G wr cf yf ops is S = some outs → Good I outs → ∀ (ρ : Env U) (a : Act) (w : World), Pre I F ρ S a w →
      ∀ Q : Exit → Act → World → Prop, (∀ a' w', Post I F ρ S outs .normal a' w' → Q .normal a' w') → wpOpsIn (Fof ρ S.ro) 0 P ops.toArray Q is a w
  | [], S, outs, h, _, ρ, a, w, hpre, Q, hQ => by
    simp only [seqI, Option.some.injEq] at h; subst h
    exact hQ a w ⟨.normal, S, ρ, by simp, trivial, Env.Agree.refl _ _, hpre, Nat.le_refl _, rfl⟩
  | i :: is, S, outs, h, hg, ρ, a, w, hpre, Q, hQ => by
    simp only [seqI] at h
    split at h
    case h_2 => cases h
    rename_i o ho
    simp only [bindS] at h
    split at h
    case h_2 => cases h
    rename_i l hl
    have hw := opG_sound (K := wpOpsIn (Fof ρ S.ro) 0 P ops.toArray Q is) (Q := Q) hG hW hC hY hl (Good.ofBind h hg) hpre (fun _ _ => rfl) (fun x' w' hpo => by
      obtain ⟨x, S', ρ', hm, hx, hag, hp, hn, hro⟩ := hpo.ex
      have hxn : x = .normal := by cases x <;> simp [Match] at hx ⊢
      subst hxn
      obtain ⟨o', ho', hs⟩ := bindL_mem h hm
      have := seqI_sound hG hW hC hY is S' o' ho' (hg.sub hs) ρ' _ w' hp Q (fun a2 w2 h2 => hQ a2 w2 (h2.bind hag hn hro hs))
      rw [hro, ← Fof_congr hag hpre.bd.ro] at this; exact this)
    unfold wpG at hw
    have ho2 : ops.toArray[i]? = some o := by simpa using ho
    simp only [wpOpsIn, ho2]
    split
    · rename_i hw1
      rw [if_pos hw1] at hw; exact hw
    · rename_i hw1
      rw [if_neg hw1] at hw
      exact ⟨fun f _ => Fof_fn _ _ _, hw⟩

end
end Go.Vg
