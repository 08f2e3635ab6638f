/- The engine is sound: what its walk of a function's body says, the model does. Conditions: the tables are the program's; the contracts that are handed in hold. -/
import Derived.Test.YtfkjbiigciabpaaGreatVgRange
import Derived.Test.YtfkjbiigciabpaaGreatVgDraw3
namespace Go.Vg

section
variable {U : Type} {I : Interp U} {P : Program} {F : Fr} {ρ ρ' : Env U}

/-- The contracts that are handed in hold. -/
def SoundT (I : Interp U) (P : Program) (F : Fr) (ct : CT) : Prop :=
  ∀ g t, ct g = some t → ∀ (args : List SV) (S : SS) (outs : COuts), t args S = some outs → GoodC I outs → bdL S.next args → ∀ (ρ : Env U) (w : World), PreC I F ρ S w →
    (∃ fn : Func, P.funcs[g]? = some fn ∧ fn.body.isSome ∧ fn.name ≠ "runtime.NumGoroutine") ∧ CallsIn Fence.wide 0 P g (denL ρ args).toArray w (PostC I F ρ S outs)

theorem callT_sound {ct : CT} (hT : SoundT I P F ct) {cf : CallF} (hC : SoundC I P F cf) : SoundC I P F (callT ct cf) := by
  intro f args S outs h hg hb ρ w hp
  unfold callT at h
  split at h
  · rename_i t ht; exact hT f t ht args S outs h hg hb ρ w hp
  · exact hC f args S outs h hg hb ρ w hp

theorem ltO_sound {es : List Edge} {i : Nat} (h : ltO es i = true) : ∀ e ∈ es, Region.binds .any e = true → e.on < i := by
  induction es with
  | nil => intro e he; cases he
  | cons x es ih =>
    intro e he hb
    simp only [ltO, Bool.and_eq_true] at h
    rcases List.mem_cons.1 he with y | he
    · subst y; rw [hb] at h; simpa using h.1
    · exact ih h.2 e he hb
theorem ltOk_sound {ops : List Oper} : ∀ {k : Nat}, ltOk ops k = true → ∀ (i : Nat) (o : Oper), ops[i]? = some o → ∀ e ∈ o.after.toList, Region.binds .any e = true → e.on < k + i := by
  induction ops with
  | nil => intro k _ i o ho; simp at ho
  | cons o os ih =>
    intro k h i o' ho e he hb
    simp only [ltOk, Bool.and_eq_true] at h
    cases i with
    | zero =>
      simp only [List.getElem?_cons_zero, Option.some.injEq] at ho
      subst ho; exact ltO_sound h.1 e he hb
    | succ i =>
      simp only [List.getElem?_cons_succ] at ho
      have := ih h.2 i o' ho e he hb
      omega

theorem draw_sound {G : GT} (hG : GOk P G) {wr : SS → Op → Option (Option SV × SS)} (hW : ∀ F, SoundW I P F wr) {cf yf : CallF} (hC : ∀ F, SoundC I P F cf) (hY : ∀ F, SoundY I P F yf) {id : Nat} {ops : List Oper} {S : SS} {outs : Outs}
    (hlt : ltOk ops 0 = true) (h : drawS G wr cf yf ops S = some outs) (hg : Good I outs) {a : Act} {w : World} (hpre : Pre I F ρ S a w) :
    (Code.region id ⟨ops⟩ true).wpIn (Fof ρ S.ro) 0 P (Post I F ρ S outs) a w := by
  unfold drawS at h
  simp only at h
  obtain ⟨hA, h⟩ := whenB_some h
  split at h
  case h_2 => cases h
  rename_i l hl
  obtain ⟨hbn, hbb⟩ := bindD_mem h
  have hpre' : Pre I F ρ S a { w with drawn := w.drawn + 1 } := by
    obtain ⟨hp, hh⟩ := hpre.heap
    exact ⟨hpre.bd, hpre.path, hpre.ts, hpre.df, ⟨hp, hh.drew _⟩⟩
  obtain ⟨done', S', av', hm', hp', hsame, hz', hle, hge, htm'⟩ := passR_sound _ _ _ _ hl (fun d T hT => hg _ (hbb d T hT)) hpre'
  obtain ⟨o', hoo, hs⟩ := hbn done' S' hm'
  refine wpIn_region_any hG.mixed ?_
  have hsz : (⟨ops⟩ : Array Oper).size = ops.length := rfl
  rw [hsz]
  have hnd : ∀ i, ¬ Dn (Array.replicate ops.length false) i := fun i h => by
    unfold Dn at h
    rw [Array.getD_eq_getD_getElem?, Array.getElem?_replicate] at h
    split at h <;> cases h
  have hleft : left (Array.replicate ops.length false) ops.length = ops.length := by
    unfold left
    rw [List.countP_eq_length.2]
    · simp
    · intro i _
      cases hh : (Array.replicate ops.length false).getD i false with
      | false => rfl
      | true => exact absurd hh (hnd i)
  have hlt' := ltOk_sound hlt
  have hcl := clF_ok (ops.map dmOf) [] [] rfl (fun i c hc => by simp at hc)
  have := draw_sim hG hW hC hY (dms := ops.map dmOf) (cls := clF (ops.map dmOf) []) rfl (by simpa using hcl) (fun i o ho e he hb => by have := hlt' i o ho e (Array.mem_toList_iff.2 he) hb; omega) hA
    (Post I F ρ S outs) (ops.length + 1) ops.length (Array.replicate ops.length false) 0 done' S' o' ρ a { w with drawn := w.drawn + 1 } hleft hoo (hg.sub hs)
    ⟨by simp, fun i h => absurd h (hnd i), fun i dm h => absurd h (hnd i), fun i o hd _ ho => ?_, fun i h => ?_, ⟨av', F, fun _ => 0, Ext.refl F, hp', ?_, hz', fun i h => absurd h (hnd i), fun i j h => absurd h (hnd i), fun t ht _ => ?_⟩⟩
    (fun a2 w2 h2 => by
      obtain ⟨z, S3, ρ3, hm3, hx3, hag3, hp3, hn3, hr3⟩ := h2.ex
      rw [hsame.next] at hag3 hn3
      exact ⟨z, S3, ρ3, hs _ hm3, hx3, hag3, hp3, hn3, hr3.trans hsame.ro⟩)
  · rw [hsame.ro] at this; exact this
  · rcases hge i hd with h1 | ⟨o2, h1, h2⟩
    · simp [has] at h1
    · rw [ho] at h1; cases h1; exact h2
  · simp [has] at h
  · rw [hp'.df, hsame.df, ← hpre.df]
  · refine htm' t fun y o h1 _ h3 => ht y o h1 (hnd y) h3

theorem mapC_mem {id : Nat} : ∀ {l : Outs} {x : SX} {S : SS}, (x, S) ∈ l → ∃ y, (y, S) ∈ mapC id l ∧ (match x with | .exit n => y = cond (Nat.beq n id) .normal (.exit n) | x => y = x)
  | (z, T) :: l, x, S, h => by
    rcases List.mem_cons.1 h with e | h
    · cases e
      cases z <;> simp only [mapC] <;> exact ⟨_, List.mem_cons_self, rfl⟩
    · obtain ⟨y, h1, h2⟩ := mapC_mem (id := id) h
      exact ⟨y, by cases z <;> simp only [mapC] <;> exact List.mem_cons_of_mem _ h1, h2⟩

theorem exec_sound {G : GT} (hG : GOk P G) {wr : SS → Op → Option (Option SV × SS)} (hW : ∀ F, SoundW I P F wr) {ct : CT} (hT : ∀ F, SoundT I P F ct) : ∀ (f : Nat) (F : Fr), SoundX I P F (exec G wr ct f) := by
  intro f
  induction f with
  | zero => intro F c S outs h; simp [exec] at h
  | succ f ihA =>
    have hCA : ∀ F, SoundC I P F (callT ct (inl G (exec G wr ct f))) := fun F => callT_sound (hT F) (inl_sound hG (ihA F))
    have hYA : ∀ F, SoundY I P F (yld (exec G wr ct f)) := fun F => yld_sound (ihA F)
    intro F
    have ih := ihA F
    have hC := hCA F
    have hY := hYA F
    intro c S outs h hg ρ a w hpre
    have one : ∀ {x : SX} {e : Exit}, outs = [(x, S)] → Match x e → Post I F ρ S outs e a w := fun {x e} ho hx => ⟨x, S, ρ, by rw [ho]; simp, hx, Env.Agree.refl _ _, hpre, Nat.le_refl _, rfl⟩
    unfold exec at h
    split at h
    · simp only [Option.some.injEq] at h; exact wpIn_skip (one h.symm trivial)
    · simp only [Option.some.injEq] at h; exact wpIn_label (one h.symm trivial)
    · simp only [Option.some.injEq] at h; exact wpIn_exit (one h.symm rfl)
    · simp only [Option.some.injEq] at h; exact wpIn_goto (one h.symm rfl)
    · simp only [Option.some.injEq] at h; exact wpIn_ret (one h.symm trivial)
    · rename_i x y
      simp only [bindS] at h
      split at h
      case h_2 => cases h
      rename_i l hl
      refine wpIn_seq (wpIn_mono (ih x S l hl (Good.ofBind h hg) ρ a w hpre) ?_)
      refine post_then h (fun _ _ _ h => h) ?_
      intro S' o ho hs ρ' a' w' hag hp hn hro
      have := ih y S' o ho (hg.sub hs) ρ' a' w' hp
      rw [hro, ← Fof_congr hag hpre.bd.ro] at this
      exact wpIn_mono this fun e a w h => h.bind hag hn hro hs
    · rename_i c x y
      unfold condS at h
      split at h
      case h_2 => cases h
      rename_i e he
      have hev := eval_opnd (ρ := ρ) hpre.ts he
      simp only [SV.den] at hev
      have heb := opnd_bd hpre.bd.tm he
      simp only [SV.bd] at heb
      split at h
      · rename_i hk
        rw [known_sound hpre.path _ _ hk] at hev
        exact wpIn_cond_true hev (ih x S outs h hg ρ a w hpre)
      · rename_i hk
        rw [known_sound hpre.path _ _ hk] at hev
        exact wpIn_cond_false hev (ih y S outs h hg ρ a w hpre)
      · split at h
        case h_2 => cases h
        rename_i l r hl hr
        cases h
        refine wpIn_cond_split hev (fun ht => ?_) (fun hf => ?_)
        · obtain ⟨_, _, _, _, h5, h6⟩ := assume_hp S e true
          have := ih x _ l hl (hg.sub fun p hp => List.mem_append_left _ hp) ρ a w (hpre.assume heb ht)
          rw [h6] at this
          refine wpIn_mono this fun e a w hpo => ?_
          obtain ⟨z, S3, ρ3, hm3, hx3, hag3, hp3, hn3, hr3⟩ := hpo.ex
          rw [h5] at hag3 hn3
          exact ⟨z, S3, ρ3, List.mem_append_left _ hm3, hx3, hag3, hp3, hn3, hr3.trans h6⟩
        · obtain ⟨_, _, _, _, h5, h6⟩ := assume_hp S e false
          have := ih y _ r hr (hg.sub fun p hp => List.mem_append_right _ hp) ρ a w (hpre.assume heb hf)
          rw [h6] at this
          refine wpIn_mono this fun e a w hpo => ?_
          obtain ⟨z, S3, ρ3, hm3, hx3, hag3, hp3, hn3, hr3⟩ := hpo.ex
          rw [h5] at hag3 hn3
          exact ⟨z, S3, ρ3, List.mem_append_right _ hm3, hx3, hag3, hp3, hn3, hr3.trans h6⟩
    · rename_i id body
      obtain ⟨l, hl, rfl⟩ := Option.map_eq_some_iff.1 h
      have hgl : Good I l := fun S' hS => by
        obtain ⟨y, hy, he⟩ := mapC_mem (id := id) hS
        simp only at he; subst he
        exact hg S' hy
      refine wpIn_block (wpIn_mono (ih body S l hl hgl ρ a w hpre) ?_)
      intro e a' w' hpo
      obtain ⟨x, S', ρ', hm, hx, hag, hp, hn, hro⟩ := hpo.ex
      obtain ⟨y, hy, he⟩ := mapC_mem (id := id) hm
      have mk : ∀ e', Match y e' → Post I F ρ S (mapC id l) e' a' w' := fun e' h' => ⟨y, S', ρ', hy, h', hag, hp, hn, hro⟩
      cases x <;> cases e <;> simp only [Match] at hx <;> simp only at he
      · subst he; exact mk .normal trivial
      · subst hx
        rename_i n
        by_cases hid : n = id
        · subst hid
          simp only [Nat.beq_refl, cond_true] at he
          simp only [Exit.inBlock, if_true]
          subst he; exact mk .normal trivial
        · have hb : Nat.beq n id = false := Tr.beq_false hid
          rw [hb] at he
          simp only [cond_false] at he
          simp only [Exit.inBlock, hid, if_false]
          subst he; exact mk (.exit n) rfl
      · subst he; exact mk (.goto _) hx
      · subst he; exact mk .ret trivial
    · rename_i body
      exact wpIn_loop_rounds f (loopS_sound ih f S outs h hg ρ a w hpre)
    · rename_i id ops
      refine wpIn_region ?_
      have := seqI_sound hG (hW F) hC hY _ S outs h hg ρ a w hpre (Post I F ρ S outs) (fun _ _ h => h)
      exact this
    · rename_i id ops
      obtain ⟨hlt, h⟩ := whenB_some h
      exact draw_sound hG hW hCA hYA hlt h hg hpre
    · exact range_sound hC h hg hpre
    · cases h

/-- A function's contract from the engine's walk of its body. -/
theorem calls_of_exec {G : GT} (hG : GOk P G) {wr : SS → Op → Option (Option SV × SS)} (hW : ∀ F, SoundW I P F wr) {ct : CT} (hT : ∀ F, SoundT I P F ct) {fuel f : Nat} {args : List SV} {S : SS} {outs : COuts}
    (h : inl G (exec G wr ct fuel) f args S = some outs) (hg : GoodC I outs) (hb : bdL S.next args) {w : World} (hpre : PreC I F ρ S w) : Calls P f (denL ρ args).toArray w (PostC I F ρ S outs) :=
  callsIn_wide.1 (inl_sound hG (exec_sound hG hW hT fuel F) f args S outs h hg hb ρ w hpre).2

end
end Go.Vg
