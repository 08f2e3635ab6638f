/- A region whose order is drawn: whatever order is drawn comes to what the engine's walk of it says. Conditions: those of what runs the calls. -/
import Derived.Test.YtfkjbiigciabpaaGreatVgDraw2
namespace Go.Vg

def Dn (listed : Array Bool) (i : Nat) : Prop := listed.getD i false = true

theorem mem_ready {ops : List Oper} {listed : Array Bool} {i : Nat} (hz : listed.size = ops.length) (h : i ∈ Region.ready .any ops.toArray listed) :
    i < ops.length ∧ ¬ Dn listed i ∧ ∃ o, ops[i]? = some o ∧ ∀ y, has (dmOf o) y = true → Dn listed y := by
  unfold Region.ready at h
  rw [List.mem_filter, List.mem_range] at h
  obtain ⟨h1, h2⟩ := h
  rw [Bool.and_eq_true] at h2
  have hl : i < ops.length := by simpa using h1
  obtain ⟨o, ho⟩ : ∃ o, ops[i]? = some o := ⟨ops[i], List.getElem?_eq_getElem hl⟩
  have ho' : ops.toArray[i]? = some o := by simpa using ho
  refine ⟨hl, fun hd => ?_, o, ho, fun y hy => ?_⟩
  · have h3 := h2.1
    unfold Dn at hd
    have hlt : i < listed.size := by omega
    simp [Array.getD, hlt] at h3 hd
    rw [hd] at h3; cases h3
  · have h3 := h2.2
    rw [ho'] at h3
    simp only [Option.map_some, Option.getD_some, Array.all_eq_true'] at h3
    obtain ⟨e, he, hb, hon⟩ := dm_of hy
    have := h3 e he
    rw [hb] at this
    simp only [Bool.not_true, Bool.false_or] at this
    rw [← hon]; exact this

/-- If there is one that is not listed, there is one that may be next. -/
theorem ready_some {ops : List Oper} {listed : Array Bool} (hz : listed.size = ops.length) (hlt : ∀ i o, ops[i]? = some o → ∀ e ∈ o.after, Region.binds .any e = true → e.on < i) :
    ∀ i, i < ops.length → ¬ Dn listed i → Region.ready .any ops.toArray listed ≠ [] := by
  intro i
  induction i using Nat.strongRecOn with
  | _ i ih =>
    intro hi hd hnil
    by_cases hall : ∀ j, j < i → Dn listed j
    · have : i ∈ Region.ready .any ops.toArray listed := by
        unfold Region.ready
        rw [List.mem_filter, List.mem_range]
        have ho : ops[i]? = some ops[i] := List.getElem?_eq_getElem hi
        have ho' : ops.toArray[i]? = some ops[i] := by simp
        refine ⟨by simp [hi], ?_⟩
        rw [Bool.and_eq_true]
        constructor
        · have hl : i < listed.size := by omega
          unfold Dn at hd
          simp [Array.getD, hl] at hd ⊢
          exact hd
        · rw [ho']
          simp only [Option.map_some, Option.getD_some, Array.all_eq_true']
          intro e he
          cases hb : Region.binds .any e with
          | false => rfl
          | true => simp only [Bool.not_true, Bool.false_or]; exact hall _ (hlt i _ ho e he hb)
      rw [hnil] at this; cases this
    · simp only [Classical.not_forall] at hall
      obtain ⟨j, hj, hdj⟩ := hall
      exact ih j hj (by omega) hdj hnil

/-- How many are not listed. -/
def left (listed : Array Bool) (n : Nat) : Nat := (List.range n).countP fun i => !listed.getD i false

theorem left_set {listed : Array Bool} {i : Nat} (hz : i < listed.size) (hd : ¬ Dn listed i) : ∀ n, left (listed.setIfInBounds i true) n + (if i < n then 1 else 0) = left listed n
  | 0 => rfl
  | n + 1 => by
    have ih := left_set hz hd n
    have hg : ∀ j, j ≠ i → (listed.setIfInBounds i true).getD j false = listed.getD j false := fun j hj => by
      rw [Array.getD_eq_getD_getElem?, Array.getD_eq_getD_getElem?, Array.getElem?_setIfInBounds_ne (fun x => hj x.symm)]
    have hs : (listed.setIfInBounds i true).getD i false = true := by
      rw [Array.getD_eq_getD_getElem?, Array.getElem?_setIfInBounds_self_of_lt hz]; rfl
    have hn : listed.getD i false = false := by
      cases h : listed.getD i false with
      | false => rfl
      | true => exact absurd h hd
    simp only [left, List.range_succ, List.countP_append, List.countP_singleton] at ih ⊢
    by_cases h : n = i
    · subst h
      rw [hs, hn]
      simp at ih ⊢
      omega
    · rw [hg n h]
      by_cases h2 : i < n
      · have h3 : i < n + 1 := by omega
        simp only [h2, h3, if_true] at ih ⊢
        omega
      · have h3 : ¬ i < n + 1 := by omega
        simp only [h2, h3, if_false] at ih ⊢
        omega

theorem left_zero {listed : Array Bool} : ∀ {n : Nat}, left listed n = 0 → ∀ i, i < n → Dn listed i
  | n + 1, h, i, hi => by
    simp only [left, List.range_succ, List.countP_append, List.countP_singleton] at h
    by_cases e : i = n
    · subst e
      cases hg : listed.getD i false with
      | true => exact hg
      | false => rw [hg] at h; simp at h
    · exact left_zero (n := n) (by unfold left; omega) i (by omega)

section
variable {U : Type} {I : Interp U} {P : Program} {F : Fr} {ρ ρ' : Env U}

/-! ### What is put off -/
structure Ext (F F' : Fr) : Prop where
  keep : ∀ b, F.keep b → F'.keep b
  heap : ∀ b, F.keep b → F'.w0.heap[b]? = F.w0.heap[b]?
  grow : F.w0.heap.size ≤ F'.w0.heap.size
  os : F'.w0.os = F.w0.os
  output : F'.w0.output = F.w0.output
  tape : F'.w0.tape = F.w0.tape
theorem Ext.refl (F : Fr) : Ext F F := ⟨fun _ h => h, fun _ _ => rfl, Nat.le_refl _, rfl, rfl, rfl⟩

theorem HSat.shrink {F' : Fr} {H : Tr Ch} {w : World} {hp : Nat → PHeap} (e : Ext F F') (hs : HSat I ρ F' H w hp) : HSat I ρ F H w hp :=
  ⟨hs.sat, hs.disj, hs.inw, fun n c b o h1 h2 hk => hs.off n c b o h1 h2 (e.keep b hk), fun b hb => ⟨(hs.frame b (e.keep b hb)).1.trans (e.heap b hb), (hs.frame b (e.keep b hb)).2⟩,
    Nat.le_trans e.grow hs.grow, hs.os.trans e.os, hs.output.trans e.output, hs.tape.trans e.tape⟩
theorem Pre.shrink {F' : Fr} (e : Ext F F') {S : SS} {a : Act} {w : World} (h : Pre I F' ρ S a w) : Pre I F ρ S a w := by
  obtain ⟨hp, hh⟩ := h.heap
  exact ⟨h.bd, h.path, h.ts, h.df, ⟨hp, hh.shrink e⟩⟩

/-- With a block more that stays as it is. -/
def Fr.room (F' : Fr) (b : Nat) (w' : World) : Fr := ⟨fun c => F'.keep c ∨ c = b, w'⟩
theorem HSat.room {F' : Fr} {H : Tr Ch} {w : World} {hp : Nat → PHeap} (hs : HSat I ρ F' H w hp) (o : Obj) :
    HSat I ρ (F'.room w.heap.size { w with heap := w.heap.push o }) H { w with heap := w.heap.push o } hp := by
  have lt : ∀ {j : Nat} {o' : Obj}, w.heap[j]? = some o' → j < w.heap.size := fun h => (Array.getElem?_eq_some_iff.1 h).1
  refine ⟨hs.sat, hs.disj, fun n c b o' h1 h2 => ?_, fun n c b o' h1 h2 hk => ?_, fun b hb => ⟨rfl, ?_⟩, Nat.le_refl _, rfl, rfl, rfl⟩
  · have := hs.inw n c b o' h1 h2
    show (w.heap.push o)[b]? = some o'
    rw [Array.getElem?_push]; simp [Nat.ne_of_lt (lt this), this]
  · rcases hk with hk | hk
    · exact hs.off n c b o' h1 h2 hk
    · have := lt (hs.inw n c b o' h1 h2)
      omega
  · show b < (w.heap.push o).size
    rw [Array.size_push]
    rcases hb with hb | hb
    · have := (hs.frame b hb).2; omega
    · omega
theorem Ext.room {F' : Fr} {H : Tr Ch} {w : World} {hp : Nat → PHeap} (e : Ext F F') (hs : HSat I ρ F' H w hp) (o : Obj) :
    Ext F (F'.room w.heap.size { w with heap := w.heap.push o }) := by
  refine ⟨fun b hb => .inl (e.keep b hb), fun b hb => ?_, ?_, hs.os.trans e.os, hs.output.trans e.output, hs.tape.trans e.tape⟩
  · obtain ⟨h1, h2⟩ := hs.frame b (e.keep b hb)
    show (w.heap.push o)[b]? = _
    rw [Array.getElem?_push]; simp only [Nat.ne_of_lt h2, if_false]
    exact h1.trans (e.heap b hb)
  · show F.w0.heap.size ≤ (w.heap.push o).size
    have := hs.grow; have := e.grow
    rw [Array.size_push]; omega

/-- With a block less that stays as it is. -/
def Fr.less (F' : Fr) (b : Nat) : Fr := ⟨fun c => F'.keep c ∧ c ≠ b, F'.w0⟩
theorem HSat.adopt {F' : Fr} {H : Tr Ch} {w : World} {hp : Nat → PHeap} {n : Nat} (hs : HSat I ρ F' H w hp) (hB : HBd n H) {b : Nat} {o : Obj} (hk : F'.keep b) (hw : F'.w0.heap[b]? = some o) {d : Ch}
    (hag : Env.Agree n ρ ρ') (hd : CSat I ρ' n d (single b o)) : HSat I ρ' (F'.less b) (H.set n d) w (fun j => if j = n then single b o else hp j) := by
  refine ⟨fun k c' hc => ?_, fun k m c1 c2 j o1 o2 hnm h1 h2 p1 p2 => ?_, fun k c1 j o1 h1 p1 => ?_, fun k c1 j o1 h1 p1 => ?_, fun j hj => hs.frame j hj.1, hs.grow, hs.os, hs.output, hs.tape⟩
  · rw [Tr.get_set] at hc
    by_cases e : k = n
    · subst e; simp only [if_true] at hc ⊢; cases hc; exact hd
    · simp only [e, if_false] at hc ⊢; exact CSat.congr hag (hB k c' hc).1 (hB k c' hc).2 (hs.sat k c' hc)
  · rw [Tr.get_set] at h1 h2
    by_cases e : k = n
    · have e2 : ¬ m = n := fun x => hnm (e.trans x.symm)
      simp only [e, if_true] at p1
      simp only [e2, if_false] at h2 p2
      obtain ⟨rfl, _⟩ := single_some p1
      exact hs.off m c2 _ o2 h2 p2 hk
    · simp only [e, if_false] at h1 p1
      by_cases e2 : m = n
      · simp only [e2, if_true] at p2
        obtain ⟨rfl, _⟩ := single_some p2
        exact hs.off k c1 _ o1 h1 p1 hk
      · simp only [e2, if_false] at h2 p2
        exact hs.disj k m c1 c2 j o1 o2 hnm h1 h2 p1 p2
  · rw [Tr.get_set] at h1
    by_cases e : k = n
    · simp only [e, if_true] at p1
      obtain ⟨rfl, rfl⟩ := single_some p1
      exact (hs.frame _ hk).1.trans hw
    · simp only [e, if_false] at h1 p1
      exact hs.inw k c1 j o1 h1 p1
  · rw [Tr.get_set] at h1
    by_cases e : k = n
    · simp only [e, if_true] at p1
      obtain ⟨rfl, rfl⟩ := single_some p1
      exact fun hk => hk.2 rfl
    · simp only [e, if_false] at h1 p1
      exact fun hk => hs.off k c1 j o1 h1 p1 hk.1

/-- An operation that is done and was put off in the engine's walk: its block lies there. -/
structure Pend (P : Program) (ops : List Oper) (F F' : Fr) (a : Act) (i b : Nat) : Prop where
  ex : ∃ (o : Oper) (d : Tmp) (e : Nat) (cs : Array Value) (mk : Nat → Value) (f : Operand → Value), ops[i]? = some o ∧ o.dst = some d ∧ (∀ x ∈ o.op.operands, f x = a.eval x) ∧
    (∀ w : World, (execOp f o).run P w = .ok (.value (mk w.heap.size)) { w with heap := w.heap.push (.cells cs e (0, 0)) }) ∧ a.tmps[d]? = some (mk b) ∧ F'.w0.heap[b]? = some (.cells cs e (0, 0)) ∧ F'.keep b ∧ ¬ F.keep b

structure Inv (I : Interp U) (P : Program) (F : Fr) (ops : List Oper) (dms : List Nat) (am : Nat) (listed : Array Bool) (forced done : Nat) (S : SS) (ρ : Env U) (a : Act) (w : World) : Prop where
  size : listed.size = ops.length
  sub : ∀ i, Dn listed i → has done i = true ∨ has am i = true
  closed : ∀ i dm, Dn listed i → dms[i]? = some dm → ∀ y, has dm y = true → Dn listed y
  rds : ∀ i o, has done i = true → ¬ Dn listed i → ops[i]? = some o → rdKind o.op = true
  frc : ∀ i, has forced i = true → Dn listed i
  vir : ∃ (av : Act) (F' : Fr) (blk : Nat → Nat), Ext F F' ∧ Pre I F' ρ S av w ∧ av.defers = a.defers ∧ av.tmps.size = a.tmps.size ∧ (∀ i, Dn listed i → has done i = false → Pend P ops F F' a i (blk i)) ∧
    (∀ i j, Dn listed i → has done i = false → Dn listed j → has done j = false → blk i = blk j → i = j) ∧
    ∀ t, (∀ y o, has done y = true → ¬ Dn listed y → ops[y]? = some o → o.dst ≠ some t) → (∀ y o, has done y = false → Dn listed y → ops[y]? = some o → o.dst ≠ some t) → av.tmps[t]? = a.tmps[t]?

theorem dn_set {listed : Array Bool} {i j : Nat} (hz : i < listed.size) : Dn (listed.setIfInBounds i true) j ↔ j = i ∨ Dn listed j := by
  unfold Dn
  rw [Array.getD_eq_getD_getElem?, Array.getD_eq_getD_getElem?]
  by_cases h : j = i
  · subst h; rw [Array.getElem?_setIfInBounds_self_of_lt hz]; simp
  · rw [Array.getElem?_setIfInBounds_ne (fun x => h x.symm)]; simp [h]

theorem getElem?_put {a : Act} {d : Option Tmp} {x : Value} {t : Nat} : (a.put d x).tmps[t]? = if d = some t then (if t < a.tmps.size then some x else none) else a.tmps[t]? := by
  cases d with
  | none => simp [Act.put]
  | some d =>
    simp only [Act.put, Option.some.injEq]
    by_cases h : d = t
    · subst h
      simp only [if_true]
      by_cases hl : d < a.tmps.size
      · rw [Array.getElem?_setIfInBounds_self_of_lt hl]; simp [hl]
      · have h0 : (a.tmps.setIfInBounds d x).size = a.tmps.size := Array.size_setIfInBounds
        have h1 : (a.tmps.setIfInBounds d x).size ≤ d := h0 ▸ Nat.le_of_not_lt hl
        rw [if_neg hl]
        exact Array.getElem?_eq_none h1
    · rw [Array.getElem?_setIfInBounds_ne h]; simp [h]
theorem size_put {a : Act} {d : Option Tmp} {x : Value} : (a.put d x).tmps.size = a.tmps.size := by cases d <;> simp [Act.put]

theorem ext_act {a b : Act} (h1 : a.defers = b.defers) (h2 : ∀ t : Nat, a.tmps[t]? = b.tmps[t]?) : a = b := by
  cases a; cases b
  simp only [Act.mk.injEq] at *
  exact ⟨Array.ext_getElem? h2, h1⟩

theorem eval_put {a : Act} {d : Option Tmp} {x : Value} {y : Operand} (h : ∀ t, y = .tmp t → d ≠ some t) : (a.put d x).eval y = a.eval y := by
  cases y with
  | tmp t =>
    simp only [Act.eval, Array.getD_eq_getD_getElem?]
    rw [getElem?_put, if_neg (h t rfl)]
  | _ => rfl

theorem isAlloc_rd {op : Op} (h : isAlloc op = true) (h2 : rdKind op = true) : False := by
  cases op <;> simp [isAlloc] at h <;> simp [rdKind] at h2

theorem mayW_not {dms : List Nat} {am done : Nat} : ∀ {l : List Nat} {i : Nat}, i ∈ mayW dms am done l → i ∈ l ∧ has done i = false ∧ has am i = false
  | j :: l, i, h => by
    simp only [mayW] at h
    have tl : i ∈ mayW dms am done l → i ∈ j :: l ∧ has done i = false ∧ has am i = false := fun h => ⟨List.mem_cons_of_mem _ (mayW_not h).1, (mayW_not h).2⟩
    split at h
    · rename_i dm _
      cases hc : (!has am j && (!has done j && Vg.sub dm done)) with
      | true =>
        rw [hc] at h
        simp only [cond_true] at h
        rcases List.mem_cons.1 h with e | h
        · subst e
          simp only [Bool.and_eq_true, Bool.not_eq_true'] at hc
          exact ⟨by simp, hc.2.1, hc.1⟩
        · exact tl h
      | false => rw [hc] at h; exact tl h
    · exact tl h

theorem node_of {G : GT} {wr : SS → Op → Option (Option SV × SS)} {cf yf : CallF} {ops : List Oper} {dms cls all : List Nat} {am f forced done : Nat} {S : SS} {outs : Outs}
    (h : drawF G wr cf yf ops dms cls all am (f + 1) forced done S = some outs) : nodeOk G ops dms cls am (nextA ops dms cls am done all all) forced done S all all = true := by
  unfold drawF at h
  split at h
  · rename_i x hx; rw [hx]; exact (whenB_some h).1
  · rename_i hx; rw [hx]; exact (whenB_some h).1

/-- Whatever order is drawn. -/
theorem draw_sim {G : GT} (hG : GOk P G) {wr : SS → Op → Option (Option SV × SS)} (hW : ∀ F, SoundW I P F wr) {cf yf : CallF} (hC : ∀ F, SoundC I P F cf) (hY : ∀ F, SoundY I P F yf) {ops : List Oper} {dms cls : List Nat} {am : Nat}
    (hdms : dms = ops.map dmOf) (hcls : ClOk dms cls) (hlt : ∀ i o, ops[i]? = some o → ∀ e ∈ o.after, Region.binds .any e = true → e.on < i)
    (hA : aOk ops cls (List.range ops.length) am (List.range ops.length) = true) (Q : Exit → Act → World → Prop) :
    ∀ (f m : Nat) (listed : Array Bool) (forced done : Nat) (S : SS) (outs : Outs) (ρ : Env U) (a : Act) (w : World), left listed ops.length = m →
      drawF G wr cf yf ops dms cls (List.range ops.length) am f forced done S = some outs → Good I outs → Inv I P F ops dms am listed forced done S ρ a w →
      (∀ a' w', Post I F ρ S outs .normal a' w' → Q .normal a' w') →
      wpAnyIn (Fof ρ S.ro) 0 P .any ops.toArray Q m listed a w := by
  intro f
  induction f with
  | zero => intro m listed forced done S outs ρ a w _ hF; simp [drawF] at hF
  | succ f ihf =>
  -- what agrees, where all that is done and writes there lies ahead, and nothing that is put off writes there
  have agree : ∀ {listed : Array Bool} {done c : Nat} {a av : Act} (_ : ∀ i, Dn listed i → has done i = true ∨ has am i = true)
      (_ : ∀ t, (∀ y o, has done y = true → ¬ Dn listed y → ops[y]? = some o → o.dst ≠ some t) → (∀ y o, has done y = false → Dn listed y → ops[y]? = some o → o.dst ≠ some t) → av.tmps[t]? = a.tmps[t]?)
      (_ : ∀ y, has c y = true → Dn listed y) (ts : List Nat), aheadOk ops c done ts (List.range ops.length) = true → offA ops am done ts (List.range ops.length) = true → ∀ t ∈ ts, av.tmps[t]? = a.tmps[t]? := by
    intro listed done c a av hsub htm hcl ts hts hoff t ht
    refine htm t (fun y oy hy hny hoy hdy => ?_) (fun y oy hy hny hoy hdy => ?_)
    · have hyr := List.mem_range.2 (List.getElem?_eq_some_iff.1 hoy).1
      exact hny (hcl y (aheadOk_mem hts y hyr oy t hoy hdy ht hy))
    · have hyr := List.mem_range.2 (List.getElem?_eq_some_iff.1 hoy).1
      rcases hsub y hny with h | h
      · rw [hy] at h; cases h
      · exact offA_mem hoff y hyr oy t hoy hdy h hy ht
  have clAll : ∀ {listed : Array Bool} (_ : ∀ i dm, Dn listed i → dms[i]? = some dm → ∀ y, has dm y = true → Dn listed y) {i c dm : Nat}, cls[i]? = some c → dms[i]? = some dm → (∀ y, has dm y = true → Dn listed y) → ∀ y, has c y = true → Dn listed y := by
    intro listed hcd i c dm hc hdm hd
    exact cl_closed hcls (fun i dm h1 h2 y h3 => hcd i dm h1 h2 y h3) i c _ hc hdm hd
  have dmAt : ∀ {i : Nat} {o : Oper}, ops[i]? = some o → dms[i]? = some (dmOf o) := fun {i o} ho => by rw [hdms]; simp [ho]
  -- what is put off stays as it is, whatever else is done
  have pendPut : ∀ {listed : Array Bool} (_ : ∀ i dm, Dn listed i → dms[i]? = some dm → ∀ y, has dm y = true → Dn listed y) {F' : Fr} {a : Act} {i j b : Nat} {o : Oper} {x : Value}, ops[i]? = some o → ¬ Dn listed i → Dn listed j → has am j = true →
      Pend P ops F F' a j b → Pend P ops F F' (a.put o.dst x) j b := by
    intro listed hcd F' a i j b o x ho hni hj ham hp
    obtain ⟨oj, d, e, cs, mk, f', hoj, hdj, hfx, hrun, hat, hheap, hk, hnk⟩ := hp.ex
    have hjr := List.mem_range.2 (List.getElem?_eq_some_iff.1 hoj).1
    have hir := List.mem_range.2 (List.getElem?_eq_some_iff.1 ho).1
    obtain ⟨oj', cj, dj, hoj', hcj, hdj', hia, hgd, hst⟩ := aOk_mem hA j hjr ham
    rw [hoj] at hoj'; cases hoj'
    rw [hdj] at hdj'; cases hdj'
    have hne : i ≠ j := fun e => hni (e ▸ hj)
    have hcl := clAll hcd hcj (dmAt hoj) (fun y hy => hcd j _ hj (dmAt hoj) y hy)
    refine ⟨oj, d, e, cs, mk, f', hoj, hdj, fun y hy => ?_, hrun, ?_, hheap, hk, hnk⟩
    · rw [hfx y hy, eval_put]
      intro t hyt hod
      have := ((hst i hir o t ho hod).2 (mem_looks (by rw [← hyt]; exact hy))).1
      exact hni (hcl i this)
    · rw [getElem?_put, if_neg]
      · exact hat
      · intro hod
        rcases (hst i hir o d ho hod).1 with h | h
        · exact hne h
        · exact h rfl
  -- what was put off is made up for
  have flush : ∀ (m : Nat) (listed : Array Bool) (forced done : Nat) (S : SS) (outs : Outs) (ρ : Env U) (a : Act) (w : World) (x : Nat), nextA ops dms cls am done (List.range ops.length) (List.range ops.length) = some x → Dn listed x →
      left listed ops.length = m → drawF G wr cf yf ops dms cls (List.range ops.length) am (f + 1) forced done S = some outs → Good I outs → Inv I P F ops dms am listed forced done S ρ a w →
      (∀ a' w', Post I F ρ S outs .normal a' w' → Q .normal a' w') → wpAnyIn (Fof ρ S.ro) 0 P .any ops.toArray Q m listed a w := by
    intro m listed forced done S outs ρ a w x hx hDx hl hF hg hi hQ
    obtain ⟨hxr, hax, hdx⟩ := nextA_some hx
    obtain ⟨o, c, d, ho, hc, hod, hia, hgd, hst⟩ := aOk_mem hA x hxr hax
    unfold drawF at hF
    rw [hx] at hF
    simp only [ho, hc] at hF
    obtain ⟨_, hF⟩ := whenB_some hF
    split at hF
    case h_2 => cases hF
    rename_i v S1 hwr
    split at hF
    case h_2 => cases hF
    rename_i l hpl
    obtain ⟨hbn, hbb⟩ := bindD_mem hF
    obtain ⟨av, F', blk, hext, hp, hdf, hz, hpend, hinj, htm⟩ := hi.vir
    obtain ⟨o2, d2, e, cs, mk, fv, ho2, hd2, hfv, hrun, hat, hheap, hkeep, hnF⟩ := (hpend x hDx hdx).ex
    rw [ho] at ho2; cases ho2
    rw [hod] at hd2; cases hd2
    have hcl := clAll hi.closed hc (dmAt ho) (fun y hy => hi.closed x _ hDx (dmAt ho) y hy)
    have hagl : ∀ t ∈ looks ops o, av.tmps[t]? = a.tmps[t]? := fun t ht => by
      refine htm t (fun y oy hy hny hoy hdy => ?_) (fun y oy hy hny hoy hdy => ?_)
      · have hyr := List.mem_range.2 (List.getElem?_eq_some_iff.1 hoy).1
        exact hny (hcl y ((hst y hyr oy t hoy hdy).2 ht).1)
      · have hyr := List.mem_range.2 (List.getElem?_eq_some_iff.1 hoy).1
        have h1 := ((hst y hyr oy t hoy hdy).2 ht).2
        rcases hi.sub y hny with h | h
        · rw [hy] at h; cases h
        · rw [h1] at h; cases h
    have hev := eval_looks (o := o) hp.ts hagl
    obtain ⟨e2, cs2, hS1, hcsb, hvb, hrun2⟩ := wr1_alloc (ρ := ρ) (P := P) hG.ty hia hwr (f := fv) (fun y hy u hu => by rw [hfv y hy]; exact hev y hy u hu)
    obtain ⟨W, hWs⟩ : ∃ W : World, W.heap.size = blk x := ⟨{ w with heap := Array.replicate (blk x) default }, Array.size_replicate⟩
    have r12 := (hrun W).symm.trans (hrun2 W)
    have hmk : mk (blk x) = v.den (ρ.withK S.next (blk x)) := by
      have := Next.value.inj (Result.ok.inj r12).1
      rw [hWs] at this; exact this
    have hobj : (.cells cs e (0, 0) : Obj) = .cells (denL ρ cs2).toArray e2 (0, 0) := by
      have h3 := congrArg (fun w : World => w.heap[W.heap.size]?) (Result.ok.inj r12).2
      simp only [Array.getElem?_push_size, Option.some.injEq] at h3
      exact h3
    have hag := withK_agree ρ S.next (blk x)
    have hcs : cs = (denL ρ cs2).toArray := (Obj.cells.inj hobj).1
    have he : e = e2 := (Obj.cells.inj hobj).2.1
    subst he hS1
    obtain ⟨hp0, hh⟩ := hp.heap
    have hpre0 : Pre I (F'.less (blk x)) (ρ.withK S.next (blk x)) (S.fresh (.cells e cs2)) av w := by
      refine ⟨fresh_bd hp.bd hcsb, holds_congr hag hp.bd.path hp.path, hp.ts.congr hag hp.bd.tm, ?_, ⟨_, hh.adopt hp.bd.hp hkeep hheap hag (d := .cells e cs2) ?_⟩⟩
      · rw [hp.df]; exact marks_congr hag hp.bd.df
      · simp only [CSat, withK_same, ← denL_congr hag cs2 hcsb, hcs]
    have hlt2 : d < a.tmps.size := (Array.getElem?_eq_some_iff.1 hat).1
    have hdst : dstOk (S.fresh (.cells e cs2)) o.dst = true := by
      rw [hod]
      have : d < S.nt := by rw [← hp.ts.1, hz]; exact hlt2
      simpa [dstOk, SS.fresh] using this
    have hp1 := hpre0.setD hdst hvb
    obtain ⟨done', S', av', hm', hp'', hsame, hz', hle, hge, htm'⟩ := passR_sound _ _ _ _ hpl (fun d T hT => hg _ (hbb d T hT)) hp1
    obtain ⟨o'', hoo'', hs''⟩ := hbn done' S' hm'
    have hle2 : ∀ j, has done j = true → has done' j = true := fun j hj => hle j (by rw [has_or, hj]; rfl)
    have hx2 : has done' x = true := hle x (by rw [has_or, has_pow]; simp)
    have hge2 : ∀ j, has done' j = true → has done j = true ∨ j = x ∨ ∃ oj, ops[j]? = some oj ∧ rdKind oj.op = true := fun j hj => by
      rcases hge j hj with h | h
      · rw [has_or, Bool.or_eq_true, has_pow] at h
        rcases h with h | h
        · exact .inl h
        · exact .inr (.inl (of_decide_eq_true h).symm)
      · exact .inr (.inr h)
    have hpn : ∀ j, Dn listed j → has done j = false → j ≠ x → has done' j = false := fun j hj hdj hne => by
      cases h : has done' j with
      | false => rfl
      | true =>
        rcases hge2 j h with h1 | h1 | ⟨oj, h1, h2⟩
        · rw [hdj] at h1; cases h1
        · exact absurd h1 hne
        · have haj := (hi.sub j hj).resolve_left (by rw [hdj]; simp)
          obtain ⟨oj', _, _, h3, _, _, h4, _⟩ := aOk_mem hA j (List.mem_range.2 (List.getElem?_eq_some_iff.1 h1).1) haj
          rw [h1] at h3; cases h3
          exact (isAlloc_rd h4 h2).elim
    have hro : S'.ro = S.ro := hsame.ro
    have hnx : S'.next = S.next + 1 := hsame.next
    have hres := ihf m listed (forced ||| (c ||| 2 ^ x)) done' S' o'' (ρ.withK S.next (blk x)) a w hl hoo'' (hg.sub hs'')
      ⟨hi.size, fun i hDi => (hi.sub i hDi).imp (hle2 i) id, hi.closed, fun i oi hdi hni hoi => ?_, fun i hfi => ?_, ⟨av', F'.less (blk x), blk, ?_, hp'', ?_, ?_, fun i hDi hdi => ?_, fun i j h1 h2 h3 h4 h5 => ?_, fun t h1 h2 => ?_⟩⟩
      (fun a2 w2 h2 => hQ a2 w2 (by
        obtain ⟨z, S3, ρ3, hm3, hx3, hag3, hp3, hn3, hr3⟩ := h2.ex
        rw [hnx] at hag3 hn3
        exact ⟨z, S3, ρ3, hs'' _ hm3, hx3, hag.trans (hag3.mono (Nat.le_succ _)), hp3, by omega, hr3.trans hro⟩))
    · rw [hro, ← Fof_congr hag hp.bd.ro] at hres; exact hres
    · rcases hge2 i hdi with h | h | ⟨oj, h1, h2⟩
      · exact hi.rds i oi h hni hoi
      · exact absurd (h ▸ hDx) hni
      · rw [hoi] at h1; cases h1; exact h2
    · rw [has_or, has_or, has_pow, Bool.or_eq_true, Bool.or_eq_true] at hfi
      rcases hfi with h1 | h1 | h1
      · exact hi.frc i h1
      · exact hcl i h1
      · rw [← of_decide_eq_true h1]; exact hDx
    · exact ⟨fun b hb => ⟨hext.keep b hb, fun e => hnF (e ▸ hb)⟩, hext.heap, hext.grow, hext.os, hext.output, hext.tape⟩
    · rw [hp''.df, hsame.df, ← hdf, hp.df]; exact (marks_congr hag hp.bd.df).symm
    · rw [hz', size_put, hz]
    · have hdi0 : has done i = false := by
        cases h : has done i with
        | false => rfl
        | true => rw [hle2 i h] at hdi; cases hdi
      have hne : i ≠ x := fun e => by subst e; rw [hx2] at hdi; cases hdi
      obtain ⟨oi, di, ei, csi, mki, fi, q1, q2, q3, q4, q5, q6, q7, q8⟩ := (hpend i hDi hdi0).ex
      exact ⟨oi, di, ei, csi, mki, fi, q1, q2, q3, q4, q5, q6, ⟨q7, fun e => hne (hinj i x hDi hdi0 hDx hdx e)⟩, q8⟩
    · have n1 : ∀ k, has done' k = false → has done k = false := fun k hk => by
        cases h : has done k with
        | false => rfl
        | true => rw [hle2 k h] at hk; cases hk
      exact hinj i j h1 (n1 i h2) h3 (n1 j h4) h5
    · rw [htm' t (fun y oy hy1 hy2 hoy => by
        refine h1 y oy hy1 (fun hDy => ?_) hoy
        rw [has_or, Bool.or_eq_false_iff, has_pow] at hy2
        have hyx : y ≠ x := fun e => by subst e; simp at hy2
        rw [hpn y hDy hy2.1 hyx] at hy1; cases hy1)]
      rw [getElem?_put]
      by_cases hod' : o.dst = some t
      · rw [if_pos hod']
        rw [hod] at hod'; cases hod'
        rw [if_pos (by rw [hz]; exact hlt2), hat, hmk]
      · rw [if_neg hod']
        refine htm t (fun y oy hy hny hoy => h1 y oy (hle2 y hy) hny hoy) (fun y oy hy hny hoy => ?_)
        by_cases hyx : y = x
        · subst hyx; rw [ho] at hoy; cases hoy; exact hod'
        · exact h2 y oy (hpn y hny hy hyx) hny hoy
  have final : ∀ (listed : Array Bool) (forced done : Nat) (S : SS) (outs : Outs) (ρ : Env U) (a : Act) (w : World), nextA ops dms cls am done (List.range ops.length) (List.range ops.length) = none → (∀ i, i < ops.length → Dn listed i) →
      drawF G wr cf yf ops dms cls (List.range ops.length) am (f + 1) forced done S = some outs → Inv I P F ops dms am listed forced done S ρ a w →
      (∀ a' w', Post I F ρ S outs .normal a' w' → Q .normal a' w') → Q .normal a w := by
    intro listed forced done S outs ρ a w hx hall hF hi hQ
    unfold drawF at hF
    rw [hx] at hF
    obtain ⟨_, hF⟩ := whenB_some hF
    cases hws : mayW dms am done (List.range ops.length) with
    | nil =>
      rw [hws] at hF
      obtain ⟨hsa, hF⟩ := whenB_some hF
      cases hF
      obtain ⟨av, F', blk, hext, hp, hdf, hz, hpend, hinj, htm⟩ := hi.vir
      have : av = a := ext_act hdf fun t => htm t (fun y o _ hnd ho => absurd (hall y (List.getElem?_eq_some_iff.1 ho).1) hnd) (fun y o hy hny ho => by
        rcases hi.sub y hny with h | h
        · rw [hy] at h; cases h
        · rw [sub_has hsa h] at hy; cases hy)
      subst this
      exact hQ _ _ ⟨.normal, S, ρ, by simp, trivial, Env.Agree.refl _ _, hp.shrink hext, Nat.le_refl _, rfl⟩
    | cons i is =>
      exfalso
      have hmem : i ∈ mayW dms am done (List.range ops.length) := by rw [hws]; simp
      obtain ⟨h1, h2, h3⟩ := mayW_not hmem
      rcases hi.sub i (hall i (List.mem_range.1 h1)) with h | h
      · rw [h2] at h; cases h
      · rw [h3] at h; cases h
  intro m
  induction m with
  | zero =>
    intro listed forced done S outs ρ a w hl hF hg hi hQ
    have hall := left_zero hl
    cases hx : nextA ops dms cls am done (List.range ops.length) (List.range ops.length) with
    | some x => exact flush 0 listed forced done S outs ρ a w x hx (hall x (List.mem_range.1 (nextA_some hx).1)) hl hF hg hi hQ
    | none =>
      refine ⟨?_, final listed forced done S outs ρ a w hx hall hF hi hQ⟩
      cases hr : Region.ready .any ops.toArray listed with
      | nil => rfl
      | cons i is =>
        obtain ⟨h1, h2, _⟩ := mem_ready hi.size (i := i) (by rw [hr]; simp)
        exact absurd (hall i h1) h2
  | succ m ih =>
    intro listed forced done S outs ρ a w hl hF hg hi hQ
    by_cases hflush : ∃ x, nextA ops dms cls am done (List.range ops.length) (List.range ops.length) = some x ∧ Dn listed x
    · obtain ⟨x, hx, hDx⟩ := hflush
      exact flush (m + 1) listed forced done S outs ρ a w x hx hDx hl hF hg hi hQ
    refine ⟨fun hnil => ?_, fun i hri => ?_⟩
    · have hall : ∀ i, i < ops.length → Dn listed i := fun i hlt' => Classical.byContradiction fun hd => ready_some hi.size hlt i hlt' hd hnil
      cases hx : nextA ops dms cls am done (List.range ops.length) (List.range ops.length) with
      | some x => exact absurd ⟨x, hx, hall x (List.mem_range.1 (nextA_some hx).1)⟩ hflush
      | none => exact final listed forced done S outs ρ a w hx hall hF hi hQ
    · obtain ⟨hil, hnd, o, ho, hdeps⟩ := mem_ready hi.size hri
      have hdm : dms[i]? = some (dmOf o) := dmAt ho
      have hir : i ∈ List.range ops.length := List.mem_range.2 hil
      obtain ⟨o1, dm1, c, ho1, hdm1, hc, hsat, hfl, hchA, hpd⟩ := nodeOk_mem (node_of hF) i hir
      rw [ho] at ho1; cases ho1
      rw [hdm] at hdm1; cases hdm1
      have hsubd : Vg.sub (dmOf o) (done ||| am) = true := sub_of fun y hy => by
        rw [has_or, Bool.or_eq_true]; exact hi.sub y (hdeps y hy)
      have hcl : ∀ y, has c y = true → Dn listed y := clAll hi.closed hc hdm hdeps
      have hiz : i < listed.size := by rw [hi.size]; exact hil
      have hl' : left (listed.setIfInBounds i true) ops.length = m := by
        have := left_set hiz hnd ops.length
        rw [if_pos hil, hl] at this; omega
      have ho' : ops.toArray[i]? = some o := by simpa using ho
      obtain ⟨av, F', blk, hext, hp, hdf, hz, hpend, hinj, htm⟩ := hi.vir
      have hclosed' : ∀ j dm, Dn (listed.setIfInBounds i true) j → dms[j]? = some dm → ∀ y, has dm y = true → Dn (listed.setIfInBounds i true) y := fun j dm hj hdj y hy => by
        rw [dn_set hiz] at hj ⊢
        rcases hj with e | hj
        · subst e; rw [hdm] at hdj; cases hdj; exact .inr (hdeps y hy)
        · exact .inr (hi.closed j dm hj hdj y hy)
      have hag := fun ts h1 h2 => agree hi.sub htm hcl ts h1 h2
      by_cases ham : has am i = true
      · -- one that is put off
        obtain ⟨oi, ci, d, hoi, hci, hod, hia, hgd, hst⟩ := aOk_mem hA i hir ham
        rw [ho] at hoi; cases hoi
        rw [hc] at hci; cases hci
        have hdi : has done i = false := by
          cases h : has done i with
          | false => rfl
          | true => exact (isAlloc_rd hia (hi.rds i o h hnd ho)).elim
        obtain ⟨hchk, hah, hof⟩ := hchA ham hdi hsubd
        unfold chkA at hchk
        split at hchk
        case h_2 => cases hchk
        rename_i v S1 hwr
        have hev := eval_looks (o := o) hp.ts (hag _ hah hof)
        obtain ⟨e, cs, hS1, hcsb, hvb, hrun⟩ := wr1_alloc (ρ := ρ) (P := P) hG.ty hia hwr (f := a.eval) hev
        have hnd2 : ∀ c, o.op ≠ .defer c := fun c e => by rw [e] at hia; cases hia
        obtain ⟨hp0, hh⟩ := hp.heap
        have hltd : d < a.tmps.size := by
          have : d < S.nt := by rw [hod] at hchk; simpa [dstOk] using hchk
          rw [← hz, hp.ts.1]; exact this
        have hdl : d ∉ looks ops o := fun hm => hnd (hcl i ((hst i hir o d ho hod).2 hm).1)
        have hblt : ∀ j, Dn listed j → has done j = false → blk j < w.heap.size := fun j h1 h2 => by
          obtain ⟨_, _, _, _, _, _, _, _, _, _, _, _, q7, _⟩ := (hpend j h1 h2).ex
          exact (hh.frame _ q7).2
        have next : wpAnyIn (Fof ρ S.ro) 0 P .any ops.toArray Q m (listed.setIfInBounds i true) (a.put o.dst (v.den (ρ.withK S.next w.heap.size))) { w with heap := w.heap.push (.cells (denL ρ cs).toArray e (0, 0)) } := by
          refine ih _ forced done S outs ρ _ _ hl' hF hg ⟨by simp [hi.size], fun j hj => ?_, hclosed', fun j oj hj hnj hoj => hi.rds j oj hj (fun h => hnj ((dn_set hiz).2 (.inr h))) hoj,
            fun j hj => (dn_set hiz).2 (.inr (hi.frc j hj)), ⟨av, F'.room w.heap.size _, fun j => if j = i then w.heap.size else blk j, hext.room hh _, ⟨hp.bd, hp.path, hp.ts, hp.df, ⟨hp0, hh.room _⟩⟩, by rw [put_defers]; exact hdf, by rw [size_put]; exact hz,
              fun j hj hdj => ?_, fun j k h1 h2 h3 h4 h5 => ?_, fun t h1 h2 => ?_⟩⟩ hQ
          · rcases (dn_set hiz).1 hj with e | hj
            · subst e; exact .inr ham
            · exact hi.sub j hj
          · by_cases hji : j = i
            · subst hji
              simp only [if_true]
              refine ⟨o, d, e, (denL ρ cs).toArray, fun b => v.den (ρ.withK S.next b), a.eval, ho, hod, fun x hx => ?_, hrun, ?_, ?_, .inr rfl, fun hk => ?_⟩
              · rw [eval_put]
                intro t hxt hod'
                rw [hod] at hod'; cases hod'
                exact hdl (mem_looks (by rw [← hxt]; exact hx))
              · rw [getElem?_put, if_pos hod, if_pos hltd]
              · show (w.heap.push _)[w.heap.size]? = _
                simp
              · exact absurd (hh.frame _ (hext.keep _ hk)).2 (Nat.lt_irrefl _)
            · simp only [hji, if_false]
              have hj' := ((dn_set hiz).1 hj).resolve_left hji
              have haj := (hi.sub j hj').resolve_left (by rw [hdj]; simp)
              have := pendPut hi.closed (x := v.den (ρ.withK S.next w.heap.size)) ho hnd hj' haj (hpend j hj' hdj)
              obtain ⟨oj, dj, ej, csj, mkj, fj, q1, q2, q3, q4, q5, q6, q7, q8⟩ := this.ex
              refine ⟨oj, dj, ej, csj, mkj, fj, q1, q2, q3, q4, q5, ?_, .inl q7, q8⟩
              show (w.heap.push _)[blk j]? = _
              rw [Array.getElem?_push]
              simp only [Nat.ne_of_lt (hblt j hj' hdj), if_false]
              rw [(hh.frame _ q7).1]; exact q6
          · by_cases e1 : j = i
            · by_cases e2 : k = i
              · rw [e1, e2]
              · exfalso
                simp only [e1, e2, if_true, if_false] at h5
                have := hblt k (((dn_set hiz).1 h3).resolve_left e2) h4
                omega
            · by_cases e2 : k = i
              · exfalso
                simp only [e1, e2, if_true, if_false] at h5
                have := hblt j (((dn_set hiz).1 h1).resolve_left e1) h2
                omega
              · simp only [e1, e2, if_false] at h5
                exact hinj j k (((dn_set hiz).1 h1).resolve_left e1) h2 (((dn_set hiz).1 h3).resolve_left e2) h4 h5
          · rw [getElem?_put, if_neg (h2 i o hdi ((dn_set hiz).2 (.inl rfl)) ho)]
            exact htm t (fun y oy hy hny hoy => by
              by_cases e : y = i
              · subst e; rw [hdi] at hy; cases hy
              · exact h1 y oy hy (fun h => ((dn_set hiz).1 h).elim e hny) hoy) (fun y oy hy hny hoy => h2 y oy hy ((dn_set hiz).2 (.inr hny)) hoy)
        unfold wpOpIn
        simp only [ho']
        rw [if_pos (by simp [Region.wanted, hgd])]
        refine ⟨fun f _ => Fof_fn _ _ _, ?_⟩
        rw [Oper.semAt_eq _ _ _ hnd2, hrun w, Oper.uponIn_value]
        exact next
      have ham' : has am i = false := by simpa using ham
      by_cases hdone : has done i = true
      · -- a reader that is done already
        have hrk := hi.rds i o hdone hnd ho
        have hnf : has forced i = false := by
          cases h : has forced i with
          | false => rfl
          | true => exact absurd (hi.frc i h) hnd
        obtain ⟨hchk, hah, hof⟩ := hpd hdone hrk hnf
        obtain ⟨x, hgv, hx1, hx2⟩ := chkR_sound (I := I) hG hchk hrk hp (hag _ hah hof)
        have pend' : ∀ j, Dn (listed.setIfInBounds i true) j → has done j = false → Pend P ops F F' (a.put o.dst x) j (blk j) := fun j hj hdj => by
          rcases (dn_set hiz).1 hj with e | hj'
          · subst e; rw [hdone] at hdj; cases hdj
          · exact pendPut hi.closed ho hnd hj' ((hi.sub j hj').resolve_left (by rw [hdj]; simp)) (hpend j hj' hdj)
        have inj' : ∀ j k, Dn (listed.setIfInBounds i true) j → has done j = false → Dn (listed.setIfInBounds i true) k → has done k = false → blk j = blk k → j = k := fun j k h1 h2 h3 h4 h5 => by
          rcases (dn_set hiz).1 h1 with e | h1
          · subst e; rw [hdone] at h2; cases h2
          rcases (dn_set hiz).1 h3 with e | h3
          · subst e; rw [hdone] at h4; cases h4
          exact hinj j k h1 h2 h3 h4 h5
        have low : ∀ t, (∀ y o, has done y = false → Dn (listed.setIfInBounds i true) y → ops[y]? = some o → o.dst ≠ some t) → ∀ y o, has done y = false → Dn listed y → ops[y]? = some o → o.dst ≠ some t :=
          fun t h y oy h1 h2 h3 => h y oy h1 ((dn_set hiz).2 (.inr h2)) h3
        have next : wpAnyIn (Fof ρ S.ro) 0 P .any ops.toArray Q m (listed.setIfInBounds i true) (a.put o.dst x) w := by
          refine ih _ forced done S outs ρ _ w hl' hF hg ⟨by simp [hi.size], fun j hj => ?_, hclosed', fun j oj hj hnj hoj => hi.rds j oj hj (fun h => hnj ((dn_set hiz).2 (.inr h))) hoj,
            fun j hj => (dn_set hiz).2 (.inr (hi.frc j hj)), ?_⟩ hQ
          · rcases (dn_set hiz).1 hj with e | hj
            · subst e; exact .inl hdone
            · exact hi.sub j hj
          · -- the virtual slots: set likewise where nothing is known of them
            cases hod : o.dst with
            | none =>
              rw [hod] at pend'
              refine ⟨av, F', blk, hext, hp, hdf, hz, pend', inj', fun t ht ht2 => htm t (fun y oy hy hny hoy => ?_) (low t ht2)⟩
              by_cases e : y = i
              · subst e; rw [ho] at hoy; cases hoy; rw [hod]; simp
              · exact ht y oy hy (fun h => ((dn_set hiz).1 h).elim e hny) hoy
            | some d =>
              rw [hod] at pend'
              cases hget : S.tm.get d with
              | some u =>
                have hxu := hx1 d u hod hget
                have hav := hp.ts.2 d u hget
                refine ⟨av, F', blk, hext, hp, hdf, by rw [size_put]; exact hz, pend', inj', fun t ht ht2 => ?_⟩
                rw [getElem?_put]
                by_cases e : d = t
                · subst e
                  have hlt2 : d < a.tmps.size := by rw [← hz]; exact (Array.getElem?_eq_some_iff.1 hav).1
                  simp [hlt2, hav, hxu]
                · simp only [Option.some.injEq, e, if_false]
                  refine htm t (fun y oy hy hny hoy => ?_) (low t ht2)
                  by_cases e2 : y = i
                  · subst e2; rw [ho] at hoy; cases hoy; rw [hod]; intro h; cases h; exact e rfl
                  · exact ht y oy hy (fun h => ((dn_set hiz).1 h).elim e2 hny) hoy
              | none =>
                have hxu := hx2 d hod hget
                refine ⟨av.put (some d) x, F', blk, hext, ⟨hp.bd, hp.path, ⟨by rw [size_put]; exact hp.ts.1, fun t v hv => ?_⟩, by rw [put_defers]; exact hp.df, hp.heap⟩, by rw [put_defers, put_defers]; exact hdf, by rw [size_put, size_put]; exact hz, pend', inj', fun t ht ht2 => ?_⟩
                · rw [getElem?_put]
                  have : ¬ d = t := fun e => by subst e; rw [hget] at hv; cases hv
                  simp only [Option.some.injEq, this, if_false]; exact hp.ts.2 t v hv
                · rw [getElem?_put, getElem?_put, hz]
                  by_cases e : d = t
                  · simp [e]
                  · simp only [Option.some.injEq, e, if_false]
                    refine htm t (fun y oy hy hny hoy => ?_) (low t ht2)
                    by_cases e2 : y = i
                    · subst e2; rw [ho] at hoy; cases hoy; rw [hod]; intro h; cases h; exact e rfl
                    · exact ht y oy hy (fun h => ((dn_set hiz).1 h).elim e2 hny) hoy
        unfold wpOpIn
        simp only [ho']
        rcases hgv.2 with ⟨hw, hr⟩ | ⟨hw, hu⟩
        · rw [if_pos hw]
          refine ⟨fun f _ => Fof_fn _ _ _, ?_⟩
          rw [Oper.semAt_eq _ _ _ hgv.1, hr, Oper.uponIn_value]
          exact next
        · rw [hw]
          simp only [Bool.false_eq_true, if_false]
          rw [← hu]
          exact ⟨fun f _ => Fof_fn _ _ _, next⟩
      · -- a writer
        have hndone : has done i = false := by simpa using hdone
        have hfl2 := hfl ham' hndone hsubd
        cases hx : nextA ops dms cls am done (List.range ops.length) (List.range ops.length) with
        | some x => rw [hx] at hfl2; exact absurd ⟨x, hx, hcl x hfl2⟩ hflush
        | none =>
          rw [hx] at hfl2
          simp only at hfl2
          unfold drawF at hF
          rw [hx] at hF
          obtain ⟨_, hF⟩ := whenB_some hF
          have hmay := mayW_mem hir hdm ham' hndone hfl2
          split at hF
          · rename_i hw; rw [hw] at hmay; cases hmay
          · obtain ⟨o2, c2, r, ho2, hc2, hr, hrs⟩ := eachW_mem hF i hmay
            rw [ho] at ho2; cases ho2
            rw [hc] at hc2; cases hc2
            obtain ⟨hah, hr⟩ := whenB_some hr
            rw [Bool.and_eq_true] at hah
            simp only [bindS] at hr
            split at hr
            case h_2 => cases hr
            rename_i l hl2
            have hgr : Good I r := hg.sub hrs
            have hag1 := hag _ hah.1 hah.2
            have hw := opG_sound (K := wpAnyIn (Fof ρ S.ro) 0 P .any ops.toArray Q m (listed.setIfInBounds i true)) (Q := Q) hG (hW F') (hC F') (hY F') hl2 (Good.ofBind hr hgr) hp (a := a)
              (fun t ht => hag1 t (List.mem_append_right _ ht)) (fun x w' hpo => by
                obtain ⟨z, S', ρ', hm, hx, hagr, hp', hn, hro⟩ := hpo.ex
                have hxn : z = .normal := by cases z <;> simp [Match] at hx ⊢
                subst hxn
                obtain ⟨o', hoo, hs⟩ := bindL_mem hr hm
                simp only [thenS] at hoo
                split at hoo
                case h_2 => cases hoo
                rename_i pl hpl
                obtain ⟨hbn, hbb⟩ := bindD_mem hoo
                have hgo : Good I o' := hgr.sub hs
                obtain ⟨done', S'', av', hm', hp'', hsame, hz', hle, hge, htm'⟩ := passR_sound _ _ _ _ hpl (fun d T hT => hgo _ (hbb d T hT)) hp'
                obtain ⟨o'', hoo'', hs''⟩ := hbn done' S'' hm'
                have hle2 : ∀ j, has done j = true → has done' j = true := fun j hj => hle j (by rw [has_or, hj]; rfl)
                have hi2 : has done' i = true := hle i (by rw [has_or, has_pow]; simp)
                have hpn : ∀ j, Dn listed j → has done j = false → has done' j = false := fun j hj hdj => by
                  cases h : has done' j with
                  | false => rfl
                  | true =>
                    rcases hge j h with h1 | ⟨oj, h1, h2⟩
                    · rw [has_or, Bool.or_eq_true, has_pow] at h1
                      rcases h1 with h1 | h1
                      · rw [hdj] at h1; cases h1
                      · exact absurd ((of_decide_eq_true h1) ▸ hj) hnd
                    · have haj := (hi.sub j hj).resolve_left (by rw [hdj]; simp)
                      obtain ⟨oj', _, _, h3, _, _, h4, _⟩ := aOk_mem hA j (List.mem_range.2 (List.getElem?_eq_some_iff.1 h1).1) haj
                      rw [h1] at h3; cases h3
                      exact (isAlloc_rd h4 h2).elim
                have n1 : ∀ k, has done' k = false → has done k = false := fun k hk => by
                  cases h : has done k with
                  | false => rfl
                  | true => rw [hle2 k h] at hk; cases hk
                have hro2 : S''.ro = S.ro := hsame.ro.trans hro
                have hres := ihf m (listed.setIfInBounds i true) (forced ||| (c ||| 2 ^ i)) done' S'' o'' ρ' (a.put o.dst x) w' hl' hoo'' (hgo.sub hs'') ⟨by simp [hi.size], ?_, hclosed', ?_, ?_, ?_⟩
                  (fun a2 w2 h2 => hQ a2 w2 (by
                    obtain ⟨z, S3, ρ3, hm3, hx3, hag3, hp3, hn3, hr3⟩ := h2.ex
                    rw [hsame.next] at hag3 hn3
                    exact ⟨z, S3, ρ3, hrs _ (hs _ (hs'' _ hm3)), hx3, hagr.trans (hag3.mono hn), hp3, Nat.le_trans hn hn3, hr3.trans hro2⟩))
                · rw [hro2, ← Fof_congr hagr hp.bd.ro] at hres; exact hres
                · intro j hj
                  rcases (dn_set hiz).1 hj with e | hj
                  · subst e; exact .inl hi2
                  · exact (hi.sub j hj).imp (hle2 j) id
                · intro j oj hj hnj hoj
                  have hnj2 : ¬ Dn listed j := fun h => hnj ((dn_set hiz).2 (.inr h))
                  rcases hge j hj with h1 | ⟨oj', h1, h2⟩
                  · rw [has_or, Bool.or_eq_true, has_pow] at h1
                    rcases h1 with h1 | h1
                    · exact hi.rds j oj h1 hnj2 hoj
                    · have e : i = j := by simpa using h1
                      subst e; exact absurd ((dn_set hiz).2 (.inl rfl)) hnj
                  · rw [hoj] at h1; cases h1; exact h2
                · intro j hj
                  rw [has_or, has_or, has_pow, Bool.or_eq_true, Bool.or_eq_true] at hj
                  refine (dn_set hiz).2 ?_
                  rcases hj with h1 | h1 | h1
                  · exact .inr (hi.frc j h1)
                  · exact .inr (hcl j h1)
                  · exact .inl (of_decide_eq_true h1).symm
                · refine ⟨av', F', blk, hext, hp'', ?_, ?_, fun j hj hdj => ?_, fun j k h1 h2 h3 h4 h5 => ?_, fun t ht ht2 => ?_⟩
                  · rw [hp''.df, put_defers, ← hdf, hp.df, hsame.df]
                    have hpdf := hp'.df
                    rw [put_defers, hp.df] at hpdf
                    exact hpdf.symm
                  · rw [hz', size_put, size_put, hz]
                  · rcases (dn_set hiz).1 hj with e | hj'
                    · subst e; rw [hi2] at hdj; cases hdj
                    · exact pendPut hi.closed ho hnd hj' ((hi.sub j hj').resolve_left (by rw [n1 j hdj]; simp)) (hpend j hj' (n1 j hdj))
                  · rcases (dn_set hiz).1 h1 with e | h1
                    · subst e; rw [hi2] at h2; cases h2
                    rcases (dn_set hiz).1 h3 with e | h3
                    · subst e; rw [hi2] at h4; cases h4
                    exact hinj j k h1 (n1 j h2) h3 (n1 k h4) h5
                  · rw [htm' t (fun y oy hy1 hy2 hoy => by
                      refine ht y oy hy1 (fun hd => ?_) hoy
                      rw [has_or, Bool.or_eq_false_iff, has_pow] at hy2
                      rcases (dn_set hiz).1 hd with e | hd
                      · subst e; simp at hy2
                      · rw [hpn y hd hy2.1] at hy1; cases hy1)]
                    rw [getElem?_put, getElem?_put, hz]
                    by_cases e : o.dst = some t
                    · simp [e]
                    · simp only [e, if_false]
                      refine htm t (fun y oy hy hny hoy => ?_) (fun y oy hy hny hoy => ?_)
                      · by_cases e2 : y = i
                        · subst e2; rw [ho] at hoy; cases hoy; exact e
                        · exact ht y oy (hle2 y hy) (fun h => ((dn_set hiz).1 h).elim e2 hny) hoy
                      · exact ht2 y oy (hpn y hny hy) ((dn_set hiz).2 (.inr hny)) hoy)
            unfold wpG at hw
            unfold wpOpIn
            simp only [ho']
            split
            · rename_i hw1; rw [if_pos hw1] at hw; exact hw
            · rename_i hw1
              rw [if_neg hw1] at hw
              exact ⟨fun f _ => Fof_fn _ _ _, hw⟩

end
end Go.Vg
