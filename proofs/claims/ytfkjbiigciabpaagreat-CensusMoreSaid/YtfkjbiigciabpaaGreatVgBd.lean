/- What the engine's operations give names nothing that is not there yet. No condition. -/
import Derived.Test.YtfkjbiigciabpaaGreatVgWr
namespace Go.Vg

section
variable {n : Nat} {tm : Tr SV} {H : Tr Ch} (ht : TBd n tm) (hH : HBd n H)

theorem SA.add_bd {a : SA} {k : Nat} (h : a.bd n) : (a.add k).bd n := ⟨h.1, h.2⟩
theorem mkIdx_bd {a b : SA} {e : IE} {size : Nat} (h : mkIdx a e size = some b) (ha : a.bd n) (he : e.bd n) : b.bd n := by
  unfold mkIdx at h
  split at h
  · cases h; exact SA.add_bd ha
  · cases h
    refine ⟨ha.1, fun p h => ?_⟩
    cases h with
    | head => exact he
    | tail _ h => exact ha.2 p h

include ht in
theorem opnd_bd {x : Operand} {v : SV} (h : opnd tm x = some v) : v.bd n := by
  cases x <;> simp only [opnd] at h
  · exact ht _ _ h
  · cases h; exact ofV_bd n _
  · cases h
  · cases h; simp [SV.bd, SFn.bd, bdL]

include ht in
theorem opnds_bd : ∀ {xs : List Operand} {vs : List SV}, opnds tm xs = some vs → bdL n vs
  | [], _, h => by simp only [opnds, Option.some.injEq] at h; subst h; simp [bdL]
  | x :: xs, _, h => by
    simp only [opnds] at h
    split at h
    · rename_i v vs hv hvs
      cases h
      simp only [bdL]; exact ⟨opnd_bd ht hv, opnds_bd hvs⟩
    · cases h

include ht in
theorem partsS_bd : ∀ {xs : List (Nat × Operand)} {vs : List (Nat × SV)}, partsS tm xs = some vs → ∀ p ∈ vs, p.2.bd n
  | [], _, h => by simp only [partsS, Option.some.injEq] at h; subst h; simp
  | (i, x) :: xs, _, h => by
    simp only [partsS] at h
    split at h
    · rename_i v vs hv hvs
      cases h
      intro p hp
      cases hp with
      | head => exact opnd_bd ht hv
      | tail _ hp => exact partsS_bd hvs p hp
    · cases h

theorem cellsOf_bd {v : SV} {vs : List SV} (h : v.cellsOf = some vs) (hb : v.bd n) : bdL n vs := by
  unfold SV.cellsOf at h
  split at h
  · cases h; simpa [SV.bd] using hb
  · have := (whenB_some h).2
    cases this
    simp only [bdL]; exact ⟨hb, trivial⟩

theorem fillS_bd {place : Nat → Option (Nat × Nat)} : ∀ {ps : List (Nat × SV)} {cells out : List SV}, fillS place cells ps = some out → bdL n cells → (∀ p ∈ ps, p.2.bd n) → bdL n out
  | [], cells, out, h, hc, _ => by simp only [fillS, Option.some.injEq] at h; subst h; exact hc
  | (i, v) :: rest, cells, out, h, hc, hp => by
    simp only [fillS] at h
    split at h
    case h_2 => cases h
    rename_i off size vs _ hv
    exact fillS_bd (whenB_some h).2 (splice_bd hc (cellsOf_bd hv (hp (i, v) (by simp)))) (fun p h' => hp p (by simp [h']))

theorem map_of1_bd (l : List Value) : bdL n (l.map of1) := (bdL_iff _).2 fun x hx => by
  obtain ⟨y, _, rfl⟩ := List.mem_map.1 hx; exact of1_bd n y

theorem rdBuild_bd {ty : Nat → Option TI} {t : Nat} {ps : List (Nat × SV)} {v : SV} (h : rdBuild ty t ps = some v) (hp : ∀ p ∈ ps, p.2.bd n) : v.bd n := by
  unfold rdBuild at h
  split at h
  case h_2 => cases h
  split at h
  case h_2 => cases h
  rename_i z _
  split at h
  case h_3 => cases h
  all_goals
    split at h
    case h_2 => cases h
    obtain ⟨out, ho, rfl⟩ := Option.map_eq_some_iff.1 h
    simp only [SV.bd]
    exact fillS_bd ho (map_of1_bd _) hp

theorem partS_bd {ty : Nat → Option TI} {t : Nat} {l : List SV} {off : Nat} {v : SV} (h : partS ty t l off = some v) (hl : bdL n l) : v.bd n := by
  rw [bdL_iff] at hl
  unfold partS at h
  split at h
  case h_2 => cases h
  rename_i i hi
  cases hagg : aggOf i.und with
  | true =>
    rw [hagg] at h
    have := (whenB_some h).2
    cases this
    simp only [SV.bd]
    exact (bdL_iff _).2 fun x hx => hl x (List.mem_of_mem_drop (List.mem_of_mem_take hx))
  | false =>
    rw [hagg] at h
    exact hl v (List.mem_of_getElem? h)

include hH in
theorem ldKnown_bd {a : SA} {k : Nat} {vs : List SV} (h : ldKnown H a k = some vs) : bdL n vs := by
  unfold ldKnown at h
  split at h
  case h_2 => cases h
  rename_i c _ hk
  split at h
  case h_2 => cases h
  rename_i cs hc
  have hb : bdL n cs := by
    have := (hH _ _ hk).2
    cases c <;> simp only [Ch.known, Option.some.injEq, reduceCtorEq] at hc
    · subst hc; exact this
    · subst hc; exact this.1
  rw [bdL_iff] at hb
  cases hb' : Nat.ble (a.off + k) cs.length with
  | false => rw [hb'] at h; cases h
  | true =>
    rw [hb'] at h; cases h
    exact (bdL_iff _).2 fun x hx => hb x (List.mem_of_mem_drop (List.mem_of_mem_take hx))

theorem cellsS_bd {sh : List SK} {r : Nat} {p : IE} {o : Nat} (hr : r < n) (hp : p.bd n) : ∀ {m j : Nat} {vs : List SV}, cellsS sh r p o j m = some vs → bdL n vs
  | 0, _, vs, h => by simp only [cellsS, Option.some.injEq] at h; subst h; trivial
  | m + 1, j, vs, h => by
    simp only [cellsS] at h
    split at h
    · rename_i v vs' hv hvs
      cases h
      exact ⟨cellS_bd hv hr hp, cellsS_bd hr hp hvs⟩
    · cases h
theorem arrPos_bd {ps : List PI} {size : Nat} {len : IE} {a : SA} {m : Nat} {p : IE} {o : Nat} {two : Bool} (h : arrPos ps size len a m = some (p, o, two)) (ha : a.bd n) : p.bd n := by
  have mul : ∀ e s, IE.bd n e → (mulN e s).bd n := fun e s he => by
    unfold mulN
    split
    · exact he
    · trivial
    · exact ⟨he, trivial⟩
  unfold arrPos at h
  split at h
  case h_4 => cases h
  · have := (whenB_some h).2
    cases this; trivial
  · rename_i e s hd
    have := (whenB_some h).2
    cases this
    exact addN_bd (mul _ _ (ha.2 (e, s) (by rw [hd]; simp))) _
  · rename_i f t e s hd
    have := (whenB_some h).2
    cases this
    exact ⟨mul _ _ (ha.2 (e, s) (by rw [hd]; simp)), ha.2 (f, t) (by rw [hd]; simp)⟩
include hH in
theorem ldCells_bd {ps : List PI} {a : SA} {k : Nat} {vs : List SV} (h : ldCells ps H a k = some vs) (ha : a.bd n) : bdL n vs := by
  unfold ldCells at h
  split at h
  · rename_i us hus; cases h; exact ldKnown_bd hH hus
  · unfold ldArr at h
    split at h
    case h_2 => cases h
    rename_i hk
    split at h
    case h_2 => cases h
    rename_i hpos
    exact cellsS_bd (hH _ _ hk).2.1 (arrPos_bd hpos ha) (whenB_some h).2

theorem rdInt_bd {ps : List PI} {op : BinOp} {k k' : IntKind} {a b : IE} {v : SV} (h : rdInt ps op k k' a b = some v) (ha : a.bd n) (hb : b.bd n) : v.bd n := by
  cases op <;> simp only [rdInt] at h
  case shl | shr =>
    split at h <;> cases h
    simp only [SV.bd]; exact mkBin_bd ha hb
  case quo | rem =>
    have := (whenB_some h).2
    split at this <;> cases this
    simp only [SV.bd]; exact mkBin_bd ha hb
  all_goals
    have := (whenB_some h).2
    cases this
    simp only [SV.bd]
    first
      | exact mkBin_bd ha hb
      | exact mkEql_bd ha hb
      | exact mkNot_bd (mkEql_bd ha hb)
      | exact mkLss_bd ha hb
      | exact mkLss_bd hb ha
      | exact mkNot_bd (mkLss_bd ha hb)
      | exact mkNot_bd (mkLss_bd hb ha)

theorem rdBin_bd {ty : Nat → Option TI} {ps : List PI} {op : BinOp} {xt : Nat} {c : Bool} {x y v : SV} (h : rdBin ty ps op xt c x y = some v) (hx : x.bd n) (hy : y.bd n) : v.bd n := by
  unfold rdBin at h
  split at h
  · simp only [SV.bd] at hx hy; exact rdInt_bd h hx hy
  · simp only [SV.bd] at hx hy
    split at h <;> cases h
    · simp only [SV.bd]; exact mkIte_bd hx hy (mkNot_bd hy)
    · simp only [SV.bd]; exact mkIte_bd hx (mkNot_bd hy) hy
  · split at h
    case h_2 => cases h
    split at h <;> cases h <;> simp [SV.bd, BE.bd]

theorem rdIdx_bd {ty : Nat → Option TI} {ps : List PI} {t : Nat} {x ix v : SV} (h : rdIdx ty ps t x ix = some v) (hx : x.bd n) (hi : ix.bd n) : v.bd n := by
  unfold rdIdx at h
  split at h
  case h_2 => cases h
  simp only [SV.bd] at hi
  split at h
  case h_3 => cases h
  all_goals
    split at h
    case h_2 => cases h
    obtain ⟨b, hb, rfl⟩ := Option.map_eq_some_iff.1 (whenB_some h).2
    simp only [SV.bd] at hx ⊢
    first | exact mkIdx_bd hb hx.1 hi | exact mkIdx_bd hb hx hi

theorem rdLen_bd {ps : List PI} {v u : SV} (h : rdLen ps v = some u) (hv : v.bd n) : u.bd n := by
  unfold rdLen at h
  split at h
  case h_3 => cases h
  all_goals
    have := (whenB_some h).2
    cases this
    simp only [SV.bd] at hv ⊢
    first | exact hv.2.1 | exact hv.1
theorem rdCap_bd {ps : List PI} {v u : SV} (h : rdCap ps v = some u) (hv : v.bd n) : u.bd n := by
  unfold rdCap at h
  split at h
  case h_3 => cases h
  all_goals
    have := (whenB_some h).2
    cases this
    simp only [SV.bd] at hv ⊢
    first | exact hv.2.2 | exact hv.2

include ht hH in
theorem rd0_bd {ty : Nat → Option TI} {ps : List PI} {op : Op} {v : SV} (h : rd0 ty tm H ps op = some v) : v.bd n := by
  unfold rd0 at h
  split at h
  case h_1 => exact opnd_bd ht h
  case h_2 => exact opnd_bd ht h
  case h_3 =>
    split at h
    case h_2 => cases h
    rename_i hc
    have hcb := opnd_bd ht hc
    split at h
    · exact opnd_bd ht h
    · exact opnd_bd ht h
    · split at h
      case h_2 => cases h
      rename_i hp hq
      cases h
      have h1 := opnd_bd ht hp
      have h2 := opnd_bd ht hq
      simp only [SV.bd] at hcb h1 h2 ⊢
      exact mkIte_bd hcb h1 h2
  case h_4 =>
    split at h
    case h_2 => cases h
    rename_i sa i ha hi
    cases hagg : aggOf i.und with
    | true =>
      rw [hagg] at h
      obtain ⟨vs, hl, rfl⟩ := Option.map_eq_some_iff.1 h
      have hab := opnd_bd ht ha
      simp only [SV.bd] at hab
      simp only [SV.bd]; exact ldCells_bd hH hl hab
    | false =>
      rw [hagg] at h
      simp only [cond_false] at h
      split at h
      case h_2 => cases h
      rename_i hl
      cases h
      have hab := opnd_bd ht ha
      simp only [SV.bd] at hab
      have := ldCells_bd hH hl hab
      simp only [bdL] at this
      exact this.1
  case h_5 =>
    split at h
    case h_4 => cases h
    all_goals
      rename_i hx
      cases h
      exact opnd_bd ht hx
  case h_6 =>
    split at h
    case h_2 => cases h
    rename_i ha hb
    exact rdBin_bd h (opnd_bd ht ha) (opnd_bd ht hb)
  case h_7 =>
    split at h
    case h_3 => cases h
    all_goals
      rename_i hx
      cases h
      have := opnd_bd ht hx
      simp only [SV.bd] at this ⊢
      first | exact mkNot_bd this | exact mkBin_bd trivial this
  case h_8 =>
    split at h
    case h_2 => cases h
    rename_i hx
    split at h
    case h_2 => cases h
    cases h
    have := opnd_bd ht hx
    simp only [SV.bd] at this ⊢
    exact mkWrap_bd this
  case h_9 =>
    split at h
    case h_2 => cases h
    rename_i hx
    split at h
    · cases h
    · cases h
      simp only [SV.bd]; exact opnd_bd ht hx
  case h_10 =>
    split at h
    case h_2 => cases h
    rename_i ha hb
    cases h
    simp only [SV.bd]; exact ⟨trivial, opnds_bd ht ha, opnds_bd ht hb⟩
  case h_11 =>
    split at h
    case h_2 => cases h
    rename_i hx
    split at h
    case h_2 => cases h
    split at h
    case h_2 => cases h
    split at h
    case h_2 => cases h
    have := (whenB_some h).2
    cases this
    have := opnd_bd ht hx
    simp only [SV.bd] at this ⊢
    exact SA.add_bd this
  case h_12 =>
    split at h
    case h_2 => cases h
    rename_i hx
    split at h
    case h_2 => cases h
    split at h
    case h_2 => cases h
    have := opnd_bd ht hx
    simp only [SV.bd] at this
    exact partS_bd h this
  case h_13 =>
    split at h
    case h_2 => cases h
    rename_i ha hb
    exact rdIdx_bd h (opnd_bd ht ha) (opnd_bd ht hb)
  case h_14 =>
    split at h
    case h_2 => cases h
    rename_i hx hix
    split at h
    case h_2 => cases h
    split at h
    case h_2 => cases h
    have := opnd_bd ht hx
    simp only [SV.bd] at this
    exact partS_bd (whenB_some h).2 this
  case h_15 =>
    split at h
    case h_2 => cases h
    rename_i hx
    have := opnd_bd ht hx
    simp only [SV.bd] at this
    exact (bdL_iff _).1 this v (List.mem_of_getElem? h)
  case h_16 =>
    split at h
    case h_2 => cases h
    rename_i hq
    exact rdBuild_bd h (partsS_bd ht hq)
  case h_17 =>
    split at h
    case h_2 => cases h
    rename_i hx
    exact rdLen_bd (whenB_some h).2 (opnd_bd ht hx)
  case h_18 =>
    split at h
    case h_2 => cases h
    rename_i hx
    exact rdCap_bd (whenB_some h).2 (opnd_bd ht hx)
  case h_19 => cases h
end

/-! ### Writers keep it -/
structure Keeps (Q : Prop) (S S' : SS) : Prop where
  tm : S'.tm = S.tm
  nt : S'.nt = S.nt
  df : S'.df = S.df
  path : S'.path = S.path ∨ Q
  next : S.next ≤ S'.next
  ro : S'.ro = S.ro

theorem HBd.set {n : Nat} {H : Tr Ch} (h : HBd n H) {k : Nat} {c : Ch} (hk : k < n) (hc : c.bd n) : HBd n (H.set k c) := by
  intro m d hd
  rw [Tr.get_set] at hd
  split at hd
  · cases hd; rename_i e; subst e; exact ⟨hk, hc⟩
  · exact h m d hd

theorem fresh_keeps {Q : Prop} (S : SS) (c : Ch) : Keeps Q S (S.fresh c) := ⟨rfl, rfl, rfl, .inl rfl, Nat.le_succ _, rfl⟩
theorem fresh_bd {S : SS} (h : S.Bd) {c : Ch} (hc : c.bd S.next) : (S.fresh c).Bd :=
  ⟨h.tm.mono (Nat.le_succ _), (h.hp.mono (Nat.le_succ _)).set (Nat.lt_succ_self _) (Ch.bd_mono (Nat.le_succ _) c hc), fun p hp => PI.bd_mono (Nat.le_succ _) p (h.path p hp), fun d hd => Nat.lt_succ_of_lt (h.df d hd), fun d hd => Nat.lt_succ_of_lt (h.ro d hd)⟩

theorem zeroS_bd {n : Nat} {ty : Nat → Option TI} {t : Nat} {z : List SV} (h : zeroS ty t = some z) : bdL n z := by
  unfold zeroS at h
  split at h
  case h_2 => cases h
  split at h
  case h_2 => cases h
  exact cellsOf_bd h (ofV_bd n _)
theorem bdL_append {n : Nat} {a b : List SV} (ha : bdL n a) (hb : bdL n b) : bdL n (a ++ b) := by
  rw [bdL_iff] at *
  intro v hv
  rcases List.mem_append.1 hv with h | h
  · exact ha v h
  · exact hb v h
theorem repS_bd {n : Nat} {z : List SV} (h : bdL n z) : ∀ k, bdL n (repS z k)
  | 0 => by simp [repS, bdL]
  | k + 1 => bdL_append h (repS_bd h k)

end Go.Vg
