/- Which values of a type are one: those whose cells are, where all cells are integers and truth values. Conditions: the type's shape, which the kernel reckons. -/
import Derived.Test.YtfkjbiigciabpaaGreatVgRead
import Derived.ChangeKeysEq
import Derived.Laws.StructEq
namespace Go.Vg

def shapeF (f : TypeId → Option (List (Option IntKind))) (c : TypeId → Nat) : List Field → Nat → Option (List (Option IntKind))
  | [], _ => some []
  | fl :: fs, off => if fl.name ≠ "_" ∧ fl.offset = off then match f fl.type with
      | some s => if s.length = c fl.type then (shapeF f c fs (off + s.length)).map (s ++ ·) else none
      | none => none
    else none

def shapeT (P : Program) : Nat → TypeId → Option (List (Option IntKind))
  | 0, _ => none
  | d + 1, t => match P.underlying t with
    | some (.int k) => some [some k]
    | some .bool => some [none]
    | some (.struct fs) => if P.stoodInHeld t then none else shapeF (shapeT P d) P.cellsOf fs.toList 0
    | some (.array n e) => match shapeT P d e with
      | some s => if s.length = P.cellsOf e then some (List.replicate n s).flatten else none
      | none => none
    | _ => none

def aggT (P : Program) (t : TypeId) : Bool := match P.underlying t with | some d => aggOf d | none => false
def vf (P : Program) (t : TypeId) (a : List Value) : Value := if aggT P t then .agg a.toArray else a.headD undef

theorem Shaped.length : ∀ {s : List (Option IntKind)} {a : List Value}, Shaped s a → a.length = s.length
  | [], [], _ => rfl
  | some _ :: _, .int .. :: _, h => by simp only [Shaped] at h; simp [Shaped.length h.2]
  | none :: _, .bool _ :: _, h => by simp only [Shaped] at h; simp [Shaped.length h]

theorem Shaped.split : ∀ {s1 s2 : List (Option IntKind)} {a : List Value}, Shaped (s1 ++ s2) a → Shaped s1 (a.take s1.length) ∧ Shaped s2 (a.drop s1.length)
  | [], _, _, h => ⟨trivial, h⟩
  | some _ :: s1, s2, .int .. :: a, h => by
    simp only [List.cons_append, Shaped] at h
    obtain ⟨h1, h2⟩ := Shaped.split h.2
    exact ⟨⟨h.1, h1⟩, h2⟩
  | none :: s1, s2, .bool _ :: a, h => by
    simp only [List.cons_append, Shaped] at h
    obtain ⟨h1, h2⟩ := Shaped.split h
    exact ⟨h1, h2⟩

theorem eqVs_split : ∀ (n : Nat) (a b : List Value), a.length = b.length → eqVs a b = (eqVs (a.take n) (b.take n) && eqVs (a.drop n) (b.drop n))
  | 0, a, b, _ => by simp [eqVs]
  | n + 1, [], [], _ => by simp [eqVs]
  | n + 1, x :: a, y :: b, h => by
    simp only [List.length_cons, Nat.add_right_cancel_iff] at h
    simp only [eqVs, List.take_succ_cons, List.drop_succ_cons, eqVs_split n a b h, Bool.and_assoc]

section
variable {P : Program}

theorem run_part {t : TypeId} {d : TypeDesc} (hu : P.underlying t = some d) {a : List Value} {off n : Nat} (hn : n = P.cellsOf t) (h1 : aggOf d = false → n = 1) (hl : off + n ≤ a.length) (w : World) :
    (part t a.toArray off).run P w = .ok (vf P t ((a.drop off).take n)) w := by
  obtain ⟨i, hi⟩ := info_of_underlying hu
  have hc : i.size = n := by rw [hn]; simp [Program.cellsOf, hi]
  have hagg : (isAgg t).run P w = .ok (aggOf d) w := by
    simp only [isAgg, Sem.run_bind, run_underlying hu, Result.andThen_ok]
    cases d <;> simp [aggOf]
  simp only [part, Sem.run_bind, hagg, Result.andThen_ok, vf, aggT, hu]
  cases hd : aggOf d with
  | true => simp [sizeOf, typeInfo, hi, hc]
  | false =>
    have := h1 hd
    subst this
    have hlt : off < a.length := by omega
    have e : (a.drop off).take 1 = [a[off]] := by rw [List.drop_eq_getElem_cons hlt]; rfl
    rw [e]
    simp [hlt]

theorem shape_one {d : Nat} {t : TypeId} {s : List (Option IntKind)} (h : shapeT P d t = some s) : ∃ u, P.underlying t = some u ∧ (aggOf u = false → s.length = 1) := by
  cases d with
  | zero => simp [shapeT] at h
  | succ d =>
    simp only [shapeT] at h
    split at h
    · rename_i k hu; cases h; exact ⟨_, hu, fun _ => rfl⟩
    · rename_i hu; cases h; exact ⟨_, hu, fun _ => rfl⟩
    · rename_i fs hu; exact ⟨_, hu, fun h => by simp [aggOf] at h⟩
    · rename_i n e hu; exact ⟨_, hu, fun h => by simp [aggOf] at h⟩
    · cases h

def EqAt (P : Program) (m : Nat) (t : TypeId) (s : List (Option IntKind)) : Prop :=
  ∀ (w : World) (a b : List Value), Shaped s a → Shaped s b → (Op.equalIn m t (vf P t a) (vf P t b)).run P w = .ok (eqVs a b) w

theorem fields_eq {m d : Nat} (ih : ∀ t s, shapeT P d t = some s → EqAt P m t s) : ∀ (fs : List Field) (off : Nat) (s : List (Option IntKind)), shapeF (shapeT P d) P.cellsOf fs off = some s →
    ∀ (w : World) (a b : List Value), off ≤ a.length → off ≤ b.length → Shaped s (a.drop off) → Shaped s (b.drop off) → (Op.eqFields m a.toArray b.toArray fs).run P w = .ok (eqVs (a.drop off) (b.drop off)) w
  | [], off, s, h, w, a, b, _, _, ha, hb => by
    simp only [shapeF, Option.some.injEq] at h; subst h
    have h1 := ha.length; have h2 := hb.length
    rw [List.eq_nil_of_length_eq_zero h1, List.eq_nil_of_length_eq_zero h2]
    simp [Op.eqFields, eqVs]
  | fl :: fs, off, s, h, w, a, b, hoa, hob, ha, hb => by
    simp only [shapeF] at h
    split at h
    case isFalse => cases h
    rename_i hnm
    split at h
    case h_2 => cases h
    rename_i s1 hs1
    split at h
    case isFalse => cases h
    rename_i hlen
    obtain ⟨s2, hs2, rfl⟩ := Option.map_eq_some_iff.1 h
    obtain ⟨u, hu, h1⟩ := shape_one hs1
    obtain ⟨a1, a2⟩ := ha.split
    obtain ⟨b1, b2⟩ := hb.split
    have la := ha.length; have lb := hb.length
    simp only [List.length_append, List.length_drop] at la lb
    have pa := run_part (P := P) hu (a := a) (off := off) hlen (fun h => h1 h) (by omega) w
    have pb := run_part (P := P) hu (a := b) (off := off) hlen (fun h => h1 h) (by omega) w
    have he := ih fl.type s1 hs1 w _ _ a1 b1
    have hsp := eqVs_split s1.length (a.drop off) (b.drop off) (by simp only [List.length_drop]; omega)
    simp only [List.drop_drop] at a2 b2 hsp
    have hr := fields_eq ih fs (off + s1.length) s2 hs2 w a b (by omega) (by omega) a2 b2
    simp only [Op.eqFields, hnm.1, ne_eq, not_false_eq_true, if_true, hnm.2, Sem.run_bind, pa, pb, he, Result.andThen_ok, hsp]
    cases eqVs ((a.drop off).take s1.length) ((b.drop off).take s1.length) with
    | true => simpa using hr
    | false => simp

theorem items_eq {m : Nat} {e : TypeId} {s : List (Option IntKind)} {u : TypeDesc} (hu : P.underlying e = some u) (h1 : aggOf u = false → s.length = 1) (hlen : s.length = P.cellsOf e) (ih : EqAt P m e s) : ∀ (n k : Nat)
    (w : World) (a b : List Value), k * s.length ≤ a.length → k * s.length ≤ b.length → Shaped (List.replicate n s).flatten (a.drop (k * s.length)) → Shaped (List.replicate n s).flatten (b.drop (k * s.length)) →
    (Op.eqItems m e (P.cellsOf e) a.toArray b.toArray (List.range' k n)).run P w = .ok (eqVs (a.drop (k * s.length)) (b.drop (k * s.length))) w
  | 0, k, w, a, b, _, _, ha, hb => by
    have h1 := ha.length; have h2 := hb.length
    simp only [List.replicate_zero, List.flatten_nil, List.length_nil] at h1 h2
    rw [List.eq_nil_of_length_eq_zero h1, List.eq_nil_of_length_eq_zero h2]
    simp [Op.eqItems, eqVs]
  | n + 1, k, w, a, b, hka, hkb, ha, hb => by
    rw [List.replicate_succ, List.flatten_cons] at ha hb
    obtain ⟨a1, a2⟩ := ha.split
    obtain ⟨b1, b2⟩ := hb.split
    have la := ha.length; have lb := hb.length
    simp only [List.length_append, List.length_drop] at la lb
    have pa := run_part (P := P) hu (a := a) (off := k * s.length) hlen (fun h => h1 h) (by omega) w
    have pb := run_part (P := P) hu (a := b) (off := k * s.length) hlen (fun h => h1 h) (by omega) w
    have he := ih w _ _ a1 b1
    have hsp := eqVs_split s.length (a.drop (k * s.length)) (b.drop (k * s.length)) (by simp only [List.length_drop]; omega)
    have hk1 : (k + 1) * s.length = k * s.length + s.length := by rw [Nat.add_mul, Nat.one_mul]
    simp only [List.drop_drop] at a2 b2 hsp
    rw [← hk1] at a2 b2 hsp
    have hr := items_eq hu h1 hlen ih n (k + 1) w a b (by rw [hk1]; omega) (by rw [hk1]; omega) a2 b2
    rw [List.range'_succ]
    simp only [Op.eqItems, ← hlen, Sem.run_bind, pa, pb, he, Result.andThen_ok, hsp]
    rw [← hlen] at hr
    cases eqVs ((a.drop (k * s.length)).take s.length) ((b.drop (k * s.length)).take s.length) with
    | true => simpa using hr
    | false => simp

theorem shape_eq : ∀ (d : Nat) (t : TypeId) (s : List (Option IntKind)), shapeT P d t = some s → ∀ m, d ≤ m → EqAt P m t s
  | 0, t, s, h, _, _ => by simp [shapeT] at h
  | d + 1, t, s, h, 0, hm => by omega
  | d + 1, t, s, h, m + 1, hm => by
    have ih := fun t s h => shape_eq d t s h m (by omega)
    intro w a b ha hb
    simp only [shapeT] at h
    split at h
    · rename_i k hu
      cases h
      match a, b, ha, hb with
      | [.int _ x], [.int _ y], ha, hb =>
        simp only [Shaped] at ha hb
        rw [ha.1, hb.1]
        simp [vf, aggT, hu, aggOf, run_equalIn_int w m t k k x y hu, eqVs, eq1]
      | [], _, ha, _ => simp [Shaped] at ha
      | .int _ _ :: _ :: _, _, ha, _ => simp [Shaped] at ha
      | [.int _ _], [], _, hb => simp [Shaped] at hb
      | [.int _ _], .int _ _ :: _ :: _, _, hb => simp [Shaped] at hb
    · rename_i hu
      cases h
      match a, b, ha, hb with
      | [.bool x], [.bool y], ha, hb =>
        simp [vf, aggT, hu, aggOf, run_equalIn_bool w m t x y hu, eqVs, eq1]
      | [], _, ha, _ => simp [Shaped] at ha
      | .bool _ :: _ :: _, _, ha, _ => simp [Shaped] at ha
      | [.bool _], [], _, hb => simp [Shaped] at hb
      | [.bool _], .bool _ :: _ :: _, _, hb => simp [Shaped] at hb
    · rename_i fs hu
      split at h
      · cases h
      rename_i hp
      have hf : P.fieldsOf t = fs := by simp [Program.fieldsOf, hu]
      have := fields_eq ih fs.toList 0 s h w a b (Nat.zero_le _) (Nat.zero_le _) ha hb
      rw [List.drop_zero, List.drop_zero] at this
      simp only [vf, aggT, hu, aggOf, if_true]
      rw [run_equalIn_struct w m t _ _ (by rw [hf]; exact hu) (by simpa using hp), hf]
      exact this
    · rename_i n e hu
      split at h
      case h_2 => cases h
      rename_i s1 hs1
      split at h
      case isFalse => cases h
      rename_i hlen
      cases h
      obtain ⟨u, hue, h1⟩ := shape_one hs1
      obtain ⟨i, hi⟩ := info_of_underlying hue
      simp only [vf, aggT, hu, aggOf, if_true]
      rw [run_equalIn_array w m _ _ hu hi, List.range_eq_range']
      have := items_eq hue h1 hlen (ih e s1 hs1) n 0 w a b (by simp) (by simp) (by simpa using ha) (by simpa using hb)
      simpa using this
    · cases h

theorem eqOk_of {t : TypeId} {s : List (Option IntKind)} (h : shapeT P 20 t = some s) (hagg : aggT P t = true) (hg : P.eqGuardType P.depth t = false) : EqOk P t s := by
  refine ⟨hg, fun w a b ha hb => ?_⟩
  have := shape_eq 20 t s h 10000 (by omega) w a b ha hb
  simpa [vf, hagg] using this
end
end Go.Vg
