/- A law's row out of a walk: a function that returns true and leaves all that lay there as it lay; arguments that are rows of integers. Conditions: those of the walk. -/
import Derived.Test.YtfkjbiigciabpaaGreatVgTrue
import Derived.ProofKit
namespace Go.Vg
open Go.ChangeShapes Go.WideShapes Go.RowKit

theorem Only.below {w w' : World} (h : Only w w') : Below w.heap.size w w' := ⟨h.os, h.tape, h.output, h.size, h.heap⟩
theorem Only.of_below {w w' : World} (h : Below w.heap.size w w') : Only w w' := ⟨h.block, h.size, h.os, h.output, h.tape⟩

theorem trodAll_below {H : Type} {enc : TypeId × Value → H} {P : Program} (hl : laidOutB P = true) {W W' : World} (hb : Below W.heap.size W W') :
    ∀ {ts : List TypeId} {vs : List Value} {ds : List (DataW H)} {ps : List MemPlace}, (∀ t ∈ ts, P.readableRec t = true ∧ t < P.types.size) →
      DataW.TrodAll enc P W 0 (fun _ => true) true ts vs ds ps → (∀ x ∈ ps, x.block < W.heap.size) → DataW.TrodAll enc P W' 0 (fun b => decide (b < W.heap.size)) true ts vs ds ps
  | [], [], [], ps, _, h, _ => h
  | t :: ts, v :: vs, d :: ds, ps, hr, h, hlt => by
    obtain ⟨p, q, h1, h2, e⟩ := h
    refine ⟨p, q, Below.trod hl (hr t (by simp)).1 (hr t (by simp)).2 h1 hb (fun x hx => hlt x (by rw [e]; simp [hx])), trodAll_below hl hb (fun t ht => hr t (by simp [ht])) h2 (fun x hx => hlt x (by rw [e]; simp [hx])), e⟩
  | [], [], _ :: _, _, _, h, _ => by cases h
  | [], _ :: _, _, _, _, h, _ => by cases h
  | _ :: _, [], _, _, _, h, _ => by cases h
  | _ :: _, _ :: _, [], _, _, h, _ => by cases h

theorem trodAll_length {H : Type} {enc : TypeId × Value → H} {P : Program} {w : World} {base : Nat} {spare : Nat → Bool} {held : Bool} :
    ∀ {ts : List TypeId} {vs : List Value} {ds : List (DataW H)} {ps : List MemPlace}, DataW.TrodAll enc P w base spare held ts vs ds ps → vs.length = ts.length ∧ ds.length = ts.length
  | [], [], [], _, _ => ⟨rfl, rfl⟩
  | t :: ts, v :: vs, d :: ds, ps, h => by
    obtain ⟨p, q, _, h2, _⟩ := h
    obtain ⟨a, b⟩ := trodAll_length h2
    exact ⟨by simp [a], by simp [b]⟩
  | [], [], _ :: _, _, h => by cases h
  | [], _ :: _, _, _, h => by cases h
  | _ :: _, [], _, _, h => by cases h
  | _ :: _, _ :: _, [], _, h => by cases h

/-- The row of a law: it returns true, its arguments read as they did. -/
theorem law_lifted {C : Checked} {f : Nat} {fn : Func} {s : ChangeSpec} {conds : List PathCond} {os : Os} {H : Type} {enc : TypeId × Value → H} {tb : Nat}
    (own : ownKnob C.prog.godebug = none) (hl : laidOutB C.prog = true) (started : os.Started) (noInit : C.prog.inits.idxOf? f = none) (hfn : C.prog.funcs[f]? = some fn)
    (hrt : fn.resultTypes = #[tb]) (htb : C.prog.underlying tb = some .bool) (hpar : ∀ t ∈ fn.params.toList, C.prog.readableRec t = true ∧ t < C.prog.types.size)
    (hvars : s.vars = []) (hres : ∀ ds : List (DataW H), ds.length = fn.params.size → (s.fn H ds).results = [.lit (.bool true)] ∧ (s.fn H ds).args = ds ∧ (s.fn H ds).vars = [])
    (witness : ∃ (w : World) (tape : Tape) (i : Input), w.os = os ∧ (w.forCall tape i).Shaped C.prog ∧ i.vars = [] ∧ Input.okWide C.prog (w.forCall tape i) .any w.heap.size f i ∧
      s.pre6 enc C.prog fn conds false (w.forCall tape i).memory i.args ∧ ({} : Assume).holds C.prog (lone (Frame.enter C.prog f i.args .normal) [] (w.forCall tape i)))
    (walk : ∀ (W : World) (base : Nat) (args : Array Value) (ds : List (DataW H)) (p : List MemPlace),
      (∀ (j : Nat) t v, fn.params[j]? = some t → args[j]? = some v → Value.okWide C.prog W .any base t v) →
      DataW.TrodAll enc C.prog W 0 (fun _ => true) true fn.params.toList args.toList ds p → W.noneFrozen p →
      conds.all (PathCond.test C.prog ⟨fn.params.toList, ds, s.plain.varTypes C.prog, []⟩) = true →
      Calls C.prog f args W fun e W' => e = .returned (.bool true) ∧ Only W W') :
    ReturnsInHanded {} C os f .any (s.pre6 enc C.prog fn conds false) (s.post enc C.prog fn false true false false) := by
  refine returnsInHanded_of_change own started noInit hfn witness ?_
  intro W base args ds gs before hval hW hcnd _
  have hW' := hW
  obtain ⟨p, q, hA, hV, hpq, hfz, hnd⟩ := hW
  rw [hvars] at hV
  have hgq : gs = [] ∧ q = [] := by
    cases gs with
    | nil => exact ⟨rfl, hV⟩
    | cons _ _ => cases hV
  obtain ⟨rfl, rfl⟩ := hgq
  rw [List.append_nil] at hpq
  subst hpq
  refine (walk W base args ds before hval hA hfz hcnd).mono fun e W' ⟨he, hw⟩ => ?_
  obtain ⟨h1, h2, h3⟩ := hres (ds ++ []) (by rw [List.append_nil, (trodAll_length hA).2]; simp)
  refine ⟨_, he, ds, [], before, [], before, [], hW', ?_, ?_, ?_, hw.below.frame _, fun h => by cases h⟩
  · rw [h1, hrt]; exact trodAll_mk1 (shut_bool htb true)
  · rw [h2, List.append_nil]
    exact trodAll_below hl hw.below hpar hA hW'.lt
  · rw [h3, hvars]; rfl

/-! ### Arguments that are rows of integers -/

theorem cell_int {P : Program} {w : World} {r : Reach} {base : Nat} {t : TypeId} {k : IntKind} {v : Value} (ht : P.underlying t = some (.int k)) (h : Cell.okWide P w r base t v) : v = .int k (intAt v) ∧ k.has (intAt v) := by
  simp only [Cell.okWide, ht] at h
  cases v <;> simp_all [Cell.ok, intAt]

theorem row_ints {P : Program} {w : World} {r : Reach} {base : Nat} {t : TypeId} {ks : List IntKind} {cs : Array Value} {ts : List TypeId} (hts : P.cellTypes P.depth t = some ts)
    (hk : ts.map P.underlying = ks.map (fun k => some (.int k))) (hs : cs.size = ks.length) (h : Row.okWide P w r base t cs) :
    cs = (List.zipWith Value.int ks (cs.toList.map intAt)).toArray ∧ ∀ (i : Nat) (k : IntKind) (n : Int), ks[i]? = some k → (cs.toList.map intAt)[i]? = some n → k.has n := by
  obtain ⟨ts', h1, _, h3⟩ := h
  rw [hts] at h1
  cases h1
  have hl : ts.length = ks.length := by have := congrArg List.length hk; simpa using this
  have key : ∀ i (hi : i < ks.length) v, cs[i]? = some v → v = .int ks[i] (intAt v) ∧ ks[i].has (intAt v) := fun i hi v hv => by
    obtain ⟨u, hu, hc⟩ := h3 i v hv
    rw [Nat.mod_eq_of_lt (by omega)] at hu
    have h4 : (ts.map P.underlying)[i]? = some (P.underlying u) := by rw [List.getElem?_map, hu]; rfl
    rw [hk, List.getElem?_map, List.getElem?_eq_getElem hi] at h4
    simp only [Option.map_some, Option.some.injEq] at h4
    exact cell_int h4.symm hc
  refine ⟨?_, fun i k n hi hn => ?_⟩
  · apply Array.ext_getElem?
    intro i
    simp only [List.getElem?_toArray]
    by_cases hi : i < ks.length
    · have hc : cs[i]? = some cs[i] := Array.getElem?_eq_getElem (by omega)
      have := (key i hi _ hc).1
      rw [hc, List.getElem?_zipWith, List.getElem?_eq_getElem hi, List.getElem?_map]
      have h5 : cs.toList[i]? = some cs[i] := by simp
      rw [h5]
      exact congrArg some this
    · have h6 : cs[i]? = none := by rw [Array.getElem?_eq_none_iff]; omega
      rw [h6, eq_comm, List.getElem?_eq_none_iff]
      simp only [List.length_zipWith, List.length_map, Array.length_toList]
      omega
  · obtain ⟨hi', rfl⟩ := List.getElem?_eq_some_iff.1 hi
    rw [List.getElem?_map] at hn
    obtain ⟨v, hv, rfl⟩ := Option.map_eq_some_iff.1 hn
    exact (key i hi' v (by simpa using hv)).2

/-- A struct or an array of integers alone. -/
theorem arg_ints {P : Program} {w : World} {r : Reach} {base : Nat} {t : TypeId} {v : Value} (ks : List IntKind) (hagg : (match P.underlying t with | some (.struct _) | some (.array _ _) => true | _ => false) = true)
    (hk' : (P.cellTypes P.depth t).map (fun ts => ts.map P.underlying) = some (ks.map (fun k => some (.int k)))) (hs : P.cellsOf t = ks.length) (h : Value.okWide P w r base t v) :
    ∃ ns : List Int, v = .agg (List.zipWith Value.int ks ns).toArray ∧ ns.length = ks.length ∧ ∀ (i : Nat) (k : IntKind) (n : Int), ks[i]? = some k → ns[i]? = some n → k.has n := by
  obtain ⟨ts, hts, hk⟩ := Option.map_eq_some_iff.1 hk'
  have : ∃ cs, v = .agg cs ∧ cs.size = P.cellsOf t ∧ Row.okWide P w r base t cs := by
    unfold Value.okWide at h
    split at h
    · exact h
    · exact h
    · rename_i h1 h2
      split at hagg
      · rename_i h3; exact absurd h3 (h1 _)
      · rename_i h3; exact absurd h3 (h2 _ _)
      · cases hagg
  obtain ⟨cs, rfl, h2, h3⟩ := this
  obtain ⟨h4, h5⟩ := row_ints hts hk (by rw [h2, hs]) h3
  exact ⟨cs.toList.map intAt, congrArg Value.agg h4, by simp; omega, h5⟩

/-! ### A walk from a state with nothing in it but some numbers -/
def SN (n : Nat) : SS := { tm := .lf, nt := 0, df := [], hp := .lf, path := [], next := n, ro := none }
theorem preC_SN {I : Interp Unit} (n : Nat) (ρ : Env Unit) (w : World) : PreC I (Fall w) ρ (SN n) w := by
  refine ⟨⟨fun t v h => (by cases h), fun m c h => (by cases h), fun p h => (by cases h), fun d h => (by cases h), fun d h => (by cases h)⟩, trivial, ⟨fun _ _ => none, ?_⟩⟩
  refine ⟨fun n c h => (by cases h), fun n m c d b o o' _ h => (by cases h), fun n c b o h => (by cases h), fun n c b o h => (by cases h), fun b hb => ⟨rfl, hb⟩, Nat.le_refl _, rfl, rfl, rfl⟩

def envI (ns : List Int) : Env Unit := { i := fun j => ns.getD j 0, b := fun _ => false, k := fun _ => 0, v := fun _ => .nilIface, u := fun _ => (), r := fun _ => [] }

/-- A law of integers alone: whatever way it takes, it returns true. -/
theorem walk_of_view {P : Program} {I : Interp Unit} {G : GT} (hG : GOk P G) {wr : SS → Op → Option (Option SV × SS)} (hW : ∀ F, SoundW I P F wr) {ct : CT} (hT : ∀ F, SoundT I P F ct) {fuel g n : Nat}
    {args : List SV} {vs : List (SV × List PI)} (h : (inl G (exec G wr ct fuel) g args (SN n)).map (fun l => l.map fun p => (p.1, p.2.path)) = some (vs.map fun p => (some p.1, p.2))) (hb : bdL n args) {ns : List Int}
    (hv : ∀ p ∈ vs, ∀ ρ : Env Unit, (∀ j, j < n → ρ.i j = ns.getD j 0) → holds I ρ p.2 → p.1.den ρ = .bool true) (w : World) :
    Calls P g (denL (envI ns) args).toArray w fun e w' => e = .returned (.bool true) ∧ Only w w' := by
  obtain ⟨outs, ho, hm⟩ := Option.map_eq_some_iff.1 h
  have hg : GoodC I outs := fun S hS => by
    have : ((none : Option SV), S.path) ∈ vs.map fun p => (some p.1, p.2) := by rw [← hm]; exact List.mem_map.2 ⟨_, hS, rfl⟩
    obtain ⟨q, _, hq⟩ := List.mem_map.1 this
    cases hq
  have hc := calls_of_exec (F := Fall w) (ρ := envI ns) hG hW hT ho hg hb (preC_SN n _ w)
  refine hc.mono fun e w' he => ?_
  obtain ⟨v, S', ρ', hmem, hr, hag, hpath, hbd, ⟨hp, hh⟩, _⟩ := he.ex
  have : (some v, S'.path) ∈ vs.map fun p => (some p.1, p.2) := by rw [← hm]; exact List.mem_map.2 ⟨_, hmem, rfl⟩
  obtain ⟨q, hq, hqe⟩ := List.mem_map.1 this
  simp only [Prod.mk.injEq, Option.some.injEq] at hqe
  refine ⟨?_, ⟨fun b hb => (hh.frame b hb).1, hh.grow, hh.os, hh.output, hh.tape⟩⟩
  rw [hr, ← hqe.1, hv q hq ρ' (fun j hj => (hag.i j hj).symm) (by rw [hqe.2]; exact hpath)]

end Go.Vg
