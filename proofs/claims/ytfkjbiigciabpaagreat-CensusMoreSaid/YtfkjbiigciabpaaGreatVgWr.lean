/- The engine's operations that change memory: stores, new variables, new rows. Conditions: the table of types is the program's. -/
import Derived.Test.YtfkjbiigciabpaaGreatVgRd
namespace Go.Vg

def allOne : List SV → Bool
  | [] => true
  | v :: vs => v.one && allOne vs

def stCells (H : Tr Ch) (a : SA) (vs : List SV) : Option (Tr Ch) :=
  match a.dyn, H.get a.blk with
  | [], some (.cells e cs) => whenB (Nat.ble (a.off + vs.length) cs.length && allOne vs) (some (H.set a.blk (.cells e (splice cs a.off vs))))
  | [], some (.row e size cs cap) => whenB (Nat.ble (a.off + vs.length) cs.length && allOne vs) (some (H.set a.blk (.row e size (splice cs a.off vs) cap)))
  | _, _ => none

def SS.fresh (S : SS) (c : Ch) : SS :=
  match S with
  | { tm, nt, hp, path, next, df, ro } => { tm, nt, hp := hp.set next c, path, next := next + 1, df, ro }
def SS.hpd (S : SS) (H : Tr Ch) : SS :=
  match S with
  | { tm, nt, hp := _, path, next, df, ro } => { tm, nt, hp := H, path, next, df, ro }

/-- The cells of a type's nought. -/
def zeroS (ty : Nat → Option TI) (t : Nat) : Option (List SV) :=
  match ty t with
  | some i => match i.zero with
    | some z => (ofV z).cellsOf
    | none => none
  | none => none

def repS (zs : List SV) : Nat → List SV
  | 0 => []
  | n + 1 => zs ++ repS zs n

def wr1 (ty : Nat → Option TI) (S : SS) : Op → Option (Option SV × SS)
  | .alloc elem => match zeroS ty elem with
    | some z => some (some (.ptr ⟨S.next, 0, []⟩), S.fresh (.cells elem z))
    | none => none
  | .box elem x => match opnd S.tm x with
    | some v => match v.cellsOf with
      | some cs => some (some (.ptr ⟨S.next, 0, []⟩), S.fresh (.cells elem cs))
      | none => none
    | none => none
  | .store t a x => match opnd S.tm a, opnd S.tm x, ty t with
    | some (.ptr sa), some v, some i => match v.cellsOf with
      | some cs => whenB (Nat.beq cs.length i.size) (match stCells S.hp sa cs with | some H => some (none, { S with hp := H }) | none => none)
      | none => none
    | _, _, _ => none
  | .buildSlice t len parts => match ty t, partsS S.tm parts.toList with
    | some i, some ps => match i.und with
      | .slice elem => match ty elem, zeroS ty elem with
        | some ei, some z => whenB (Nat.beq z.length ei.size && Nat.ble (len * ei.size) 16777216) (match fillS (fun j => some (j * ei.size, ei.size)) (repS z len) ps with
          | some cs => some (some (.slice ⟨S.next, 0, []⟩ (.lit (.ofNat len)) (.lit (.ofNat len))), S.fresh (.cells elem cs))
          | none => none)
        | _, _ => none
      | _ => none
    | _, _ => none
  | .makeSlice t l c => match ty t, opnd S.tm l, opnd S.tm c with
    | some i, some (.int _ (.lit (.ofNat n))), some (.int _ (.lit (.ofNat m))) => match i.und with
      | .slice elem => match ty elem, zeroS ty elem with
        | some ei, some z => whenB (Nat.beq z.length ei.size && Nat.ble n m && Nat.ble m 1000000 && Nat.ble ei.bytes 1000000)
            (some (some (.slice ⟨S.next, 0, []⟩ (.lit (.ofNat n)) (.lit (.ofNat m))), S.fresh (.cells elem (repS z m))))
        | _, _ => none
      | _ => none
    | _, _, _ => none
  | _ => none

section
variable {U : Type} {I : Interp U} {ρ : Env U} {P : Program} {w : World} {F : Fr} {H : Tr Ch} {hp : Nat → PHeap}

theorem allOne_iff {vs : List SV} : allOne vs = true ↔ ∀ v ∈ vs, v.one = true := by
  induction vs with
  | nil => simp [allOne]
  | cons v vs ih => simp [allOne, ih]

/-- One world is another one but for a block. -/
structure But (b : Nat) (w w' : World) : Prop where
  other : ∀ j, j ≠ b → w'.heap[j]? = w.heap[j]?
  size : w'.heap.size = w.heap.size
  os : w'.os = w.os
  output : w'.output = w.output
  tape : w'.tape = w.tape

theorem But.refl (b : Nat) (w : World) : But b w w := ⟨fun _ _ => rfl, rfl, rfl, rfl, rfl⟩
theorem But.trans {b : Nat} {w w' w'' : World} (h : But b w w') (h' : But b w' w'') : But b w w'' :=
  ⟨fun j hj => (h'.other j hj).trans (h.other j hj), h'.size.trans h.size, h'.os.trans h.os, h'.output.trans h.output, h'.tape.trans h.tape⟩

theorem setCell_but {a : Addr} {v : Value} (ha : a.spot = none) {c : Array Value} {e : Nat} {fz : Nat × Nat} (h : w.heap[a.block]? = some (.cells c e fz)) :
    But a.block w (w.setCell a v) ∧ (w.setCell a v).heap[a.block]? = some (.cells (c.setIfInBounds a.off v) e fz) := by
  obtain ⟨hlt, hc⟩ := Array.getElem?_eq_some_iff.1 h
  refine ⟨⟨fun j hj => ?_, by simp [World.setCell], rfl, rfl, rfl⟩, ?_⟩
  · simp only [World.setCell]
    rw [Array.getElem?_modify]
    have : ¬ a.block = j := fun x => hj x.symm
    simp [this]
  · simp only [World.setCell]
    rw [Array.getElem?_modify]
    simp [h, ha]

theorem run_storeCells : ∀ (vs : List Value) (w : World) (b off i : Nat) (c : List Value) (e : Nat), w.heap[b]? = some (.cells c.toArray e (0, 0)) → off + i + vs.length ≤ c.length →
    (∀ v ∈ vs, v.oneCell' = true) → ∃ w', (storeCells ⟨b, off, none⟩ vs i).run P w = .ok () w' ∧ But b w w' ∧
      w'.heap[b]? = some (.cells (c.take (off + i) ++ vs ++ c.drop (off + i + vs.length)).toArray e (0, 0))
  | [], w, b, off, i, c, e, h, _, _ => ⟨w, rfl, But.refl b w, by simpa using h⟩
  | v :: vs, w, b, off, i, c, e, h, hl, ho => by
    simp only [List.length_cons] at hl
    have hadd : (⟨b, off, none⟩ : Addr).add i = ⟨b, off + i, none⟩ := by
      unfold Addr.add; split
      · rename_i h0; subst h0; rfl
      · rfl
    have hcell : w.cell? ⟨b, off + i, none⟩ = some c[off + i] := by
      rw [cell_of_block h]; simp
    have hfree : w.frozen? ⟨b, off + i, none⟩ = false := free_of_block h
    obtain ⟨hb1, hw1⟩ := setCell_but (a := ⟨b, off + i, none⟩) (v := v) rfl h
    have hc1 : c.toArray.setIfInBounds (off + i) v = (c.set (off + i) v).toArray := by simp
    rw [hc1] at hw1
    obtain ⟨w', hr, hb2, hw2⟩ := run_storeCells vs (w.setCell ⟨b, off + i, none⟩ v) b off (i + 1) (c.set (off + i) v) e hw1 (by simp; omega) (fun u hu => ho u (by simp [hu]))
    refine ⟨w', ?_, hb1.trans hb2, ?_⟩
    · simp only [storeCells, hadd, Sem.run_bind, run_store P w _ v .plain (ho v (by simp)), hcell, hfree]
      simpa using hr
    · rw [hw2]
      have hn : off + i < c.length := by omega
      have e1 : off + (i + 1) = (off + i) + 1 := by omega
      have e2 : off + i + (v :: vs).length = (off + i) + 1 + vs.length := by simp only [List.length_cons]; omega
      rw [e1, e2]
      rw [set_splice _ _ _ _ hn]

theorem splice_den (cs vs : List SV) (off : Nat) : denL ρ (splice cs off vs) = (denL ρ cs).take off ++ denL ρ vs ++ (denL ρ cs).drop (off + (denL ρ vs).length) := by
  simp [splice, denL_eq, List.map_take, List.map_drop]
theorem splice_length {cs vs : List SV} {off : Nat} (h : off + vs.length ≤ cs.length) : (splice cs off vs).length = cs.length := by
  simp [splice]; omega
theorem splice_bd {n : Nat} {cs vs : List SV} {off : Nat} (h1 : bdL n cs) (h2 : bdL n vs) : bdL n (splice cs off vs) := by
  rw [bdL_iff] at *
  intro v hv
  simp only [splice, List.mem_append] at hv
  rcases hv with (hv | hv) | hv
  · exact h1 v (List.mem_of_mem_take hv)
  · exact h2 v hv
  · exact h1 v (List.mem_of_mem_drop hv)

theorem stCells_sound (hs : HSat I ρ F H w hp) {a : SA} {vs : List SV} {H' : Tr Ch} (h : stCells H a vs = some H') :
    ∃ w' hp', (storeCells (a.den ρ) (denL ρ vs)).run P w = .ok () w' ∧ HSat I ρ F H' w' hp' ∧ (∀ n, HBd n H → bdL n vs → HBd n H') ∧ w'.heap.size = w.heap.size := by
  unfold stCells at h
  split at h
  case h_3 => cases h
  case h_1 e cs hd hk =>
    obtain ⟨h1, h2⟩ := whenB_some h
    cases h2
    simp only [Bool.and_eq_true, allOne_iff] at h1
    have hle := Nat.le_of_ble_eq_true h1.1
    have hb := hs.block hk (hs.sat _ _ hk)
    obtain ⟨w', hr, hbut, hw'⟩ := run_storeCells (P := P) (denL ρ vs) w (ρ.k a.blk) a.off 0 (denL ρ cs) e hb (by simp [denL_length]; omega)
      (fun v hv => by rw [denL_eq] at hv; obtain ⟨u, hu, rfl⟩ := List.mem_map.1 hv; exact SV.one_den ρ (h1.2 u hu))
    have ha : a.den ρ = ⟨ρ.k a.blk, a.off, none⟩ := by simp [SA.den, hd, dynDen]
    refine ⟨w', _, by rw [ha]; exact hr, hs.turn hk (hs.sat _ _ hk) (d := .cells e (splice cs a.off vs)) (o' := .cells (denL ρ (splice cs a.off vs)).toArray e (0, 0)) rfl hbut.other ?_ hbut.size hbut.os hbut.output hbut.tape, ?_, hbut.size⟩
    · rw [hw', splice_den]; rfl
    · intro n hB hv k c hc
      rw [Tr.get_set] at hc
      split at hc
      · cases hc
        rename_i e'
        exact ⟨e' ▸ (hB _ _ hk).1, splice_bd (hB _ _ hk).2 hv⟩
      · exact hB k c hc
  case h_2 e size cs cap hd hk =>
    obtain ⟨h1, h2⟩ := whenB_some h
    cases h2
    simp only [Bool.and_eq_true, allOne_iff] at h1
    have hle := Nat.le_of_ble_eq_true h1.1
    obtain ⟨rest, hcap, hsat⟩ := hs.sat _ _ hk
    have hb := hs.block hk hsat
    obtain ⟨w', hr, hbut, hw'⟩ := run_storeCells (P := P) (denL ρ vs) w (ρ.k a.blk) a.off 0 (denL ρ cs ++ rest) e hb (by simp [denL_length]; omega)
      (fun v hv => by rw [denL_eq] at hv; obtain ⟨u, hu, rfl⟩ := List.mem_map.1 hv; exact SV.one_den ρ (h1.2 u hu))
    have ha : a.den ρ = ⟨ρ.k a.blk, a.off, none⟩ := by simp [SA.den, hd, dynDen]
    have hsp : (denL ρ cs ++ rest).take (a.off + 0) ++ denL ρ vs ++ (denL ρ cs ++ rest).drop (a.off + 0 + (denL ρ vs).length) = denL ρ (splice cs a.off vs) ++ rest := by
      rw [splice_den]
      have l1 : a.off ≤ (denL ρ cs).length := by rw [denL_length]; omega
      have l2 : a.off + (denL ρ vs).length ≤ (denL ρ cs).length := by simp only [denL_length]; omega
      rw [Nat.add_zero, List.take_append_of_le_length l1, List.drop_append_of_le_length l2]
      simp
    rw [hsp] at hw'
    refine ⟨w', _, by rw [ha]; exact hr, hs.turn hk hsat (d := .row e size (splice cs a.off vs) cap) (o' := .cells (denL ρ (splice cs a.off vs) ++ rest).toArray e (0, 0)) ⟨rest, by rw [splice_length hle]; exact hcap, rfl⟩ hbut.other hw' hbut.size hbut.os hbut.output hbut.tape, ?_, hbut.size⟩
    intro n hB hv k c hc
    rw [Tr.get_set] at hc
    split at hc
    · cases hc
      rename_i e'
      exact ⟨e' ▸ (hB _ _ hk).1, splice_bd (hB _ _ hk).2.1 hv, (hB _ _ hk).2.2⟩
    · exact hB k c hc

end
end Go.Vg
