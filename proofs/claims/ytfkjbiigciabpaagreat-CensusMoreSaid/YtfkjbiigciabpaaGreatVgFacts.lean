/- The closed facts of a row, from one fact each: so each may be shown in a declaration of its own. No condition. -/
import Derived.JoinedOf
import Derived.ProofKit
namespace Go.Vg
open Go.ChangeShapes Go.WideShapes Go.ChangeAt Go.RowKit

/-- The light ones. -/
def lightFacts (P : Program) (fn : Func) (s : ChangeSpec) (c : OpenClaim) : Bool :=
  c.wf (OpenSpec.ofChange s) && fn.params.all (P.readableRec ·) && namedTie P c.named s.vars && (c.stops == []) && (c.knobs == []) &&
  (c.maps == (fn.params.toList ++ s.plain.varTypes P).any (P.mapsRec ·)) && (c.ifaces == (fn.params.toList ++ s.plain.varTypes P).any (P.ifacesRec ·)) && (c.mapsOut == P.mapsAmong fn.resultTypes.toList) &&
  (c.loops == (fn.params.toList ++ s.plain.varTypes P).any (P.loopsFrom ·)) && (c.wideKeys == (fn.params.toList ++ s.plain.varTypes P ++ fn.resultTypes.toList).any (P.wideKeysFrom ·)) &&
  s.vars.all (P.varReadable ·) && fn.resultTypes.all (fun t => P.readableRec t && decide (t < P.types.size)) && (c.ifacesOut == fn.resultTypes.toList.any (P.ifacesRec ·)) && (c.loopsOut == fn.resultTypes.toList.any (P.loopsFrom ·)) && c.shortTexts.isNone &&
  (c.kinds == (if c.domain.isEmpty then [] else fn.params.toList.map fun t => match P.underlying t with | some (.int k) => some k | _ => none)) && (c.pinned == c.pinnedBy) &&
  (c.veiled == (fn.params.toList ++ s.plain.varTypes P ++ fn.resultTypes.toList).any (P.veiledRec ·)) && c.veiledFits P fn.params.toList (fn.params.toList ++ s.plain.varTypes P ++ fn.resultTypes.toList)

theorem joined_of {P : Program} {f : FuncId} {fn : Func} {s : ChangeSpec} {c : OpenClaim} (light : lightFacts P fn s c = true) (laid : laidOutB P = true) (rowed : mapsRowed P = true) (stops : P.stops = []) (knobs : P.stopKnobs = [])
    (inPlace : c.inPlace = P.inPlace f) (unf : c.unfollowed = P.unfollowed f) (rec : c.recurses = P.recurses f) (named : c.named = P.varsNamed f) (keys : c.plainKeys = P.plainKeys) (heard : P.stopsHeard = true)
    (may : P.mayEnter = true) (lifted : c.lifted = P.liftsFinal) (mk : P.make = some c.make) : joinedFacts P f fn s c = true := by
  simp only [lightFacts, Bool.and_eq_true] at light
  obtain ⟨⟨⟨⟨⟨⟨⟨⟨⟨⟨⟨⟨⟨⟨⟨⟨⟨⟨l1, l2⟩, l3⟩, l4⟩, l5⟩, l6⟩, l7⟩, l8⟩, l9⟩, l10⟩, l11⟩, l12⟩, l13⟩, l14⟩, l15⟩, l16⟩, l17⟩, l18⟩, l19⟩ := light
  simp only [joinedFacts, Bool.and_eq_true]
  have s0 : (P.stops == []) = true := by rw [stops]; rfl
  have s1 : (P.stopKnobs == []) = true := by rw [knobs]; rfl
  have e1 : (c.inPlace == P.inPlace f) = true := by rw [inPlace]; exact beq_self_eq_true _
  have e2 : (c.unfollowed == P.unfollowed f) = true := by rw [unf]; exact beq_self_eq_true _
  have e3 : (c.recurses == P.recurses f) = true := by rw [rec]; exact beq_self_eq_true _
  have e4 : (c.named == P.varsNamed f) = true := by rw [named]; exact beq_self_eq_true _
  have e5 : (c.plainKeys == P.plainKeys) = true := by rw [keys]; exact beq_self_eq_true _
  have e6 : (c.lifted == P.liftsFinal) = true := by rw [lifted]; exact beq_self_eq_true _
  have e7 : (P.make == some c.make) = true := by rw [mk]; exact beq_self_eq_true _
  exact ⟨⟨⟨⟨⟨⟨⟨⟨⟨⟨⟨⟨⟨⟨⟨⟨⟨⟨⟨⟨⟨⟨⟨⟨⟨⟨⟨⟨⟨⟨⟨l1, laid⟩, rowed⟩, l2⟩, l3⟩, l4⟩, s0⟩, l5⟩, s1⟩, e1⟩, e2⟩, e3⟩, e4⟩, l6⟩, l7⟩, l8⟩, l9⟩, l10⟩, l11⟩, l12⟩, l13⟩, l14⟩, e5⟩, l15⟩, heard⟩, may⟩, e6⟩, e7⟩, l16⟩, l17⟩, l18⟩, l19⟩
end Go.Vg
