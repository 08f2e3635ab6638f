/- The engine's walk of a function's body: calls in place or by contract, rounds of ranges over functions, regions of either kind. Conditions: the tables are the program's; the contracts hold. -/
import Derived.Test.YtfkjbiigciabpaaGreatVgDraw2
import Derived.RangeFuncNested
namespace Go.Vg

def takeDf : List Nat → Tr Ch → Option (Tr Ch)
  | [], H => some H
  | d :: ds, H => match H.get d with
    | some .dfr => takeDf ds (H.del d)
    | _ => none

def resS (ty : Nat → Option TI) (tm : Tr SV) (H : Tr Ch) : List ResultVar → Option (List SV)
  | [] => some []
  | .tmp t :: rs => match tm.get t, resS ty tm H rs with
    | some v, some vs => some (v :: vs)
    | _, _ => none
  | .cell a t :: rs => match tm.get a, rd ty tm H [] (.load t (.tmp a)), resS ty tm H rs with
    | some (.ptr _), some v, some vs => some (v :: vs)
    | _, _, _ => none

def oneV : List SV → SV
  | [v] => v
  | vs => .tup vs

def SS.frame (S : SS) (args : List SV) (ntmps : Nat) : SS :=
  { S with tm := Tr.ofList args 0 .lf, nt := args.length + (ntmps - args.length), df := [], ro := none }
def SS.back (S' S : SS) (H : Tr Ch) : SS := { S' with tm := S.tm, nt := S.nt, df := S.df, hp := H, ro := S.ro }

def inlL (ty : Nat → Option TI) (S : SS) (rs : List ResultVar) : Outs → Option COuts
  | [] => some []
  | (x, S') :: l => match inlL ty S rs l with
    | none => none
    | some b => match x with
      | .normal | .ret => match takeDf S'.df S'.hp with
        | some H => match resS ty S'.tm H rs with
          | some vs => some ((some (oneV vs), S'.back S H) :: b)
          | none => none
        | none => none
      | .bad => some ((none, S') :: b)
      | _ => none

def inl (G : GT) (ex : Code → SS → Option Outs) : CallF := fun f args S =>
  match G.fn f with
  | some fi => match ex fi.body (S.frame args fi.ntmps) with
    | some outs => inlL G.ty S fi.results outs
    | none => none
  | none => none

/-! ### A round -/
def setPs (tm : Tr SV) : List Tmp → List SV → Tr SV
  | p :: ps, v :: vs => setPs (tm.set p v) ps vs
  | _, _ => tm
def psOk (nt : Nat) : List Tmp → Bool
  | [] => true
  | p :: ps => Nat.blt p nt && psOk nt ps

def yldL (n : Nat) (S : SS) : Outs → Option COuts
  | [] => some []
  | (x, S') :: l => match yldL n S l with
    | none => none
    | some b => match x with
      | .bad => some ((none, S') :: b)
      | x => match S'.hp.get n with
        | some (.loop .busy .normal nt tm ps as bd df) => whenB (isNil S'.df) (match x with
          | .normal => some ((some (.bool (.lit true)), S'.back S (S'.hp.set n (.loop .ready .normal nt tm ps as bd df))) :: b)
          | x => some ((some (.bool (.lit false)), S'.back S (S'.hp.set n (.loop .done x nt tm ps as bd df))) :: b))
        | _ => none

def yld (ex : Code → SS → Option Outs) : CallF := fun n args S =>
  match S.hp.get n with
  | some (.loop .ready .normal nt tm ps as bd _) => whenB (Nat.beq ps.toList.length args.length && psOk nt ps.toList)
    (match ex as { S with tm := setPs tm ps.toList args, nt := nt, df := [], ro := some n } with
    | some [(.normal, S2)] => match S2.hp.get n with
      | some (.loop .ready .normal nt' tm' ps' as' bd' df') => whenB (isNil S2.df) (match ex bd { S2 with hp := S2.hp.set n (.loop .busy .normal nt' tm' ps' as' bd' df') } with
        | some outs => yldL n S outs
        | none => none)
      | _ => none
    | _ => none)
  | _ => none

/-! ### The range -/
def rangeL (l : Nat) : COuts → Option Outs
  | [] => some []
  | (r, S') :: rest => match rangeL l rest with
    | none => none
    | some b => match r with
      | none => some ((.bad, S') :: b)
      | some _ => match S'.hp.get l with
        | some (.loop .busy ..) => none
        | some (.loop _ .bad ..) => none
        | some (.loop _ x ..) => some ((x, { S' with hp := S'.hp.del l }) :: b)
        | _ => none

def rangeS (cf : CallF) (f : Operand) (ps : Array Tmp) (as bd : Code) (S : SS) : Option Outs :=
  match opnd S.tm f with
  | some (.func (.func g) first cap) => match S.ro with
    | none =>
      let S1 : SS := { S with hp := (S.hp.set S.next .dfr).set (S.next + 1) (.loop .ready .normal S.nt S.tm ps as bd S.next), next := S.next + 2, df := S.next :: S.df }
      match cf g (first ++ [.func (.yld (S.next + 1)) [] []] ++ cap) S1 with
      | some co => rangeL (S.next + 1) co
      | none => none
    | some r => match S.hp.get r with
      | some (.loop _ _ _ _ _ _ _ dn) =>
        let S1 : SS := { S with hp := S.hp.set S.next (.loop .ready .normal S.nt S.tm ps as bd dn), next := S.next + 1 }
        match cf g (first ++ [.func (.yld S.next) [] []] ++ cap) S1 with
        | some co => rangeL S.next co
        | none => none
      | _ => none
  | _ => none

def ltO : List Edge → Nat → Bool
  | [], _ => true
  | e :: es, i => (!Region.binds .any e || Nat.blt e.on i) && ltO es i
def ltOk : List Oper → Nat → Bool
  | [], _ => true
  | o :: os, i => ltO o.after.toList i && ltOk os (i + 1)

abbrev CT := Nat → Option (List SV → SS → Option COuts)
def callT (ct : CT) (cf : CallF) : CallF := fun g args S =>
  match ct g with
  | some t => t args S
  | none => cf g args S

def mapC (id : Nat) : Outs → Outs
  | [] => []
  | (.exit n, S) :: l => (cond (Nat.beq n id) .normal (.exit n), S) :: mapC id l
  | p :: l => p :: mapC id l

def condS (ex : Code → SS → Option Outs) (c : Operand) (a b : Code) (S : SS) : Option Outs :=
  match opnd S.tm c with
  | some (.bool e) => match known S.path e with
    | some true => ex a S
    | some false => ex b S
    | none => match ex a (assume S e true), ex b (assume S e false) with
      | some l, some r => some (l ++ r)
      | _, _ => none
  | _ => none

def exec (G : GT) (wr : SS → Op → Option (Option SV × SS)) (ct : CT) : Nat → Code → SS → Option Outs
  | 0, _, _ => none
  | f + 1, c, S => match c with
    | .skip | .label _ => some [(.normal, S)]
    | .exit id => some [(.exit id, S)]
    | .goto l => some [(.goto l, S)]
    | .ret => some [(.ret, S)]
    | .seq a b => bindS (exec G wr ct f a S) (thenS (exec G wr ct f b))
    | .cond c a b => condS (exec G wr ct f) c a b S
    | .block id body => (exec G wr ct f body S).map (mapC id)
    | .loop body => loopS (exec G wr ct f body) f S
    | .region _ ⟨ops⟩ false => seqI G wr (callT ct (inl G (exec G wr ct f))) (yld (exec G wr ct f)) ops (List.range ops.length) S
    | .region _ ⟨ops⟩ true => whenB (ltOk ops 0) (drawS G wr (callT ct (inl G (exec G wr ct f))) (yld (exec G wr ct f)) ops S)
    | .rangeFunc g ps as bd => rangeS (callT ct (inl G (exec G wr ct f))) g ps as bd S
    | _ => none

end Go.Vg
