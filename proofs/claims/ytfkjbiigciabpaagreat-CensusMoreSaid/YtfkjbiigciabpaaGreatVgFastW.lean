/- What an operation that changes memory comes to, each kind of operation in a definition of its own: the kernel unfolds less so. Conditions: the table of types is the program's. -/
import Derived.Test.YtfkjbiigciabpaaGreatVgArr
import Derived.Test.YtfkjbiigciabpaaGreatVgOp
namespace Go.Vg

section
variable (ty : Nat → Option TI) (S : SS)

abbrev WR := Option (Option SV × SS)
def wfAlloc (elem : Nat) : WR :=
  match zeroS ty elem with
  | some z => some (some (.ptr ⟨S.next, 0, []⟩), S.fresh (.cells elem z))
  | none => none
def wfBox (elem : Nat) (x : Operand) : WR :=
  match opnd S.tm x with
  | some v => match v.cellsOf with
    | some cs => some (some (.ptr ⟨S.next, 0, []⟩), S.fresh (.cells elem cs))
    | none => none
  | none => none
def wfStore (t : Nat) (a x : Operand) : WR :=
  match opnd S.tm a, opnd S.tm x, ty t with
  | some (.ptr sa), some v, some i => match v.cellsOf with
    | some cs => whenB (Nat.beq cs.length i.size) (match stCells S.hp sa cs with | some H => some (none, S.hpd H) | none => none)
    | none => none
  | _, _, _ => none
def wfBuild (t len : Nat) (parts : Array (Nat × Operand)) : WR :=
  match ty t, partsS S.tm parts.toList with
  | some i, some ps => match i.und with
    | .slice elem => match ty elem, zeroS ty elem with
      | some ei, some z => whenB (Nat.beq z.length ei.size && Nat.ble (len * ei.size) 16777216) (match fillS (fun j => some (j * ei.size, ei.size)) (repS z len) ps with
        | some cs => some (some (.slice ⟨S.next, 0, []⟩ (.lit (.ofNat len)) (.lit (.ofNat len))), S.fresh (.cells elem cs))
        | none => none)
      | _, _ => none
    | _ => none
  | _, _ => none
def wfMake (t : Nat) (l c : Operand) : WR :=
  match ty t, opnd S.tm l, opnd S.tm c with
  | some i, some (.int _ (.lit (.ofNat n))), some (.int _ (.lit (.ofNat m))) => match i.und with
    | .slice elem => match ty elem, zeroS ty elem with
      | some ei, some z => whenB (Nat.beq z.length ei.size && Nat.ble n m && Nat.ble m 1000000 && Nat.ble ei.bytes 1000000)
          (some (some (.slice ⟨S.next, 0, []⟩ (.lit (.ofNat n)) (.lit (.ofNat m))), S.fresh (.cells elem (repS z m))))
      | _, _ => none
    | _ => none
  | _, _, _ => none
def wfApp (s x : Operand) (st xt : Nat) : WR :=
  match elemOf ty st, opnd S.tm s, opnd S.tm x with
  | some (e, ei, _), some sv, some xv => whenB (Nat.beq st xt) (match sv, xv with
    | .nils (.lit (.ofNat 0)) c, .nils (.lit (.ofNat 0)) _ | .nils (.lit (.ofNat 0)) c, .slice _ (.lit (.ofNat 0)) _ => some (some (.nils (.lit (.ofNat 0)) c), S)
    | .slice a (.lit (.ofNat 0)) c, .nils (.lit (.ofNat 0)) _ | .slice a (.lit (.ofNat 0)) c, .slice _ (.lit (.ofNat 0)) _ => some (some (.slice a (.lit (.ofNat 0)) c), S)
    | .slice a (.lit (.ofNat n)) (.lit (.ofNat c)), .nils (.lit (.ofNat 0)) _ | .slice a (.lit (.ofNat n)) (.lit (.ofNat c)), .slice _ (.lit (.ofNat 0)) _ => whenB (Nat.ble n c) (some (some (.slice a (.lit (.ofNat n)) (.lit (.ofNat c))), S))
    | .slice a (.lit (.ofNat n)) (.var c), .nils (.lit (.ofNat 0)) _ | .slice a (.lit (.ofNat n)) (.var c), .slice _ (.lit (.ofNat 0)) _ => match S.hp.get a.blk with
      | some (.row _ size cs (.var c')) => whenB (Nat.beq size ei.size && Nat.beq c c' && Nat.ble (n * ei.size) cs.length) (some (some (.slice a (.lit (.ofNat n)) (.var c)), S))
      | _ => none
    | s, .slice b (.lit (.ofNat m)) _ => appS S e ei s b m
    | _, _ => none)
  | _, _, _ => none
def wfCopy (d x : Operand) (dt : Nat) : WR :=
  match elemOf ty dt, opnd S.tm d, opnd S.tm x with
  | some (_, ei, _), some dv, some xv => match dv, xv with
    | .slice a (.lit (.ofNat n)) _, .slice b (.lit (.ofNat m)) _ =>
      let k := cond (Nat.ble m n) m n
      match ldCells S.path S.hp b (k * ei.size) with
      | some vs => match stCells S.hp a vs with
        | some H => some (some (.int .i64 (.lit (.ofNat k))), { S with hp := H })
        | none => none
      | none => none
    | .nils (.lit (.ofNat 0)) _, .slice _ (.lit (.ofNat _)) _ | .slice _ (.lit (.ofNat _)) _, .nils (.lit (.ofNat 0)) _ | .nils (.lit (.ofNat 0)) _, .nils (.lit (.ofNat 0)) _ => some (some (.int .i64 (.lit (.ofNat 0))), S)
    | _, _ => none
  | _, _, _ => none
def wfClear (x : Operand) (t : Nat) : WR :=
  match elemOf ty t, opnd S.tm x with
  | some (_, _, z), some (.slice a (.lit (.ofNat n)) _) => match stCells S.hp a (repS z n) with
    | some H => some (some (.tup []), { S with hp := H })
    | none => none
  | _, _ => none
def wfDel (x y : Operand) (t : Nat) : WR :=
  match mapOf ty t, opnd S.tm x, opnd S.tm y with
  | some (k, _), some (.map n), some (.int k1 (.lit q)) => match S.hp.get n with
    | some (.mp k2 es clock) => whenB (IntKind.beq k1 k && IntKind.beq k2 k) (some (some (.tup []), S.hpd (S.hp.set n (.mp k2 (delM q es) clock))))
    | _ => none
  | _, _, _ => none
def wfMap (t : Nat) (r : Option Operand) : WR :=
  match r with
  | none => match mapOf ty t with
    | some (k, _) => some (some (.map S.next), S.fresh (.mp k [] 0))
    | none => none
  | _ => none
def wfUpd (t : Nat) (x y z : Operand) : WR :=
  match mapOf ty t, opnd S.tm x, opnd S.tm y, opnd S.tm z with
  | some (k, _), some (.map n), some (.int k1 (.lit q)), some v => match S.hp.get n with
    | some (.mp k2 es clock) => whenB (IntKind.beq k1 k && IntKind.beq k2 k) (match putM q v clock es with
      | (l, g) => some (none, S.hpd (S.hp.set n (.mp k2 l (cond g (clock + 1) clock)))))
    | _ => none
  | _, _, _, _ => none
def wfBlt (b : Builtin) (args : List Operand) (ats : List Nat) : WR :=
  match b with
  | .append => match args, ats with
    | [s, x], [st, xt] => orE (wfApp ty S s x st xt) (appA ty S s x st xt)
    | _, _ => none
  | .copy => match args, ats with
    | [d, x], [dt, _] => orE (wfCopy ty S d x dt) (copyA ty S d x dt)
    | _, _ => none
  | .clear => match args, ats with
    | [x], [t] => orE (wfClear ty S x t) (clearA ty S x t)
    | _, _ => none
  | .delete => match args, ats with
    | [x, y], [t, _] => wfDel ty S x y t
    | _, _ => none
  | _ => none
def wfCall (c : Call) : WR :=
  match c.callee with
  | .builtin b => wfBlt ty S b c.args.toList c.argTypes.toList
  | _ => none

def wrF (op : Op) : WR :=
  match op with
  | .alloc elem => wfAlloc ty S elem
  | .box elem x => wfBox S elem x
  | .store t a x => orE (wfStore ty S t a x) (storeA ty S t a x)
  | .buildSlice t len parts => wfBuild ty S t len parts
  | .makeSlice t l c => orE (wfMake ty S t l c) (makeA ty S t l c)
  | .makeMap t r => wfMap ty S t r
  | .mapUpdate t x y z => wfUpd ty S t x y z
  | .call c => wfCall ty S c
  | _ => none
end

theorem orAx {α : Type} (a : Option α) : a = orE (orE a none) none := by cases a <;> rfl
theorem orBx {α : Type} (a b : Option α) : orE a b = orE (orE a none) b := by cases a <;> rfl
theorem wrF_eq (ty : Nat → Option TI) (S : SS) (op : Op) : wrF ty S op = wrV ty S op := by
  cases op with
  | makeMap t r => cases r <;> first | rfl | exact orN _ | exact orAx _
  | call c =>
    obtain ⟨callee, ⟨args⟩, ⟨ats⟩⟩ := c
    cases callee with
    | value f => rfl
    | invoke r m => rfl
    | builtin b =>
      cases b <;> first
        | rfl
        | (rcases args with _ | ⟨x, _ | ⟨y, _ | ⟨z, r⟩⟩⟩ <;> rcases ats with _ | ⟨t, _ | ⟨u, _ | ⟨v, l⟩⟩⟩ <;> first | rfl | exact orN _ | exact orAx _ | exact orBx _ _)
  | _ => first | rfl | exact orN _ | exact orAx _ | exact orBx _ _

section
variable {U : Type} {I : Interp U}
theorem wrF_sound {P : Program} {ty : Nat → Option TI} (hty : ∀ t i, ty t = some i → TyOk P t i) : ∀ F : Fr, SoundW I P F (wrF ty) :=
  fun F S S' o r h ρ w hp hb hps hh f hf => wrV_sound hty F S S' o r (by rw [← wrF_eq]; exact h) ρ w hp hb hps hh f hf
end
end Go.Vg
