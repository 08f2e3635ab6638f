/- What an operation that changes no memory gives, each kind of operation in a definition of its own: the kernel unfolds less so. Conditions: the table of types is the program's. -/
import Derived.Test.YtfkjbiigciabpaaGreatVgRd2
namespace Go.Vg

section
variable (ty : Nat → Option TI) (tm : Tr SV) (H : Tr Ch) (ps : List PI)

def rfPick (c a b : Operand) : Option SV :=
  match opnd tm c with
  | some (.bool cb) => match known ps cb with
    | some true => opnd tm a
    | some false => opnd tm b
    | none => match opnd tm a, opnd tm b with
      | some (.bool p), some (.bool q) => some (.bool (mkIte cb p q))
      | _, _ => none
  | _ => none
def rfLoad (t : Nat) (a : Operand) : Option SV :=
  match opnd tm a, ty t with
  | some (.ptr sa), some i => cond (aggOf i.und) ((ldCells ps H sa i.size).map .agg) (match ldCells ps H sa 1 with | some [v] => some v | _ => none)
  | _, _ => none
def rfNil (x : Operand) : Option SV :=
  match opnd tm x with
  | some (.ptr a) => some (.ptr a)
  | some (.func f a b) => some (.func f a b)
  | some (.iface t v) => some (.iface t v)
  | _ => none
def rfBin (op : BinOp) (xt : Nat) (x y : Operand) : Option SV :=
  match opnd tm x, opnd tm y with
  | some a, some b => rdBin ty ps op xt (isConst x || isConst y) a b
  | _, _ => none
def rfBinX (op : BinOp) (xt : Nat) (x y : Operand) : Option SV :=
  match opnd tm x, opnd tm y with
  | some (.agg a), some (.agg b) => match ty xt with
    | some i => whenB (!isNil i.eq) (match op, eqCells i.eq a b with
      | .eql, some e => some (.bool e)
      | .neq, some e => some (.bool (mkNot e))
      | _, _ => none)
    | none => none
  | _, _ => none
def rfUn (op : UnOp) (x : Operand) : Option SV :=
  match op, opnd tm x with
  | .not, some (.bool b) => some (.bool (mkNot b))
  | .neg, some (.int k e) => some (.int k (mkBin .sub k (.lit 0) e))
  | _, _ => none
def rfXor (x : Operand) : Option SV :=
  match opnd tm x with
  | some (.int k e) => some (.int k (mkBin .xor k (.lit (if k.signed then -1 else k.max)) e))
  | _ => none
def rfConv (src dst : Nat) (x : Operand) : Option SV :=
  match ty src, ty dst, opnd tm x with
  | some _, some i, some (.int _ e) => match i.und with | .int k => some (.int k (mkWrap k e)) | _ => none
  | _, _, _ => none
def rfIface (xt : Nat) (x : Operand) : Option SV :=
  match ty xt, opnd tm x with
  | some i, some v => match i.und with | .interface _ => none | _ => some (.iface xt v)
  | _, _ => none
def rfFunc (f : Fn) (first cap : Array Operand) : Option SV :=
  match f with
  | .func f => match opnds tm first.toList, opnds tm cap.toList with
    | some a, some b => some (.func (.func f) a b)
    | _, _ => none
  | _ => none
def rfFA (s : Nat) (x : Operand) (f : Nat) : Option SV :=
  match ty s, opnd tm x with
  | some i, some (.ptr a) => match i.und with
    | .struct fs => match fs[f]? with
      | some fld => match ty fld.type with
        | some fi => whenB (!Nat.beq fi.size 0) (some (.ptr (a.add fld.offset)))
        | none => none
      | none => none
    | _ => none
  | _, _ => none
def rfFld (xt : Nat) (x : Operand) (f : Nat) : Option SV :=
  match ty xt, opnd tm x with
  | some i, some (.agg l) => match i.und with
    | .struct fs => match fs[f]? with
      | some fld => partS ty fld.type l fld.offset
      | none => none
    | _ => none
  | _, _ => none
def rfIA (t : Nat) (x ix : Operand) : Option SV :=
  match opnd tm x, opnd tm ix with
  | some a, some b => rdIdx ty ps t a b
  | _, _ => none
def rfIx (xt : Nat) (x ix : Operand) : Option SV :=
  match ty xt, opnd tm x, opnd tm ix with
  | some i, some (.agg l), some (.int _ (.lit n)) => match i.und with
    | .array len elem => match ty elem with
      | some ei => whenB (!ilt n 0 && ilt n (.ofNat len)) (partS ty elem l (n.toNat * ei.size))
      | none => none
    | _ => none
  | _, _, _ => none
def rfIxX (xt : Nat) (x ix : Operand) : Option SV :=
  match ty xt, opnd tm x, opnd tm ix with
  | some i, some (.con (.string s)), some (.int _ (.lit (.ofNat n))) => match i.und with
    | .string => (s[n]?).map fun b => .int .u8 (.lit (.ofNat b.toNat))
    | _ => none
  | _, _, _ => none
def rfExt (tp : Operand) (i : Nat) : Option SV :=
  match opnd tm tp with
  | some (.tup l) => l[i]?
  | _ => none
def rfBuild (t : Nat) (parts : Array (Nat × Operand)) : Option SV :=
  match partsS tm parts.toList with
  | some ps => rdBuild ty t ps
  | none => none
def rfSlice (t : Nat) (x : Operand) (lo hi mx : Option Operand) : Option SV :=
  match opnd tm x, bndS tm lo, bndS tm hi, bndS tm mx with
  | some v, some l, some h, some m => rdSlice ty H ps t v l h m
  | _, _, _, _ => none
def rfLook (t : Nat) (x ix : Operand) (ok : Bool) : Option SV :=
  match mapOf ty t, opnd tm x, opnd tm ix with
  | some (k, z), some (.map n), some (.int k1 (.lit q)) => match H.get n with
    | some (.mp k2 es _) => whenB (IntKind.beq k1 k && IntKind.beq k2 k) (match lookM es q with
      | some v => some (cond ok (.tup [v, .bool (.lit true)]) v)
      | none => some (cond ok (.tup [z, .bool (.lit false)]) z))
    | _ => none
  | _, _, _ => none
def rfArrP (arr : Nat) (x : Operand) : Option SV :=
  match ty arr, opnd tm x with
  | some i, some (.slice a len _) => match i.und with
    | .array n _ => whenB (nonneg ps len && leqK ps (.lit (.ofNat n)) len) (some (.ptr a))
    | _ => none
  | _, _ => none
def rfLen (t : Nat) (x : Operand) : Option SV :=
  match opnd tm x with | some v => whenB (sliceT ty t) (rdLen ps v) | none => none
def rfCap (t : Nat) (x : Operand) : Option SV :=
  match opnd tm x with | some v => whenB (sliceT ty t) (rdCap ps v) | none => none
def rfMin (x y : Operand) : Option SV :=
  match opnd tm x, opnd tm y with
  | some (.int k a), some (.int k' b) => whenB (IntKind.beq k k') ((minS ps a b).map (.int k))
  | _, _ => none
def rfMax (x y : Operand) : Option SV :=
  match opnd tm x, opnd tm y with
  | some (.int k a), some (.int k' b) => whenB (IntKind.beq k k') ((maxS ps a b).map (.int k))
  | _, _ => none
def rfBlt (b : Builtin) (args : List Operand) (ats : List Nat) : Option SV :=
  match b with
  | .len => match args, ats with
    | [x], [t] => rfLen ty tm ps t x
    | _, _ => none
  | .cap => match args, ats with
    | [x], [t] => rfCap ty tm ps t x
    | _, _ => none
  | .min => match args with
    | [x, y] => rfMin tm ps x y
    | _ => none
  | .max => match args with
    | [x, y] => rfMax tm ps x y
    | _ => none
  | _ => none
def rfCall (c : Call) : Option SV :=
  match c.callee with
  | .builtin b => rfBlt ty tm ps b c.args.toList c.argTypes.toList
  | _ => none

def rd (op : Op) : Option SV :=
  match op with
  | .move x => opnd tm x
  | .assign x => opnd tm x
  | .pick c a b => rfPick tm ps c a b
  | .load t a => rfLoad ty tm H ps t a
  | .nilCheck x => rfNil tm x
  | .binOp op xt x y _ => orE (rfBin ty tm ps op xt x y) (rfBinX ty tm op xt x y)
  | .unOp op _ x => match op with
    | .xor => rfXor tm x
    | op => rfUn tm op x
  | .convert s d x => rfConv ty tm s d x
  | .makeInterface xt x => rfIface ty tm xt x
  | .makeFunc f first cap => rfFunc tm f first cap
  | .fieldAddr s x f => rfFA ty tm s x f
  | .field s x f => rfFld ty tm s x f
  | .indexAddr t x ix => rfIA ty tm ps t x ix
  | .index t x ix => orE (rfIx ty tm t x ix) (rfIxX ty tm t x ix)
  | .extract tp i => rfExt tm tp i
  | .build t parts => rfBuild ty tm t parts
  | .slice t x lo hi mx => rfSlice ty tm H ps t x lo hi mx
  | .lookup t x ix ok => rfLook ty tm H t x ix ok
  | .sliceToArrayPointer t x => rfArrP ty tm ps t x
  | .call c => rfCall ty tm ps c
  | _ => none
end

section
variable {ty : Nat → Option TI} {tm : Tr SV} {H : Tr Ch} {ps : List PI}

theorem rd_eq (op : Op) : rd ty tm H ps op = rdB ty tm H ps op := by
  cases op with
  | unOp op t x => cases op <;> first | rfl | exact orN _
  | makeFunc f a b => cases f <;> first | rfl | exact orN _
  | call c =>
    obtain ⟨callee, ⟨args⟩, ⟨ats⟩⟩ := c
    cases callee with
    | value f => rfl
    | invoke r m => rfl
    | builtin b =>
      cases b <;> first
        | rfl
        | (rcases args with _ | ⟨x, _ | ⟨y, _ | ⟨z, r⟩⟩⟩ <;> rcases ats with _ | ⟨t, _ | ⟨u, _ | ⟨v, l⟩⟩⟩ <;> first | rfl | exact orN _)
  | _ => first | rfl | exact orN _

variable {U : Type} {I : Interp U} {ρ : Env U} {P : Program} {w : World} {F : Fr} {hp : Nat → PHeap}
theorem rd_sound (hty : ∀ t i, ty t = some i → TyOk P t i) (hs : holds I ρ ps) (hh : HSat I ρ F H w hp) {o : Oper} {v : SV}
    (h : rd ty tm H ps o.op = some v) {f : Operand → Value} (hf : ∀ x ∈ o.op.operands, ∀ u, opnd tm x = some u → f x = u.den ρ) :
    (execOp f o).run P w = .ok (.value (v.den ρ)) w := rdB_sound hty hs hh (by rw [← rd_eq]; exact h) hf
theorem rd_bd {n : Nat} (ht : TBd n tm) (hH : HBd n H) {op : Op} {v : SV} (h : rd ty tm H ps op = some v) : v.bd n := rdB_bd ht hH (by rw [← rd_eq]; exact h)
theorem rd_noDefer {op : Op} {v : SV} (h : rd ty tm H ps op = some v) : ∀ c, op ≠ .defer c := by
  intro c e; subst e; cases h
end
end Go.Vg
