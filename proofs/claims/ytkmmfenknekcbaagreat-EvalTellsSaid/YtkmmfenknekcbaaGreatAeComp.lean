/-
  FROM THE MODEL's CODE TO THE EVALUATOR's: a function that answers none where the evaluator has no operation.
-/
import Derived.Test.YtkmmfenknekcbaaGreatAe
import Derived.Still
set_option linter.unusedSimpArgs false
set_option linter.unusedVariables false
namespace Go.Ae

def constA : Value → Option AV
  | .int k n => some (.d (.int k n))
  | .bool b => some (.d (.bool b))
  | .string s => some (.d (.str s.data.toList))
  | .slice none 0 0 => some .nils
  | .pointer none => some .nilp
  | _ => none
def constD : Value → Option DV
  | .int k n => some (.int k n)
  | .bool b => some (.bool b)
  | .string s => some (.str s.data.toList)
  | .slice none 0 0 => some (.sl [])
  | _ => none
def mapO {α β : Type} (f : α → Option β) : List α → Option (List β)
  | [] => some []
  | x :: l => (f x).bind fun y => (mapO f l).bind fun r => some (y :: r)
def cOpd : Operand → Option Opd
  | .tmp t => some (.t t)
  | .const v => (constA v).map .k
  | .func f => some (.k (.fn f []))
  | .global _ => none
def cOpdO : Option Operand → Option (Option Opd)
  | none => some none
  | some x => (cOpd x).map some
def tsize (P : Program) (t : TypeId) : Option Nat := (P.info? t).map (·.size)
/-- How a variable of a type is loaded: one cell, or so many. -/
def tload (P : Program) (t : TypeId) : Option (Option Nat) :=
  match P.underlying t with
  | some (.struct _) => (tsize P t).map some
  | some (.array _ _) => none
  | some _ => some none
  | none => none
def tzeroD (P : Program) (t : TypeId) : Option (List DV) := (P.info? t).bind fun i => i.zero.bind fun z => mapO constD z.cells.toList
def tzeroA (P : Program) (t : TypeId) : Option (List AV) := (P.info? t).bind fun i => i.zero.bind fun z => mapO constA z.cells.toList
def isNilS : Operand → Bool
  | .const (.slice none 0 0) => true
  | _ => false
def isNilP : Operand → Bool
  | .const (.pointer none) => true
  | _ => false
def inOrder : Nat → List (Nat × Operand) → Option (List Operand)
  | _, [] => some []
  | k, (i, x) :: l => if i = k then (inOrder (k + 1) l).map (x :: ·) else none
def cBuiltin (P : Program) (b : Builtin) (args : List Operand) (ts : List TypeId) : Option AOp :=
  match b, args, ts with
  | .len, [x], [t] => match P.underlying t with
    | some .string => (cOpd x).map (.lenq true)
    | some (.slice _) => (cOpd x).map (.lenq false)
    | _ => none
  | .append, [s, x], [t, u] => if t = u then match P.underlying t with
    | some (.slice e) => (P.info? e).bind fun i => i.zero.bind fun z => if z.cells.size = i.size ∧ 0 < i.size ∧ 0 < i.bytes then (cOpd s).bind fun s => (cOpd x).bind fun x => some (.app e i.size i.bytes s x) else none
    | _ => none else none
  | .max, x :: ys, _ => (cOpd x).bind fun x => (mapO cOpd ys).bind fun ys => some (.mm true x ys)
  | .min, x :: ys, _ => (cOpd x).bind fun x => (mapO cOpd ys).bind fun ys => some (.mm false x ys)
  | _, _, _ => none
def cOp (P : Program) (eqT : TypeId → Bool) (o : Op) : Option AOp :=
  match o with
  | .move x => (cOpd x).map .mv
  | .assign x => (cOpd x).map .mv
  | .pick c a b => (cOpd c).bind fun c => (cOpd a).bind fun a => (cOpd b).bind fun b => some (.pick c a b)
  | .alloc t => (tzeroA P t).map .new
  | .box _ x => (cOpd x).map .box
  | .build t parts => match P.underlying t with
    | some (.struct fs) => if fs.all (fun f => (tsize P f.type).isSome) = true then (tzeroD P t).bind fun z => (mapO (fun p : Nat × Operand => (fs[p.1]?).bind fun f => (tsize P f.type).bind fun s => (cOpd p.2).map fun x => (f.offset, s, x)) parts.toList).map (.build z) else none
    | _ => none
  | .buildSlice t len parts => match P.underlying t with
    | some (.slice e) => (P.info? e).bind fun i => i.zero.bind fun z => if parts.size = len ∧ z.cells.size = i.size ∧ 0 < i.size ∧ len * i.size ≤ 16777216 then (inOrder 0 parts.toList).bind fun l => (mapO cOpd l).map (.mkrow e i.size) else none
    | _ => none
  | .load t a => (tload P t).bind fun n => (cOpd a).map (.ld n)
  | .store t a x => (tsize P t).bind fun n => (cOpd a).bind fun a => (cOpd x).map (.st n a)
  | .nilCheck x => (cOpd x).map .nilck
  | .binOp op t x y _ => match P.underlying t with
    | some (.int _) | some .string => (cOpd x).bind fun x => (cOpd y).map (.bin op x)
    | some .bool => (cOpd x).bind fun x => (cOpd y).bind fun y => match op with
      | .eql => some (.eqb false x y)
      | .neq => some (.eqb true x y)
      | _ => none
    | some (.struct _) => if eqT t then (tsize P t).bind fun n => (cOpd x).bind fun x => (cOpd y).bind fun y => match op with
      | .eql => some (.eqs n false x y)
      | .neq => some (.eqs n true x y)
      | _ => none else none
    | some (.slice _) => if isNilS y then (cOpd x).bind fun x => match op with
      | .eql => some (.eqn false x)
      | .neq => some (.eqn true x)
      | _ => none else none
    | some (.pointer _) => if isNilP y then (cOpd x).bind fun x => match op with
      | .eql => some (.eqp false x)
      | .neq => some (.eqp true x)
      | _ => none else none
    | _ => none
  | .unOp op _ x => (cOpd x).map (.un op)
  | .convert src dst x => match P.underlying src, P.underlying dst with
    | some (.int _), some (.int k) => (cOpd x).map (.cvi k)
    | some (.slice e), some .string => match P.underlying e with
      | some (.int .u8) => (cOpd x).map .cvbs
      | _ => none
    | _, _ => none
  | .makeFunc (.func f) first caps => if first.size = 0 then (mapO cOpd caps.toList).map (.fnv f) else none
  | .slice t x lo hi none => match P.underlying t with
    | some .string => (cOpd x).bind fun x => (cOpdO lo).bind fun lo => (cOpdO hi).map (.ss x lo)
    | some (.slice e) => (tsize P e).bind fun s => (cOpd x).bind fun x => (cOpdO lo).bind fun lo => (cOpdO hi).map (.sls s x lo)
    | _ => none
  | .fieldAddr s x f => match P.underlying s with
    | some (.struct fs) => (fs[f]?).bind fun fl => (tsize P fl.type).bind fun z => if z = 0 then none else (cOpd x).map fun x => .fad x fl.offset
    | _ => none
  | .field s x f => match P.underlying s with
    | some (.struct fs) => (fs[f]?).bind fun fl => (tload P fl.type).bind fun n => (cOpd x).map (.fld n fl.offset)
    | _ => none
  | .indexAddr t x i => match P.underlying t with
    | some (.slice e) => (tsize P e).bind fun s => if s = 0 then none else (cOpd x).bind fun x => (cOpd i).map (.iad s x)
    | _ => none
  | .index t x i => match P.underlying t with
    | some .string => (cOpd x).bind fun x => (cOpd i).map (.ixs x)
    | _ => none
  | .extract x i => (cOpd x).map fun x => .ext x i
  | .call c => match c.callee with
    | .builtin b => cBuiltin P b c.args.toList c.argTypes.toList
    | .value f => (cOpd f).bind fun f => (mapO cOpd c.args.toList).map (.call f)
    | .invoke _ _ => none
  | _ => none
def cGuard (ops : Array Oper) : Option (Nat × Bool) → Option (Option (Nat × Bool))
  | none => some none
  | some (j, b) => ((ops[j]?).bind (·.dst)).map fun d => some (d, b)
def cOper (P : Program) (eqT : TypeId → Bool) (nt : Nat) (ops : Array Oper) (o : Oper) : Option AOper :=
  if (match o.dst with | some d => decide (d < nt) | none => true) then
    (cGuard ops o.guard).bind fun g => (cOp P eqT o.op).map fun op => { dst := o.dst, op := op, g := g }
  else none
def Opd.sl : Opd → List Nat | .t n => [n] | .k _ => []
def Opd.slO : Option Opd → List Nat | none => [] | some x => x.sl
/-- The slots that an operation looks at. -/
def AOp.slots : AOp → List Nat
  | .mv x | .box x | .ld _ x | .nilck x | .eqn _ x | .eqp _ x | .un _ x | .cvi _ x | .cvbs x | .fad x _ | .fld _ _ x | .ext x _ | .lenq _ x => x.sl
  | .pick c a b => c.sl ++ a.sl ++ b.sl
  | .new _ => []
  | .build _ ps => ps.flatMap fun p => p.2.2.sl
  | .mkrow _ _ ps => ps.flatMap Opd.sl
  | .st _ x y | .bin _ x y | .eqs _ _ x y | .eqb _ x y | .iad _ x y | .ixs x y | .app _ _ _ x y => x.sl ++ y.sl
  | .fnv _ ps => ps.flatMap Opd.sl
  | .ss x lo hi | .sls _ x lo hi => x.sl ++ Opd.slO lo ++ Opd.slO hi
  | .call f as => f.sl ++ as.flatMap Opd.sl
  | .mm _ x ys => x.sl ++ ys.flatMap Opd.sl
def AOper.slots (o : AOper) : List Nat := o.op.slots ++ (match o.g with | some p => [p.1] | none => [])
def AOper.apartS (x y : AOper) : Bool :=
  (match x.dst with | some d => !(y.slots.contains d) && y.dst != some d | none => true) && (match y.dst with | some d => !(x.slots.contains d) | none => true)
def waits (o : Oper) (i : Nat) : Bool := o.after.any fun e => Region.binds .any e && e.on == i
def slotsOk (ops : List Oper) (as : List AOper) : Bool :=
  (List.range ops.length).all fun j => (List.range j).all fun i =>
    match ops[j]?, as[i]?, as[j]? with
    | some o, some x, some y => waits o i || x.apartS y
    | _, _, _ => false
/-- May a region that draws be carried out in its text's order? -/
def drawOk (ops : Array Oper) (as : List AOper) : Bool := Region.lexB .any ops && slotsOk ops.toList as
/-- Does it look at no object and no row, and write none? -/
def AOp.silent : AOp → Bool
  | .new _ | .box _ | .mkrow _ _ _ | .ld _ _ | .st _ _ _ | .call _ _ | .app _ _ _ _ _ => false
  | _ => true
def AOp.looks : AOp → Bool
  | .ld _ _ => true
  | _ => false
/-- The pairs whose order is open and of which one writes. -/
def chkOf (ops : List Oper) (as : List AOper) : List (Nat × Nat) :=
  (List.range ops.length).flatMap fun j => (List.range j).filterMap fun i =>
    match ops[j]?, as[i]?, as[j]? with
    | some o, some x, some y => if waits o i || x.op.silent || y.op.silent || (x.op.looks && y.op.looks) then none else some (i, j)
    | _, _, _ => some (i, j)
def cCode (P : Program) (eqT : TypeId → Bool) (nt : Nat) : Code → Option ACode
  | .skip => some .skip
  | .region _ ops draw => (mapO (cOper P eqT nt ops) ops.toList).bind fun l => if draw then if drawOk ops l then some (.rd l (chkOf ops.toList l)) else none else some (.rg l)
  | .seq a b => (cCode P eqT nt a).bind fun a => (cCode P eqT nt b).map (.seq a)
  | .cond c a b => (cOpd c).bind fun c => (cCode P eqT nt a).bind fun a => (cCode P eqT nt b).map (.cond c a)
  | .block id a => (cCode P eqT nt a).map (.block id)
  | .loop a => (cCode P eqT nt a).map .loop
  | .exit id => some (.exit id)
  | .ret => some .ret
  | _ => none
def cRes (P : Program) : ResultVar → Option ARes
  | .tmp t => some (.t t)
  | .cell a t => (tload P t).map (.c a)
def cFun (P : Program) (eqT : TypeId → Bool) (f : Func) : Option AFun :=
  f.body.bind fun c => if f.ntmps < f.params.size + f.nfree then none else (cCode P eqT f.ntmps c).bind fun ac => (mapO (cRes P) f.results.toList).bind fun r => some { code := ac, np := f.params.size + f.nfree, nt := f.ntmps, res := r }
end Go.Ae
