/-
  THE ABSTRACT EVALUATOR: a deterministic evaluator over values without a heap, for a part of the operations of the model. Definitions alone.
-/
import Derived.Calls
import Derived.KernelRfl
set_option linter.unusedSimpArgs false
set_option linter.unusedVariables false
namespace Go.Ae

/-- Data of one cell. -/
inductive DV where
  | int (k : IntKind) (n : Int)
  | bool (b : Bool)
  | str (s : List UInt8)
  | sl (xs : List (List DV))
  deriving Inhabited

/-- What a slot or an object's cell holds. -/
inductive AV where
  | d (x : DV)
  | agg (cs : List DV)
  | row (t : Nat) (e : TypeId) (xs : List (List DV))
  | nils
  | ptr (id off : Nat)
  | elp (cs : List DV) (off : Nat)
  | nilp
  | fn (f : FuncId) (ids : List Nat)
  | osl (id sz n : Nat)
  | tup (vs : List AV)
  deriving Inhabited

inductive Opd where
  | t (n : Nat)
  | k (v : AV)
  deriving Inhabited

inductive AOp where
  | mv (x : Opd)
  | pick (c a b : Opd)
  | new (z : List AV)
  | box (x : Opd)
  | build (z : List DV) (parts : List (Nat × Nat × Opd))
  | mkrow (e : TypeId) (sz : Nat) (parts : List Opd)
  | ld (n : Option Nat) (p : Opd)
  | st (n : Nat) (p x : Opd)
  | nilck (x : Opd)
  | bin (op : BinOp) (x y : Opd)
  | eqs (n : Nat) (neg : Bool) (x y : Opd)
  | eqb (neg : Bool) (x y : Opd)
  | eqn (neg : Bool) (x : Opd)
  | eqp (neg : Bool) (x : Opd)
  | un (op : UnOp) (x : Opd)
  | cvi (k : IntKind) (x : Opd)
  | cvbs (x : Opd)
  | fnv (f : FuncId) (caps : List Opd)
  | ss (x : Opd) (lo hi : Option Opd)
  | sls (sz : Nat) (x : Opd) (lo hi : Option Opd)
  | fad (p : Opd) (off : Nat)
  | fld (n : Option Nat) (off : Nat) (x : Opd)
  | iad (sz : Nat) (x i : Opd)
  | ixs (x i : Opd)
  | ext (x : Opd) (i : Nat)
  | call (f : Opd) (args : List Opd)
  | lenq (str : Bool) (x : Opd)
  | app (e : TypeId) (sz bytes : Nat) (s x : Opd)
  | mm (max : Bool) (x : Opd) (ys : List Opd)
  deriving Inhabited

structure AOper where
  dst : Option Nat
  op : AOp
  g : Option (Nat × Bool)
  deriving Inhabited

inductive ACode where
  | skip
  | rg (ops : List AOper)
  | rd (ops : List AOper) (chk : List (Nat × Nat))
  | seq (a b : ACode)
  | cond (c : Opd) (a b : ACode)
  | block (id : Nat) (a : ACode)
  | loop (a : ACode)
  | exit (id : Nat)
  | ret
  deriving Inhabited

inductive AExit where
  | normal
  | exit (id : Nat)
  | ret

/-- Where a result lies: a slot, or a variable (its address's slot; its cells, none: one). -/
inductive ARes where
  | t (n : Nat)
  | c (n : Nat) (sz : Option Nat)

structure AFun where
  code : ACode
  np : Nat
  nt : Nat
  res : List ARes

structure St where
  tm : Nat → AV
  ob : Nat → Option (List AV)
  no : Nat
  ow : Nat → Bool
  nx : Nat
  nb : Nat

abbrev AV.undef : AV := .tup []

def upd {α : Type} (f : Nat → α) (i : Nat) (v : α) : Nat → α := fun j => if j = i then v else f j
theorem upd_apply {α : Type} (f : Nat → α) (i : Nat) (v : α) (j : Nat) : upd f i v j = if j = i then v else f j := rfl

def St.put (st : St) (d : Option Nat) (v : AV) : St := match d with | some d => { st with tm := upd st.tm d v } | none => st
def St.val (st : St) : Opd → AV | .t n => st.tm n | .k v => v

/-- As data of one cell. -/
def AV.toD : AV → Option DV
  | .d x => some x
  | .row _ _ xs => some (.sl xs)
  | .nils => some (.sl [])
  | _ => none
def allD : List AV → Option (List DV)
  | [] => some []
  | x :: l => (x.toD).bind fun y => (allD l).bind fun ys => some (y :: ys)
/-- As cells of an object. -/
def AV.cells : AV → Option (List AV)
  | .d x => some [.d x]
  | .agg cs => some (cs.map .d)
  | .row t e xs => some [.row t e xs]
  | .nils => some [.nils]
  | .osl id sz n => some [.osl id sz n]
  | _ => none
/-- As the cells of an element, or a part. -/
def AV.cellsD : AV → Option (List DV)
  | .d x => some [x]
  | .agg cs => some cs
  | .row _ _ xs => some [.sl xs]
  | .nils => some [.sl []]
  | _ => none
def AV.rows : AV → Option (List (List DV))
  | .d (.sl xs) => some xs
  | .row _ _ xs => some xs
  | .nils => some []
  | _ => none
def AV.int? : AV → Option (IntKind × Int) | .d (.int k n) => some (k, n) | _ => none

/-- Cells written over cells, from a place on; none: they don't fit. -/
def over {α : Type} : List α → Nat → List α → Option (List α)
  | cs, 0, [] => some cs
  | _ :: cs, 0, v :: vs => (over cs 0 vs).map (v :: ·)
  | c :: cs, n + 1, vs => (over cs n vs).map (c :: ·)
  | [], _, _ => none
def takeN {α : Type} : Nat → List α → Option (List α)
  | 0, _ => some []
  | n + 1, x :: l => (takeN n l).map (x :: ·)
  | _ + 1, [] => none

def fillD (st : St) : List DV → List (Nat × Nat × Opd) → Option (List DV)
  | z, [] => some z
  | z, (off, sz, x) :: l => ((st.val x).cellsD).bind fun cs => if cs.length = sz then (over z off cs).bind fun z' => fillD st z' l else none
def elems (st : St) (sz : Nat) : List Opd → Option (List (List DV))
  | [] => some []
  | x :: l => ((st.val x).cellsD).bind fun cs => if cs.length = sz then (elems st sz l).bind fun r => some (cs :: r) else none

def bytesLt (x y : List UInt8) : Bool := Op.bytesLess x y
def binD (op : BinOp) : DV → DV → Option DV
  | .int k a, .int k' b =>
    match op with
    | .shl => if b < 0 then none else some (.int k (k.wrap (a * 2 ^ (min b.toNat k.bits))))
    | .shr => if b < 0 then none else some (.int k (a.fdiv (2 ^ (min b.toNat k.bits))))
    | .add => if k = k' then some (.int k (k.wrap (a + b))) else none
    | .sub => if k = k' then some (.int k (k.wrap (a - b))) else none
    | .mul => if k = k' then some (.int k (k.wrap (a * b))) else none
    | .quo => if k = k' then if b = 0 then none else some (.int k (k.wrap (a.tdiv b))) else none
    | .rem => if k = k' then if b = 0 then none else some (.int k (a.tmod b)) else none
    | .and => if k = k' then some (.int k (k.wrap (BitVec.ofInt k.bits a &&& BitVec.ofInt k.bits b).toNat)) else none
    | .or => if k = k' then some (.int k (k.wrap (BitVec.ofInt k.bits a ||| BitVec.ofInt k.bits b).toNat)) else none
    | .xor => if k = k' then some (.int k (k.wrap (BitVec.ofInt k.bits a ^^^ BitVec.ofInt k.bits b).toNat)) else none
    | .eql => if k = k' then some (.bool (a == b)) else none
    | .neq => if k = k' then some (.bool (a != b)) else none
    | .lss => if k = k' then some (.bool (a < b)) else none
    | .leq => if k = k' then some (.bool (a ≤ b)) else none
    | .gtr => if k = k' then some (.bool (a > b)) else none
    | .geq => if k = k' then some (.bool (a ≥ b)) else none
    | _ => none
  | .str a, .str b =>
    match op with
    | .add => if ((a.length + b.length : Nat) : Int) > IntKind.i64.max then none else some (.str (a ++ b))
    | .eql => some (.bool (a == b))
    | .neq => some (.bool (!(a == b)))
    | .lss => some (.bool (bytesLt a b))
    | .leq => some (.bool (bytesLt a b || a == b))
    | .gtr => some (.bool (!(bytesLt a b || a == b)))
    | .geq => some (.bool (!bytesLt a b))
    | _ => none
  | _, _ => none
/-- Cells of whole numbers: are they alike? -/
def eqD : List DV → List DV → Option Bool
  | [], [] => some true
  | .int k a :: x, .int k' b :: y => if k = k' then (eqD x y).bind fun r => some (a == b && r) else none
  | _, _ => none
def unD (op : UnOp) : DV → Option DV
  | .int k n => match op with | .neg => some (.int k (k.wrap (0 - n))) | _ => none
  | .bool b => match op with | .not => some (.bool (!b)) | _ => none
  | _ => none
def bytesD : List (List DV) → Option (List UInt8)
  | [] => some []
  | [.int .u8 n] :: l => (bytesD l).bind fun r => some (UInt8.ofNat n.toNat :: r)
  | _ => none
/-- A bound of a cut: from 0 to y. -/
def bnd (st : St) (y dflt : Nat) : Option Opd → Option Nat
  | none => some dflt
  | some x => ((st.val x).int?).bind fun p => if 0 ≤ p.2 ∧ p.2 ≤ (y : Int) then some p.2.toNat else none
def idsOf (st : St) : List Opd → Option (List Nat)
  | [] => some []
  | x :: l => (match st.val x with | .ptr id off => if off = 0 then some id else none | _ => none).bind fun i => (idsOf st l).bind fun r => some (i :: r)
def mmI (mx : Bool) (st : St) : AV → List Opd → Option AV
  | v, [] => some v
  | v, y :: l => (v.int?).bind fun p => ((st.val y).int?).bind fun q => if p.1 = q.1 then mmI mx st (.d (.int p.1 (if mx then (if q.2 > p.2 then q.2 else p.2) else (if q.2 < p.2 then q.2 else p.2)))) l else none

/-- What an operation does: its value; objects' cells; rows of one's own that begin, or end. -/
structure Eff where
  v : AV
  wo : List (Nat × Option (List AV))
  wt : List (Nat × Bool)
def updL {α : Type} (f : Nat → α) : List (Nat × α) → Nat → α
  | [] => f
  | (i, v) :: l => updL (upd f i v) l
def updO (f : Nat → Option (List AV)) : List (Nat × Option (List AV)) → Nat → Option (List AV)
  | [] => f
  | (i, v) :: l => updO (upd f i v) l
abbrev pureE (v : AV) : Option Eff := some ⟨v, [], []⟩
/-- The operations that call nothing; 'i': the operation's number in its region. -/
def aop (i : Nat) (st : St) : AOp → Option Eff
  | .mv x => pureE (st.val x)
  | .pick c a b => match st.val c with | .d (.bool t) => pureE (if t then st.val a else st.val b) | _ => none
  | .new z => some ⟨.ptr (st.no + i) 0, [(st.no + i, some z)], []⟩
  | .box x => ((st.val x).cells).bind fun z => some ⟨.ptr (st.no + i) 0, [(st.no + i, some z)], []⟩
  | .build z parts => (fillD st z parts).bind fun cs => pureE (.agg cs)
  | .mkrow e sz parts => (elems st sz parts).bind fun xs => some ⟨.row (st.nx + i) e xs, [], [(st.nx + i, true)]⟩
  | .ld n p =>
    match st.val p with
    | .ptr id off => (st.ob id).bind fun cs =>
      match n with
      | none => (cs[off]?).bind fun v => pureE (v)
      | some n => (takeN n (cs.drop off)).bind fun l => (allD l).bind fun l => pureE (.agg l)
    | .elp cs off =>
      match n with
      | none => (cs[off]?).bind fun v => pureE (.d v)
      | some n => (takeN n (cs.drop off)).bind fun l => pureE (.agg l)
    | _ => none
  | .st n p x =>
    match st.val p with
    | .ptr id off => (st.ob id).bind fun cs => ((st.val x).cells).bind fun vs => if vs.length = n then (over cs off vs).bind fun cs' => some ⟨.undef, [(id, some cs')], []⟩ else none
    | _ => none
  | .nilck x => match st.val x with | .ptr id off => pureE (.ptr id off) | .elp cs off => pureE (.elp cs off) | .fn f ids => pureE (.fn f ids) | _ => none
  | .bin op x y => match st.val x, st.val y with | .d a, .d b => (binD op a b).bind fun r => pureE (.d r) | _, _ => none
  | .eqs n neg x y => match st.val x, st.val y with | .agg a, .agg b => if a.length ≠ n then none else (eqD a b).bind fun r => pureE (.d (.bool (if neg then !r else r))) | _, _ => none
  | .eqb neg x y => match st.val x, st.val y with | .d (.bool a), .d (.bool b) => pureE (.d (.bool (if neg then !(a == b) else a == b))) | _, _ => none
  | .eqn neg x => match st.val x with
    | .nils => pureE (.d (.bool (!neg)))
    | .d (.sl xs) => if xs = [] then none else pureE (.d (.bool neg))
    | .row _ _ xs => if xs = [] then none else pureE (.d (.bool neg))
    | .osl _ _ _ => pureE (.d (.bool neg))
    | _ => none
  | .eqp neg x => match st.val x with
    | .ptr _ _ => pureE (.d (.bool neg))
    | .nilp => pureE (.d (.bool (!neg)))
    | _ => none
  | .un op x => match st.val x with | .d a => (unD op a).bind fun r => pureE (.d r) | _ => none
  | .cvi k x => ((st.val x).int?).bind fun p => pureE (.d (.int k (k.wrap p.2)))
  | .cvbs x => ((st.val x).rows).bind fun xs => (bytesD xs).bind fun s => pureE (.d (.str s))
  | .fnv f caps => (idsOf st caps).bind fun ids => pureE (.fn f ids)
  | .ss x lo hi => match st.val x with
    | .d (.str s) => (bnd st s.length s.length hi).bind fun h => (bnd st h 0 lo).bind fun l => pureE (.d (.str ((s.take h).drop l)))
    | _ => none
  | .sls sz x lo hi => ((st.val x).rows).bind fun xs => if !xs.all (fun y => y.length == sz) then none else (bnd st xs.length xs.length hi).bind fun h => (bnd st h 0 lo).bind fun l => pureE (.d (.sl ((xs.take h).drop l)))
  | .fad p off => match st.val p with | .ptr id o => pureE (.ptr id (o + off)) | .elp cs o => pureE (.elp cs (o + off)) | _ => none
  | .fld n off x => match st.val x with
    | .agg cs => (match n with | none => (cs[off]?).bind fun v => pureE (.d v) | some n => (takeN n (cs.drop off)).bind fun l => pureE (.agg l))
    | _ => none
  | .iad sz x i => match st.val x with
    | .osl id s n => ((st.val i).int?).bind fun p => if 0 ≤ p.2 ∧ p.2 < (n : Int) ∧ s = sz then pureE (.ptr id (p.2.toNat * sz)) else none
    | v => (v.rows).bind fun xs => ((st.val i).int?).bind fun p => if 0 ≤ p.2 then (xs[p.2.toNat]?).bind fun cs => if cs.length = sz then pureE (.elp cs 0) else none else none
  | .ixs x i => match st.val x with
    | .d (.str s) => ((st.val i).int?).bind fun p => if 0 ≤ p.2 then (s[p.2.toNat]?).bind fun c => pureE (.d (.int .u8 c.toNat)) else none
    | _ => none
  | .ext x i => match st.val x with | .tup vs => (vs[i]?).bind fun v => pureE (v) | _ => none
  | .call _ _ => none
  | .lenq str x => if str then (match st.val x with | .d (.str s) => pureE (.d (.int .i64 s.length)) | _ => none) else (match st.val x with | .osl _ _ n => pureE (.d (.int .i64 n)) | v => (v.rows).bind fun xs => pureE (.d (.int .i64 xs.length)))
  | .app e sz bytes s x => ((st.val x).rows).bind fun ys =>
    if ys.all (fun y => y.length == sz) then
      match st.val s with
      | .nils => if ys.length * bytes ≤ 140737488355328 then if ys = [] then pureE .nils else some ⟨.row (st.nx + i) e ys, [], [(st.nx + i, true)]⟩ else none
      | .row t e' xs => if st.ow t ∧ e' = e then if (xs.length + ys.length) * bytes ≤ 140737488355328 then if xs.all (fun y => y.length == sz) then some ⟨.row (st.nx + i) e (xs ++ ys), [], [(t, false), (st.nx + i, true)]⟩ else none else none else none
      | _ => none
    else none
  | .mm mx x ys => (mmI mx st (st.val x) ys).bind fun v => pureE (v)

abbrev Fun := List AV → List (List DV) → Option (AV × List (List DV))
/-- What a call is given: its arguments, objects numbered anew; the objects' own numbers. -/
def argsOf : Nat → List AV → Option (List AV × List Nat)
  | _, [] => some ([], [])
  | k, v :: l =>
    match v with
    | .d x => (argsOf k l).bind fun r => some (.d x :: r.1, r.2)
    | .agg cs => (argsOf k l).bind fun r => some (.agg cs :: r.1, r.2)
    | .row _ _ xs => (argsOf k l).bind fun r => some (.d (.sl xs) :: r.1, r.2)
    | .nils => (argsOf k l).bind fun r => some (.d (.sl []) :: r.1, r.2)
    | .nilp => (argsOf k l).bind fun r => some (.nilp :: r.1, r.2)
    | .ptr id off => (argsOf (k + 1) l).bind fun r => some (.ptr k off :: r.1, id :: r.2)
    | .fn f ids => (argsOf (k + ids.length) l).bind fun r => some (.fn f (List.range' k ids.length) :: r.1, ids ++ r.2)
    | _ => none
def obsOf (st : St) : List Nat → Option (List (List DV))
  | [] => some []
  | i :: l => (st.ob i).bind fun cs => (allD cs).bind fun cs => (obsOf st l).bind fun r => some (cs :: r)
/-- The objects that a call leaves. -/
def zipObs : List Nat → List (List DV) → Nat → Option (List (Nat × Option (List AV)))
  | id :: ids, cs :: l, no => (zipObs ids l no).bind fun r => some ((id, some (cs.map .d)) :: r)
  | [], [cs], no => some [(no, some (cs.map .d))]
  | [], [], _ => some []
  | _, _, _ => none
def tupD : List AV → Option (List AV)
  | [] => some []
  | .d x :: l => (tupD l).bind fun r => some (.d x :: r)
  | .agg cs :: l => (tupD l).bind fun r => some (.agg cs :: r)
  | _ => none
/-- A result as the caller has it: its value; a row that begins. -/
def getRes (ids : List Nat) (no nx : Nat) : AV → Option (AV × List (Nat × Bool))
  | .d x => some (.d x, [])
  | .agg cs => some (.agg cs, [])
  | .row _ e xs => some (.row nx e xs, [(nx, true)])
  | .nilp => some (.nilp, [])
  | .ptr k off => if k = ids.length then some (.ptr no off, []) else (ids[k]?).bind fun id => some (.ptr id off, [])
  | .osl k sz n => if k = ids.length then some (.osl no sz n, []) else none
  | .tup vs => (tupD vs).bind fun vs => some (.tup vs, [])
  | _ => none
def callArgs (f : AV) (args : List AV) : Option (FuncId × List AV × List Nat) :=
  match f with
  | .fn f caps => (argsOf 0 (args ++ caps.map fun c => .ptr c 0)).bind fun a => some (f, a.1, a.2)
  | _ => none
def acall (cl : FuncId → Fun) (i : Nat) (st : St) (f : AV) (args : List AV) : Option Eff :=
  (callArgs f args).bind fun a =>
    if a.2.2.Nodup then (obsOf st a.2.2).bind fun obs => (cl a.1 a.2.1 obs).bind fun r =>
      (zipObs a.2.2 r.2 (st.no + i)).bind fun wo => (getRes a.2.2 (st.no + i) (st.nx + i) r.1).bind fun v => some ⟨v.1, wo, v.2⟩
    else none

/-- One operation. -/
def astep (cl : FuncId → Fun) (i : Nat) (st : St) (op : AOp) : Option Eff :=
  match op with
  | .call f args => acall cl i st (st.val f) (args.map st.val)
  | op => aop i st op
def wantedA (st : St) : Option (Nat × Bool) → Bool
  | none => true
  | some (s, b) => match st.tm s with | .d (.bool c) => c == b | _ => false
def estep (cl : FuncId → Fun) (i : Nat) (st : St) (o : AOper) : Option Eff := if wantedA st o.g then astep cl i st o.op else some ⟨.undef, [], []⟩
def St.eff (st : St) (d : Option Nat) (e : Eff) : St := { tm := match d with | some d => upd st.tm d e.v | none => st.tm, ob := updO st.ob e.wo, no := st.no, ow := updL st.ow e.wt, nx := st.nx, nb := st.nb }
/-- Cells, in so many rows of so many. -/
def chunks (sz : Nat) : Nat → List DV → Option (List (List DV))
  | 0, [] => some []
  | 0, _ :: _ => none
  | n + 1, l => (takeN sz l).bind fun x => (chunks sz n (l.drop sz)).map (x :: ·)
/-- A slice over a whole object, as data: its object is given up. -/
def frz1 (nb : Nat) (ob : Nat → Option (List AV)) : AV → Option (DV × List Nat)
  | .osl id sz n => if nb ≤ id then (ob id).bind fun cs => (allD cs).bind fun ds => (chunks sz n ds).bind fun xs => some (.sl xs, [id]) else none
  | v => (v.toD).map fun x => (x, [])
def frz (nb : Nat) : (Nat → Option (List AV)) → List AV → Option (List DV × List Nat)
  | _, [] => some ([], [])
  | ob, v :: l => (frz1 nb ob v).bind fun x => (frz nb (updO ob (x.2.map fun id => (id, none))) l).bind fun r => some (x.1 :: r.1, x.2 ++ r.2)
def ldz (st : St) (n : Nat) (p : Opd) : Option Eff :=
  match st.val p with
  | .ptr id off => (st.ob id).bind fun cs => (takeN n (cs.drop off)).bind fun l => (frz st.nb st.ob l).bind fun r => some ⟨.agg r.1, r.2.map fun id => (id, none), []⟩
  | _ => none
/-- An operation in a region that draws no order. -/
def estepZ (cl : FuncId → Fun) (i : Nat) (st : St) (o : AOper) : Option Eff :=
  match estep cl i st o with
  | some e => some e
  | none => match o.op with
    | .ld (some n) p => if wantedA st o.g then ldz st n p else none
    | _ => none
def rgn (cl : FuncId → Fun) : Nat → St → List AOper → Option St
  | _, st, [] => some st
  | i, st, o :: l => (estepZ cl i st o).bind fun e => rgn cl (i + 1) (st.eff o.dst e) l
def St.next (st0 : St) (n : Nat) (st : St) : St := { st with no := st0.no + n, nx := st0.nx + n }
def region (cl : FuncId → Fun) (st : St) (ops : List AOper) : Option St := (rgn cl 0 st ops).bind fun st' => some (st.next ops.length st')
/-- What an operation looks at, and writes: objects, rows. -/
structure Foot where
  ro : List Nat
  rt : List Nat
  wo : List Nat
  wt : List Nat
def AV.idL : AV → List Nat | .ptr id _ => [id] | _ => []
def AV.tokL : AV → List Nat | .row t _ _ => [t] | _ => []
def reads (st : St) : AOp → List Nat × List Nat
  | .ld _ p => ((st.val p).idL, [])
  | .st _ p _ => ((st.val p).idL, [])
  | .call f args => (match callArgs (st.val f) (args.map st.val) with | some a => a.2.2 | none => [], [])
  | .app _ _ _ s _ => ([], (st.val s).tokL)
  | _ => ([], [])
def foot (st : St) (o : AOper) (e : Eff) : Foot :=
  if wantedA st o.g then { ro := (reads st o.op).1, rt := (reads st o.op).2, wo := e.wo.map (·.1), wt := e.wt.map (·.1) } else ⟨[], [], [], []⟩
def apartL (a b : List Nat) : Bool := a.all fun x => b.all fun y => x != y
def Foot.apart (a b : Foot) : Bool := apartL a.wo (b.ro ++ b.wo) && apartL b.wo a.ro && apartL a.wt (b.rt ++ b.wt) && apartL b.wt a.rt
def rgF (cl : FuncId → Fun) : Nat → St → List AOper → Option (St × List Foot)
  | _, st, [] => some (st, [])
  | i, st, o :: l => (estep cl i st o).bind fun e => (rgF cl (i + 1) (st.eff o.dst e) l).bind fun r => some (r.1, foot st o e :: r.2)
def chkF (fs : List Foot) : List (Nat × Nat) → Bool
  | [] => true
  | (a, b) :: l => (match fs[a]?, fs[b]? with | some x, some y => x.apart y | _, _ => false) && chkF fs l
def regionD (cl : FuncId → Fun) (st : St) (ops : List AOper) (chk : List (Nat × Nat)) : Option St :=
  (rgF cl 0 st ops).bind fun r => if chkF r.2 chk then some (st.next ops.length r.1) else none

abbrev Res := AV × List (List DV)
abbrev Kt := AExit → St → Option Res
abbrev Step := Kt → St → Option Res
def thenK (k : St → Option Res) (K : Kt) : Kt := fun e st => match e with | .normal => k st | e => K e st
def blockK (id : Nat) (K : Kt) : Kt := fun e st => match e with | .exit i => if i = id then K .normal st else K (.exit i) st | e => K e st
def loopF (step : Step) : Nat → Kt → St → Option Res
  | 0, _, _ => none
  | k + 1, K, st => step (thenK (loopF step k K) K) st
def ev (cl : FuncId → Fun) (n : Nat) : ACode → Step
  | .skip => fun K st => K .normal st
  | .rg ops => fun K st => (region cl st ops).bind (K .normal)
  | .rd ops chk => fun K st => (regionD cl st ops chk).bind (K .normal)
  | .seq a b => fun K st => ev cl n a (thenK (ev cl n b K) K) st
  | .cond c a b => fun K st => match st.val c with | .d (.bool t) => if t then ev cl n a K st else ev cl n b K st | _ => none
  | .block id a => fun K st => ev cl n a (blockK id K) st
  | .loop a => loopF (ev cl n a) n
  | .exit id => fun K st => K (.exit id) st
  | .ret => fun K st => K .ret st

def resOf (st : St) : ARes → Option AV
  | .t n => some (st.tm n)
  | .c n sz => match st.tm n with
    | .ptr id off => (st.ob id).bind fun cs => match sz with
      | none => cs[off]?
      | some n => (takeN n (cs.drop off)).bind fun l => (allD l).bind fun l => some (.agg l)
    | _ => none
/-- A single result, as it leaves; the new object that it points to, if it does. -/
def outOf (st : St) (nob : Nat) : AV → Option (AV × List (List DV))
  | .d x => some (.d x, [])
  | .agg cs => some (.agg cs, [])
  | .row t e xs => if st.ow t then some (.row 0 e xs, []) else some (.d (.sl xs), [])
  | .nils => some (.d (.sl []), [])
  | .nilp => some (.nilp, [])
  | .osl id sz n => if nob ≤ id then (st.ob id).bind fun cs => (allD cs).bind fun ds => (chunks sz n ds).bind fun xs => some (.d (.sl xs), []) else none
  | .ptr id off => if id < nob then some (.ptr id off, []) else (st.ob id).bind fun cs => (allD cs).bind fun cs => some (.ptr nob off, [cs])
  | _ => none
def AV.outD : AV → Option AV
  | .agg cs => some (.agg cs)
  | v => v.toD.map AV.d
def outsOf (st : St) : List ARes → Option (List AV)
  | [] => some []
  | r :: l => (resOf st r).bind fun v => (v.outD).bind fun v => (outsOf st l).bind fun r => some (v :: r)
def objs (st : St) : Nat → Nat → Option (List (List DV))
  | _, 0 => some []
  | i, n + 1 => (st.ob i).bind fun cs => (allD cs).bind fun cs => (objs st (i + 1) n).bind fun r => some (cs :: r)
def final (res : List ARes) (nob : Nat) (st : St) : Option Res :=
  match res with
  | [r] => (resOf st r).bind fun v => (outOf st nob v).bind fun o => (objs st 0 nob).bind fun obs => some (o.1, obs ++ o.2)
  | res => (outsOf st res).bind fun vs => (objs st 0 nob).bind fun obs => some (.tup vs, obs)
def finalK (res : List ARes) (nob : Nat) : Kt := fun e st => match e with | .normal => final res nob st | .ret => final res nob st | .exit _ => none

def initTm : Nat → List AV → Nat → AV
  | _, [] => fun _ => .undef
  | i, v :: l => upd (initTm (i + 1) l) i v
def initOb : Nat → List (List DV) → Nat → Option (List AV)
  | _, [] => fun _ => none
  | i, cs :: l => upd (initOb (i + 1) l) i (some (cs.map .d))
def init (args : List AV) (obs : List (List DV)) : St := { tm := initTm 0 args, ob := initOb 0 obs, no := obs.length, ow := fun _ => false, nx := 1, nb := obs.length }

structure AProg where
  fn : FuncId → Option AFun
  ext : FuncId → Option Fun

def body (cl : FuncId → Fun) (n : Nat) (f : AFun) : Fun := fun args obs => if args.length = f.np then ev cl n f.code (finalK f.res obs.length) (init args obs) else none
def callS (A : AProg) (cl : FuncId → Fun) (n : Nat) (f : FuncId) : Fun :=
  match A.ext f with
  | some g => g
  | none => match A.fn f with
    | some af => body cl n af
    | none => fun _ _ => none
def callN (A : AProg) : Nat → FuncId → Fun
  | 0, _ => fun _ _ => none
  | n + 1, f => callS A (callN A n) n f

/-! ### More rounds give the same answer -/
def Le {α : Type} (a b : Option α) : Prop := ∀ r, a = some r → b = some r
theorem Le.refl {α : Type} (a : Option α) : Le a a := fun _ h => h
theorem Le.bind {α β : Type} {a a' : Option α} {f f' : α → Option β} (h : Le a a') (k : ∀ x, Le (f x) (f' x)) : Le (a.bind f) (a'.bind f') := by
  intro r hr
  obtain ⟨x, hx, hf⟩ := Option.bind_eq_some_iff.1 hr
  exact Option.bind_eq_some_iff.2 ⟨x, h x hx, k x r hf⟩
def LeC (cl cl' : FuncId → Fun) : Prop := ∀ f a o, Le (cl f a o) (cl' f a o)
def LeK (K K' : Kt) : Prop := ∀ e st, Le (K e st) (K' e st)

theorem acall_le {cl cl' : FuncId → Fun} (h : LeC cl cl') (i : Nat) (st : St) (f : AV) (args : List AV) : Le (acall cl i st f args) (acall cl' i st f args) := by
  unfold acall
  refine Le.bind (Le.refl _) fun a => ?_
  split
  · exact Le.bind (Le.refl _) fun obs => Le.bind (h _ _ _) fun r => Le.refl _
  · exact Le.refl _
theorem astep_le {cl cl' : FuncId → Fun} (h : LeC cl cl') (i : Nat) (st : St) (op : AOp) : Le (astep cl i st op) (astep cl' i st op) := by
  unfold astep
  split
  · exact acall_le h _ _ _ _
  · exact Le.refl _
theorem estep_le {cl cl' : FuncId → Fun} (h : LeC cl cl') (i : Nat) (st : St) (o : AOper) : Le (estep cl i st o) (estep cl' i st o) := by
  unfold estep
  split
  · exact astep_le h _ _ _
  · exact Le.refl _
theorem estep_ld {cl cl' : FuncId → Fun} (i : Nat) (st : St) (o : AOper) {n : Option Nat} {p : Opd} (h : o.op = .ld n p) : estep cl i st o = estep cl' i st o := by
  unfold estep
  rw [h]
  rfl
theorem estepZ_le {cl cl' : FuncId → Fun} (h : LeC cl cl') (i : Nat) (st : St) (o : AOper) : Le (estepZ cl i st o) (estepZ cl' i st o) := by
  intro r hr
  unfold estepZ at hr ⊢
  split at hr
  · rename_i e he
    rw [estep_le h i st o e he]
    exact hr
  · rename_i hn
    split at hr
    · rename_i n p hop
      rw [estep_ld (cl' := cl) i st o hop, hn]
      simp only [hop]
      exact hr
    · cases hr
theorem rgn_le {cl cl' : FuncId → Fun} (h : LeC cl cl') : ∀ (l : List AOper) (i : Nat) (st : St), Le (rgn cl i st l) (rgn cl' i st l)
  | [], _, _ => Le.refl _
  | _ :: l, i, _ => Le.bind (estepZ_le h _ _ _) fun _ => rgn_le h l (i + 1) _
theorem rgF_le {cl cl' : FuncId → Fun} (h : LeC cl cl') : ∀ (l : List AOper) (i : Nat) (st : St), Le (rgF cl i st l) (rgF cl' i st l)
  | [], _, _ => Le.refl _
  | _ :: l, i, _ => Le.bind (estep_le h _ _ _) fun _ => Le.bind (rgF_le h l (i + 1) _) fun _ => Le.refl _
theorem regionD_le {cl cl' : FuncId → Fun} (h : LeC cl cl') (st : St) (ops : List AOper) (chk : List (Nat × Nat)) : Le (regionD cl st ops chk) (regionD cl' st ops chk) :=
  Le.bind (rgF_le h ops 0 st) fun _ => Le.refl _
theorem thenK_le {k k' : St → Option Res} {K K' : Kt} (h : ∀ st, Le (k st) (k' st)) (hK : LeK K K') : LeK (thenK k K) (thenK k' K') := by
  intro e st
  cases e
  · exact h st
  · exact hK _ st
  · exact hK _ st
theorem blockK_le {id : Nat} {K K' : Kt} (hK : LeK K K') : LeK (blockK id K) (blockK id K') := by
  intro e st
  cases e with
  | normal => exact hK _ st
  | ret => exact hK _ st
  | exit i =>
    simp only [blockK]
    split
    · exact hK _ st
    · exact hK _ st
theorem loopF_le {s s' : Step} (h : ∀ K K', LeK K K' → ∀ st, Le (s K st) (s' K' st)) : ∀ (n n' : Nat), n ≤ n' → ∀ K K', LeK K K' → ∀ st, Le (loopF s n K st) (loopF s' n' K' st)
  | 0, _, _, _, _, _, _ => fun _ h => by cases h
  | n + 1, 0, hn, _, _, _, _ => absurd hn (by omega)
  | n + 1, n' + 1, hn, K, K', hK, st => h _ _ (thenK_le (loopF_le h n n' (by omega) K K' hK) hK) st
theorem ev_le {cl cl' : FuncId → Fun} (h : LeC cl cl') {n n' : Nat} (hn : n ≤ n') : ∀ (c : ACode) (K K' : Kt), LeK K K' → ∀ st, Le (ev cl n c K st) (ev cl' n' c K' st)
  | .skip, _, _, hK, st => hK _ st
  | .rg ops, _, _, hK, st => Le.bind (Le.bind (rgn_le h ops 0 st) fun _ => Le.refl _) fun st' => hK _ st'
  | .rd ops chk, _, _, hK, st => Le.bind (regionD_le h st ops chk) fun st' => hK _ st'
  | .seq a b, K, K', hK, st => ev_le h hn a _ _ (thenK_le (ev_le h hn b K K' hK) hK) st
  | .cond c a b, K, K', hK, st => by
    simp only [ev]
    split
    · split
      · exact ev_le h hn a _ _ hK st
      · exact ev_le h hn b _ _ hK st
    · exact Le.refl _
  | .block id a, K, K', hK, st => ev_le h hn a _ _ (blockK_le hK) st
  | .loop a, K, K', hK, st => loopF_le (fun K K' hK st => ev_le h hn a K K' hK st) n n' hn K K' hK st
  | .exit id, _, _, hK, st => hK _ st
  | .ret, _, _, hK, st => hK _ st
theorem callS_le (A : AProg) {cl cl' : FuncId → Fun} (h : LeC cl cl') {n n' : Nat} (hn : n ≤ n') (f : FuncId) (a : List AV) (o : List (List DV)) : Le (callS A cl n f a o) (callS A cl' n' f a o) := by
  unfold callS
  cases A.ext f with
  | some g => exact Le.refl _
  | none =>
    cases A.fn f with
    | none => exact Le.refl _
    | some af =>
      simp only [body]
      split
      · exact ev_le h hn _ _ _ (fun _ _ => Le.refl _) _
      · exact Le.refl _
theorem callN_le (A : AProg) : ∀ n, LeC (callN A n) (callN A (n + 1))
  | 0 => fun _ _ _ _ h => by simp [callN] at h
  | n + 1 => fun f a o => callS_le A (callN_le A n) (Nat.le_succ n) f a o
theorem callN_mono (A : AProg) {n m : Nat} (h : n ≤ m) : LeC (callN A n) (callN A m) := by
  induction m with
  | zero => obtain rfl : n = 0 := by omega
            exact fun _ _ _ => Le.refl _
  | succ m ih =>
    by_cases e : n = m + 1
    · subst e; exact fun _ _ _ => Le.refl _
    · exact fun f a o r hr => callN_le A m f a o r (ih (by omega) f a o r hr)

/-! ### Without a bound on the rounds -/
open Classical in
noncomputable def lim {α : Type} (g : Nat → Option α) : Option α := if h : ∃ n r, g n = some r then some (Classical.choose (Classical.choose_spec h)) else none
theorem lim_iff {α : Type} {g : Nat → Option α} (hg : ∀ n, Le (g n) (g (n + 1))) {r : α} : lim g = some r ↔ ∃ n, g n = some r := by
  have mono : ∀ n m, n ≤ m → Le (g n) (g m) := by
    intro n m h
    induction m with
    | zero => obtain rfl : n = 0 := by omega
              exact Le.refl _
    | succ m ih =>
      by_cases e : n = m + 1
      · subst e; exact Le.refl _
      · exact fun r hr => hg m r (ih (by omega) r hr)
  unfold lim
  constructor
  · intro h
    split at h
    · rename_i hx
      injection h with h
      subst h
      exact ⟨_, Classical.choose_spec (Classical.choose_spec hx)⟩
    · cases h
  · rintro ⟨n, hn⟩
    have hx : ∃ n r, g n = some r := ⟨n, r, hn⟩
    rw [dif_pos hx]
    have hs := Classical.choose_spec (Classical.choose_spec hx)
    have h1 := mono _ (max n (Classical.choose hx)) (Nat.le_max_right _ _) _ hs
    have h2 := mono n (max n (Classical.choose hx)) (Nat.le_max_left _ _) _ hn
    rw [h1] at h2
    exact h2
noncomputable def call (A : AProg) (f : FuncId) : Fun := fun a o => lim (fun n => callN A n f a o)
theorem call_iff {A : AProg} {f : FuncId} {a : List AV} {o : List (List DV)} {r : Res} : call A f a o = some r ↔ ∃ n, callN A n f a o = some r := lim_iff (fun n => callN_le A n f a o)
/-- A loop, however many rounds. -/
noncomputable def loopW (step : Step) (K : Kt) (st : St) : Option Res := lim (fun n => loopF step n K st)
noncomputable def evW (cl : FuncId → Fun) : ACode → Step
  | .skip => fun K st => K .normal st
  | .rg ops => fun K st => (region cl st ops).bind (K .normal)
  | .rd ops chk => fun K st => (regionD cl st ops chk).bind (K .normal)
  | .seq a b => fun K st => evW cl a (thenK (evW cl b K) K) st
  | .cond c a b => fun K st => match st.val c with | .d (.bool t) => if t then evW cl a K st else evW cl b K st | _ => none
  | .block id a => fun K st => evW cl a (blockK id K) st
  | .loop a => fun K st => loopW (evW cl a) K st
  | .exit id => fun K st => K (.exit id) st
  | .ret => fun K st => K .ret st
theorem evW_le {cl : FuncId → Fun} : ∀ (c : ACode) (K K' : Kt), LeK K K' → ∀ st, Le (evW cl c K st) (evW cl c K' st)
  | .skip, _, _, hK, st => hK _ st
  | .rg ops, _, _, hK, st => Le.bind (Le.refl _) fun st' => hK _ st'
  | .rd ops chk, _, _, hK, st => Le.bind (Le.refl _) fun st' => hK _ st'
  | .seq a b, K, K', hK, st => evW_le a _ _ (thenK_le (evW_le b K K' hK) hK) st
  | .cond c a b, K, K', hK, st => by
    simp only [evW]
    split
    · split
      · exact evW_le a _ _ hK st
      · exact evW_le b _ _ hK st
    · exact Le.refl _
  | .block id a, K, K', hK, st => evW_le a _ _ (blockK_le hK) st
  | .loop a, K, K', hK, st => by
    intro r hr
    have key : ∀ n K K', LeK K K' → ∀ st, Le (loopF (evW cl a) n K st) (loopF (evW cl a) n K' st) := fun n K K' hK st => loopF_le (fun K K' hK st => evW_le a K K' hK st) n n (Nat.le_refl _) K K' hK st
    have mono : ∀ n K st, Le (loopF (evW cl a) n K st) (loopF (evW cl a) (n + 1) K st) := fun n K st => loopF_le (fun K K' hK st => evW_le a K K' hK st) n (n + 1) (Nat.le_succ _) K K (fun _ _ => Le.refl _) st
    obtain ⟨n, hn⟩ := (lim_iff (fun n => mono n K st)).1 hr
    exact (lim_iff (fun n => mono n K' st)).2 ⟨n, key n K K' hK st r hn⟩
  | .exit id, _, _, hK, st => hK _ st
  | .ret, _, _, hK, st => hK _ st
theorem loopF_mono {cl : FuncId → Fun} (a : ACode) (K : Kt) (st : St) (n : Nat) : Le (loopF (evW cl a) n K st) (loopF (evW cl a) (n + 1) K st) :=
  loopF_le (fun K K' hK st => evW_le a K K' hK st) n (n + 1) (Nat.le_succ _) K K (fun _ _ => Le.refl _) st
/-- Chains of what follows. -/
structure Chain (K : Kt) (Kn : Nat → Kt) : Prop where
  mono : ∀ n, LeK (Kn n) (Kn (n + 1))
  lim : ∀ e st r, K e st = some r → ∃ n, Kn n e st = some r
theorem Chain.up {K : Kt} {Kn : Nat → Kt} (h : Chain K Kn) {n m : Nat} (hn : n ≤ m) : LeK (Kn n) (Kn m) := by
  induction m with
  | zero => obtain rfl : n = 0 := by omega
            exact fun _ _ => Le.refl _
  | succ m ih =>
    by_cases e : n = m + 1
    · subst e; exact fun _ _ => Le.refl _
    · exact fun e st r hr => h.mono m e st r (ih (by omega) e st r hr)
theorem Chain.then {K : Kt} {Kn : Nat → Kt} (h : Chain K Kn) {k : St → Option Res} {kn : Nat → St → Option Res} (hm : ∀ n st, Le (kn n st) (kn (n + 1) st)) (hl : ∀ st r, k st = some r → ∃ n, kn n st = some r) :
    Chain (thenK k K) (fun n => thenK (kn n) (Kn n)) := by
  refine ⟨fun n => thenK_le (hm n) (h.mono n), fun e st r hr => ?_⟩
  cases e with
  | normal => exact hl st r hr
  | exit i => exact h.lim _ st r hr
  | ret => exact h.lim _ st r hr
theorem Chain.block {K : Kt} {Kn : Nat → Kt} (h : Chain K Kn) (id : Nat) : Chain (blockK id K) (fun n => blockK id (Kn n)) := by
  refine ⟨fun n => blockK_le (h.mono n), fun e st r hr => ?_⟩
  cases e with
  | normal => exact h.lim _ st r hr
  | ret => exact h.lim _ st r hr
  | exit i =>
    simp only [blockK] at hr ⊢
    split at hr
    · rename_i hi
      obtain ⟨n, hn⟩ := h.lim _ _ _ hr
      exact ⟨n, by rw [if_pos hi]; exact hn⟩
    · rename_i hi
      obtain ⟨n, hn⟩ := h.lim _ _ _ hr
      exact ⟨n, by rw [if_neg hi]; exact hn⟩
theorem evW_compact {cl : FuncId → Fun} : ∀ (c : ACode) (K : Kt) (Kn : Nat → Kt), Chain K Kn → ∀ st r, evW cl c K st = some r → ∃ n, evW cl c (Kn n) st = some r
  | .skip, K, Kn, h, st, r, hr => h.lim _ st r hr
  | .exit id, K, Kn, h, st, r, hr => h.lim _ st r hr
  | .ret, K, Kn, h, st, r, hr => h.lim _ st r hr
  | .rg ops, K, Kn, h, st, r, hr => by
    obtain ⟨st', h1, h2⟩ := Option.bind_eq_some_iff.1 hr
    obtain ⟨n, hn⟩ := h.lim _ _ _ h2
    exact ⟨n, Option.bind_eq_some_iff.2 ⟨st', h1, hn⟩⟩
  | .rd ops chk, K, Kn, h, st, r, hr => by
    obtain ⟨st', h1, h2⟩ := Option.bind_eq_some_iff.1 hr
    obtain ⟨n, hn⟩ := h.lim _ _ _ h2
    exact ⟨n, Option.bind_eq_some_iff.2 ⟨st', h1, hn⟩⟩
  | .seq a b, K, Kn, h, st, r, hr =>
    evW_compact a _ (fun n => thenK (evW cl b (Kn n)) (Kn n)) (h.then (fun n st => evW_le b _ _ (h.mono n) st) (fun st r hr => evW_compact b K Kn h st r hr)) st r hr
  | .cond c a b, K, Kn, h, st, r, hr => by
    simp only [evW] at hr ⊢
    split at hr
    · split at hr
      · rename_i ht; exact (evW_compact a K Kn h st r hr).imp fun n hn => by rw [if_pos ht]; exact hn
      · rename_i ht; exact (evW_compact b K Kn h st r hr).imp fun n hn => by rw [if_neg ht]; exact hn
    · cases hr
  | .block id a, K, Kn, h, st, r, hr => evW_compact a _ _ (h.block id) st r hr
  | .loop a, K, Kn, h, st, r, hr => by
    obtain ⟨m, hm⟩ := (lim_iff (fun n => loopF_mono a K st n)).1 hr
    have key : ∀ m st r, loopF (evW cl a) m K st = some r → ∃ n, loopF (evW cl a) m (Kn n) st = some r := by
      intro m
      induction m with
      | zero => intro st r h; cases h
      | succ m ih =>
        intro st r hr
        exact evW_compact a _ (fun n => thenK (loopF (evW cl a) m (Kn n)) (Kn n)) (h.then (fun n st => loopF_le (fun K K' hK st => evW_le a K K' hK st) m m (Nat.le_refl _) _ _ (h.mono n) st) ih) st r hr
    obtain ⟨n, hn⟩ := key m st r hm
    exact ⟨n, (lim_iff (fun k => loopF_mono a (Kn n) st k)).2 ⟨m, hn⟩⟩
theorem Chain.const (K : Kt) : Chain K (fun _ => K) := ⟨fun _ _ _ => Le.refl _, fun _ _ _ h => ⟨0, h⟩⟩
/-- One round more. -/
theorem loopW_round {cl : FuncId → Fun} {a : ACode} {K : Kt} {st : St} {r : Res} (h : evW cl a (thenK (loopW (evW cl a) K) K) st = some r) : loopW (evW cl a) K st = some r := by
  obtain ⟨n, hn⟩ := evW_compact a _ (fun n => thenK (loopF (evW cl a) n K) K) ((Chain.const K).then (fun n st => loopF_mono a K st n) (fun st r hr => (lim_iff (fun n => loopF_mono a K st n)).1 hr)) st r h
  exact (lim_iff (fun n => loopF_mono a K st n)).2 ⟨n + 1, hn⟩

theorem acall_compact {A : AProg} (i : Nat) (st : St) (f : AV) (args : List AV) {r : Eff} (h : acall (call A) i st f args = some r) : ∃ n, acall (callN A n) i st f args = some r := by
  unfold acall at h ⊢
  obtain ⟨a, h1, h2⟩ := Option.bind_eq_some_iff.1 h
  split at h2
  · rename_i hnd
    obtain ⟨obs, h3, h4⟩ := Option.bind_eq_some_iff.1 h2
    obtain ⟨q, h5, h6⟩ := Option.bind_eq_some_iff.1 h4
    obtain ⟨n, hn⟩ := call_iff.1 h5
    exact ⟨n, Option.bind_eq_some_iff.2 ⟨a, h1, by rw [if_pos hnd]; exact Option.bind_eq_some_iff.2 ⟨obs, h3, Option.bind_eq_some_iff.2 ⟨q, hn, h6⟩⟩⟩⟩
  · cases h2
theorem astep_compact {A : AProg} (i : Nat) (st : St) (op : AOp) {r : Eff} (h : astep (call A) i st op = some r) : ∃ n, astep (callN A n) i st op = some r := by
  cases op <;> first | exact acall_compact _ _ _ _ h | exact ⟨0, h⟩
theorem estep_compact {A : AProg} (i : Nat) (st : St) (o : AOper) {r : Eff} (h : estep (call A) i st o = some r) : ∃ n, estep (callN A n) i st o = some r := by
  unfold estep at h ⊢
  split at h
  · rename_i hw
    obtain ⟨n, hn⟩ := astep_compact _ _ _ h
    exact ⟨n, by rw [if_pos hw]; exact hn⟩
  · rename_i hw
    exact ⟨0, by rw [if_neg hw]; exact h⟩
theorem estepZ_compact {A : AProg} (i : Nat) (st : St) (o : AOper) {r : Eff} (h : estepZ (call A) i st o = some r) : ∃ n, estepZ (callN A n) i st o = some r := by
  unfold estepZ at h ⊢
  split at h
  · rename_i e he
    obtain ⟨n, hn⟩ := estep_compact i st o he
    exact ⟨n, by rw [hn]; exact h⟩
  · rename_i hn
    split at h
    · rename_i n p hop
      exact ⟨0, by rw [estep_ld (cl' := call A) i st o hop, hn]; simp only [hop]; exact h⟩
    · cases h
theorem rgn_compact {A : AProg} : ∀ (l : List AOper) (i : Nat) (st r : St), rgn (call A) i st l = some r → ∃ n, rgn (callN A n) i st l = some r
  | [], _, _, _, h => ⟨0, h⟩
  | o :: l, i, st, r, h => by
    obtain ⟨e, h1, h2⟩ := Option.bind_eq_some_iff.1 h
    obtain ⟨n, hn⟩ := estepZ_compact _ _ _ h1
    obtain ⟨m, hm⟩ := rgn_compact l (i + 1) _ r h2
    exact ⟨max n m, Option.bind_eq_some_iff.2 ⟨e, estepZ_le (callN_mono A (Nat.le_max_left _ _)) _ _ _ _ hn, rgn_le (callN_mono A (Nat.le_max_right _ _)) _ _ _ _ hm⟩⟩
theorem rgF_compact {A : AProg} : ∀ (l : List AOper) (i : Nat) (st : St) (r : St × List Foot), rgF (call A) i st l = some r → ∃ n, rgF (callN A n) i st l = some r
  | [], _, _, _, h => ⟨0, h⟩
  | o :: l, i, st, r, h => by
    obtain ⟨e, h1, h2⟩ := Option.bind_eq_some_iff.1 h
    obtain ⟨q, h3, h4⟩ := Option.bind_eq_some_iff.1 h2
    obtain ⟨n, hn⟩ := estep_compact _ _ _ h1
    obtain ⟨m, hm⟩ := rgF_compact l (i + 1) _ q h3
    exact ⟨max n m, Option.bind_eq_some_iff.2 ⟨e, estep_le (callN_mono A (Nat.le_max_left _ _)) _ _ _ _ hn, Option.bind_eq_some_iff.2 ⟨q, rgF_le (callN_mono A (Nat.le_max_right _ _)) _ _ _ _ hm, h4⟩⟩⟩
theorem ev_compact {A : AProg} : ∀ (c : ACode) (K : Kt) (Kn : Nat → Kt), Chain K Kn → ∀ st r, evW (call A) c K st = some r → ∃ n, ev (callN A n) n c (Kn n) st = some r
  | .skip, K, Kn, h, st, r, hr => h.lim _ st r hr
  | .exit id, K, Kn, h, st, r, hr => h.lim _ st r hr
  | .ret, K, Kn, h, st, r, hr => h.lim _ st r hr
  | .rg ops, K, Kn, h, st, r, hr => by
    obtain ⟨st', h1, h2⟩ := Option.bind_eq_some_iff.1 hr
    obtain ⟨q, h3, h4⟩ := Option.bind_eq_some_iff.1 h1
    obtain ⟨m, hm⟩ := rgn_compact ops _ _ _ h3
    obtain ⟨n, hn⟩ := h.lim _ _ _ h2
    refine ⟨max n m, Option.bind_eq_some_iff.2 ⟨st', Option.bind_eq_some_iff.2 ⟨q, rgn_le (callN_mono A (Nat.le_max_right _ _)) _ _ _ _ hm, h4⟩, h.up (Nat.le_max_left _ _) _ _ _ hn⟩⟩
  | .rd ops chk, K, Kn, h, st, r, hr => by
    obtain ⟨st', h1, h2⟩ := Option.bind_eq_some_iff.1 hr
    obtain ⟨q, h3, h4⟩ := Option.bind_eq_some_iff.1 h1
    obtain ⟨m, hm⟩ := rgF_compact ops _ _ _ h3
    obtain ⟨n, hn⟩ := h.lim _ _ _ h2
    refine ⟨max n m, Option.bind_eq_some_iff.2 ⟨st', Option.bind_eq_some_iff.2 ⟨q, rgF_le (callN_mono A (Nat.le_max_right _ _)) _ _ _ _ hm, h4⟩, h.up (Nat.le_max_left _ _) _ _ _ hn⟩⟩
  | .seq a b, K, Kn, h, st, r, hr =>
    ev_compact a _ (fun n => thenK (ev (callN A n) n b (Kn n)) (Kn n)) (h.then (fun n st => ev_le (callN_le A n) (Nat.le_succ n) b _ _ (h.mono n) st) (fun st r hr => ev_compact b K Kn h st r hr)) st r hr
  | .cond c a b, K, Kn, h, st, r, hr => by
    simp only [evW, ev] at hr ⊢
    split at hr
    · split at hr
      · rename_i ht; exact (ev_compact a K Kn h st r hr).imp fun n hn => by rw [if_pos ht]; exact hn
      · rename_i ht; exact (ev_compact b K Kn h st r hr).imp fun n hn => by rw [if_neg ht]; exact hn
    · cases hr
  | .block id a, K, Kn, h, st, r, hr => ev_compact a _ _ (h.block id) st r hr
  | .loop a, K, Kn, h, st, r, hr => by
    obtain ⟨m, hm⟩ := (lim_iff (fun n => loopF_mono a K st n)).1 hr
    have key : ∀ m st r, loopF (evW (call A) a) m K st = some r → ∃ n, loopF (ev (callN A n) n a) m (Kn n) st = some r := by
      intro m
      induction m with
      | zero => intro st r h; cases h
      | succ m ih =>
        intro st r hr
        exact ev_compact a _ (fun n => thenK (loopF (ev (callN A n) n a) m (Kn n)) (Kn n)) (h.then (fun n st => loopF_le (fun K K' hK st => ev_le (callN_le A n) (Nat.le_succ n) a K K' hK st) m m (Nat.le_refl _) _ _ (h.mono n) st) ih) st r hr
    obtain ⟨n, hn⟩ := key m st r hm
    refine ⟨max n m, ?_⟩
    exact loopF_le (fun K K' hK st => ev_le (callN_mono A (Nat.le_max_left _ _)) (Nat.le_max_left _ _) a K K' hK st) m (max n m) (Nat.le_max_right _ _) _ _ (h.up (Nat.le_max_left _ _)) st r hn
/-- A call comes to what its body comes to. -/
theorem call_body {A : AProg} {f : FuncId} {af : AFun} (he : A.ext f = none) (hf : A.fn f = some af) {args : List AV} {obs : List (List DV)} {r : Res} (hl : args.length = af.np)
    (h : evW (call A) af.code (finalK af.res obs.length) (init args obs) = some r) : call A f args obs = some r := by
  obtain ⟨n, hn⟩ := ev_compact af.code _ _ (Chain.const _) _ _ h
  refine call_iff.2 ⟨n + 1, ?_⟩
  simp only [callN, callS, he, hf, body, hl, if_true]
  exact hn
theorem call_ext {A : AProg} {f : FuncId} {g : Fun} (he : A.ext f = some g) (args : List AV) (obs : List (List DV)) : call A f args obs = g args obs := by
  have h1 : ∀ n, callN A (n + 1) f args obs = g args obs := fun n => by simp only [callN, callS, he]
  cases hg : g args obs with
  | some r => exact call_iff.2 ⟨1, (h1 0).trans hg⟩
  | none =>
    cases hc : call A f args obs with
    | none => rfl
    | some r =>
      obtain ⟨n, hn⟩ := call_iff.1 hc
      cases n with
      | zero => simp [callN] at hn
      | succ n => rw [h1, hg] at hn; cases hn
end Go.Ae
