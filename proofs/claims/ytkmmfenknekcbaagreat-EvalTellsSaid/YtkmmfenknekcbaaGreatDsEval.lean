/-
  WHAT AN EXPRESSION IS, WITHOUT A PROGRAM: chapter 6 as one function.
-/
import Derived.Test.YtkmmfenknekcbaaGreatDsDec
import Derived.Test.YtkmmfenknekcbaaGreatDsVal
set_option linter.unusedSimpArgs false
set_option linter.unusedVariables false
namespace Go.Ds
open Go.Ae
abbrev nullV : V := .mk 0 false 0 0 [] []
abbrev truthV (b : Bool) : V := .mk 1 b 0 0 [] []
abbrev numV (m s : Int) : V := .mk 2 false m s [] []
abbrev textV (t : Str) : V := .mk 3 false 0 0 t []
abbrev listV (l : List V) : V := .mk 4 false 0 0 [] l
def isTru (v : V) : Bool := decide (v.k = 1) && v.b
def isFal (v : V) : Bool := decide (v.k = 1) && !v.b
def andV (a b : V) : V := if isFal a || isFal b then truthV false else if isTru a && isTru b then truthV true else nullV
def notV (a : V) : V := if a.k = 1 then truthV (!a.b) else nullV
def orV (a b : V) : V := if isTru a || isTru b then truthV true else if isFal a && isFal b then truthV false else nullV
theorem orV_eq (a b : V) : notV (andV (notV a) (notV b)) = orV a b := by
  rcases a with ⟨k, b1, m, s, t, l⟩
  rcases b with ⟨k', b2, m', s', t', l'⟩
  by_cases h : k = 1 <;> by_cases h' : k' = 1 <;> cases b1 <;> cases b2 <;> simp [orV, andV, notV, isTru, isFal, V.k, V.b, h, h']
def allK (k : Int) (l : List V) : Bool := l.all fun v => decide (v.k = k)
/-- The words of the language. -/
abbrev wEq : Str := [61]
abbrev wNe : Str := [33, 61]
abbrev wLt : Str := [60]
abbrev wLe : Str := [60, 61]
abbrev wGt : Str := [62]
abbrev wGe : Str := [62, 61]
abbrev wAnd : Str := [97, 110, 100]
abbrev wOr : Str := [111, 114]
abbrev wPlus : Str := [43]
abbrev wMinus : Str := [45]
abbrev wTimes : Str := [42]
abbrev wBy : Str := [47]
abbrev wMin : Str := [109, 105, 110]
abbrev wMax : Str := [109, 97, 120]
abbrev wSum : Str := [115, 117, 109]
abbrev wCat : Str := [99, 97, 116]
abbrev wNot : Str := [110, 111, 116]
abbrev wLen : Str := [108, 101, 110]
abbrev wCount : Str := [99, 111, 117, 110, 116]
abbrev wAbs : Str := [97, 98, 115]
abbrev wFloor : Str := [102, 108, 111, 111, 114]
abbrev wCeil : Str := [99, 101, 105, 108]
abbrev wHas : Str := [104, 97, 115]
abbrev wMod : Str := [109, 111, 100]
def relV (op : Str) (a b : V) : V :=
  if op = wEq then truthV (decide (cmpV a b = 0)) else if op = wNe then truthV (!decide (cmpV a b = 0))
  else if ¬ (a.k = b.k ∧ (a.k = 2 ∨ a.k = 3)) then nullV
  else if op = wLt then truthV (decide (cmpV a b < 0)) else if op = wLe then truthV (decide (cmpV a b ≤ 0))
  else if op = wGt then truthV (decide (0 < cmpV a b)) else if op = wGe then truthV (decide (0 ≤ cmpV a b)) else nullV
def foundV (r : (Int × Int) × Int) : V × Int := if r.2 ≠ 0 then (nullV, r.2) else (numV r.1.1 r.1.2, 0)
def catV (t : Str) : V × Int := if t.length > 16 then (nullV, 3) else (textV t, 0)
def arithV (op : Str) (a b : V) : V × Int :=
  if op = wPlus then foundV (addP a.m a.s b.m b.s) else if op = wMinus then foundV (addP a.m a.s (-b.m) b.s)
  else if op = wTimes then foundV (mulP a.m a.s b.m b.s) else if b.m = 0 then (nullV, 0) else foundV (divP a.m a.s b.m b.s)
def binV (op : Str) (a b : V) : V × Int :=
  if op = wAnd then (andV a b, 0) else if op = wOr then (orV a b, 0)
  else if op = wPlus ∨ op = wMinus ∨ op = wTimes ∨ op = wBy then
    if a.k = 2 ∧ b.k = 2 then arithV op a b else if op = wPlus ∧ a.k = 3 ∧ b.k = 3 then catV (a.t ++ b.t) else (nullV, 0)
  else (relV op a b, 0)
mutual
def nestV : V → Nat
  | .mk k _ _ _ _ l => if k = 4 then nestVs l + 1 else 0
def nestVs : List V → Nat
  | [] => 0
  | v :: l => max (nestV v) (nestVs l)
end
def mklistV (l : List V) : V × Int := if l.length > 8 ∨ nestV (listV l) > 2 then (nullV, 3) else (listV l, 0)
/-- The least (sign 1), the greatest (sign -1), behind x. -/
def leastV (sign : Int) : V → List V → V
  | x, [] => x
  | x, v :: l => leastV sign (if cmpV v x * sign < 0 then v else x) l
def sumV : Int → Int → List V → V × Int
  | m, s, [] => (numV m s, 0)
  | m, s, v :: l => if (addP m s v.m v.s).2 ≠ 0 then (nullV, (addP m s v.m v.s).2) else sumV (addP m s v.m v.s).1.1 (addP m s v.m v.s).1.2 l
/-- One List: its elements; else they. -/
def elemsV (l : List V) : List V := match l with
  | [v] => if v.k = 4 then v.l else l
  | _ => l
def manyV (name : Str) (l : List V) : V × Int :=
  if allK 2 (elemsV l) then if name = wSum then (if l = [] then (nullV, 0) else sumV 0 0 (elemsV l)) else match elemsV l with
    | [] => (nullV, 0)
    | x :: r => (leastV (if name = wMin then 1 else -1) x r, 0)
  else (nullV, 0)
def catAll : List V → Str
  | [] => []
  | v :: l => v.t ++ catAll l
def oneV (name : Str) (v : V) : V :=
  if name = wNot then notV v else if name = wLen ∧ v.k = 3 then numV v.t.length 0 else if name = wCount ∧ v.k = 4 then numV v.l.length 0
  else if v.k ≠ 2 then nullV else if name = wAbs then numV (if v.m < 0 then -v.m else v.m) v.s else if name = wFloor then numV (v.m / 10 ^ v.s.toNat) 0
  else if name = wCeil then numV (-(-v.m / 10 ^ v.s.toNat)) 0 else nullV
/-- What is left, with the divisor's sign. -/
def modP (a b : Int) : Int := if a.tmod b ≠ 0 ∧ decide (a.tmod b < 0) ≠ decide (b < 0) then a.tmod b + b else a.tmod b
def twoV (name : Str) (a b : V) : V :=
  if name = wHas ∧ a.k = 4 then truthV (a.l.any fun x => decide (cmpV x b = 0))
  else if name = wMod ∧ a.k = 2 ∧ b.k = 2 ∧ a.s = 0 ∧ b.s = 0 ∧ b.m ≠ 0 then numV (modP a.m b.m) 0 else nullV
def callV (name : Str) (l : List V) : V × Int :=
  if name = wMin ∨ name = wMax ∨ name = wSum then manyV name l
  else if name = wCat then (if l = [] ∨ allK 3 l = false then (nullV, 0) else catV (catAll l))
  else match l with
    | [v] => (oneV name v, 0)
    | [a, b] => (twoV name a b, 0)
    | _ => (nullV, 0)
def withinV (lo hi : Bool) (v a b : V) : V := andV (relV (if lo then wGe else wGt) v a) (relV (if hi then wLe else wLt) v b)
/-- An expression: its kind, truth, decimal, text, ends, kids. -/
inductive E where
  | mk (k : Int) (b : Bool) (m s : Int) (t : Str) (lo hi : Bool) (l : List E)
  deriving Inhabited
def E.k : E → Int | .mk k _ _ _ _ _ _ _ => k
mutual
def encE : E → List DV
  | .mk k b m s t lo hi l => [.int .i64 k, .bool b, .int .i64 m, .int .i64 s, .str t, .bool lo, .bool hi, .sl (encEs l)]
def encEs : List E → List (List DV)
  | [] => []
  | e :: l => encE e :: encEs l
end
theorem encEs_eq : ∀ l : List E, encEs l = l.map encE
  | [] => rfl
  | v :: l => by simp [encEs, encEs_eq l]
theorem encE_mk (k : Int) (b : Bool) (m s : Int) (t : Str) (lo hi : Bool) (l : List E) : encE (.mk k b m s t lo hi l) = [.int .i64 k, .bool b, .int .i64 m, .int .i64 s, .str t, .bool lo, .bool hi, .sl (l.map encE)] := by rw [encE, encEs_eq]
@[simp] theorem encE_len : ∀ v : E, (encE v).length = 8
  | .mk _ _ _ _ _ _ _ _ => by rw [encE_mk]; rfl
@[simp] theorem takeN_encE (v : E) : takeN 8 (encE v) = some (encE v) := takeN_all (encE_len v)
theorem E.sizeOf_mem {e : E} {k : Int} {b : Bool} {m s : Int} {t : Str} {lo hi : Bool} {l : List E} (h : e ∈ l) : SizeOf.sizeOf e < SizeOf.sizeOf (E.mk k b m s t lo hi l) := by
  have := List.sizeOf_lt_of_mem h
  simp
  omega
theorem E.ind {p : E → Prop} (h : ∀ k b m s t lo hi l, (∀ e ∈ l, p e) → p (.mk k b m s t lo hi l)) : ∀ e, p e
  | .mk k b m s t lo hi l => h k b m s t lo hi l fun e he => E.ind h e
termination_by e => SizeOf.sizeOf e
decreasing_by exact E.sizeOf_mem he
/-- How many kids a kind has; -1: any; -2: it is none. -/
def kidsN (k : Int) : Int := if k = 1 ∨ k = 2 ∨ k = 3 ∨ k = 4 ∨ k = 5 then 0 else if k = 7 then 1 else if k = 6 then 2 else if k = 8 ∨ k = 11 then 3 else if k = 9 ∨ k = 10 then -1 else -2
/-- May it be, but for its kids? -/
def mayE (k m s : Int) (t : Str) (n : Nat) : Bool :=
  decide (kidsN k ≠ -2) && (decide (kidsN k ≤ 0) || decide (kidsN k = (n : Int))) && (decide (k ≠ 3) || isD m s) && (decide (k ≠ 4) || isT t)
abbrev Env := List (Str × V)
def nameV (t : Str) : Env → V
  | [] => nullV
  | (s, v) :: env => if s = t then v else nameV t env
def leafV (env : Env) (k : Int) (b : Bool) (m s : Int) (t : Str) : V :=
  if k = 2 then truthV b else if k = 3 then numV m s else if k = 4 then textV t else if k = 5 then nameV t env else nullV
def ofV (k : Int) (t : Str) (lo hi : Bool) (l : List V) : V × Int :=
  if k = 6 then binV t l[0]! l[1]! else if k = 7 then binV wMinus (numV 0 0) l[0]! else if k = 9 then mklistV l else if k = 11 then (withinV lo hi l[0]! l[1]! l[2]!, 0) else callV t l
mutual
def evalS (env : Env) : E → V × Int
  | .mk k b m s t lo hi l =>
    if mayE k m s t l.length = false then (nullV, 1)
    else if k = 8 then evalIf env l
    else if kidsN k = 0 then (leafV env k b m s t, 0)
    else if (evalAll env l).2 ≠ 0 then (nullV, (evalAll env l).2) else ofV k t lo hi (evalAll env l).1
def evalIf (env : Env) : List E → V × Int
  | c :: x :: y :: _ => if (evalS env c).2 ≠ 0 then (nullV, (evalS env c).2) else if isTru (evalS env c).1 then evalS env x else evalS env y
  | _ => (nullV, 1)
def evalAll (env : Env) : List E → List V × Int
  | [] => ([], 0)
  | e :: l => if (evalS env e).2 ≠ 0 then ([], (evalS env e).2) else if (evalAll env l).2 ≠ 0 then ([], (evalAll env l).2) else ((evalS env e).1 :: (evalAll env l).1, 0)
end
end Go.Ds
