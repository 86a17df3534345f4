/-
  THE DATA OF THE LAWS, WITHOUT A PROGRAM: values, expressions; how they lie in cells; which may be; how they stand to one another.
-/
import Derived.Test.YtkmmfenknekcbaaGreatAe
set_option linter.unusedSimpArgs false
set_option linter.unusedVariables false
namespace Go.Ds
open Go.Ae
abbrev Str := List UInt8
/-- A value: its kind, truth, mantissa, scale, text, elements. -/
inductive V where
  | mk (k : Int) (b : Bool) (m s : Int) (t : Str) (l : List V)
  deriving Inhabited
def V.k : V → Int | .mk k _ _ _ _ _ => k
def V.b : V → Bool | .mk _ b _ _ _ _ => b
def V.m : V → Int | .mk _ _ m _ _ _ => m
def V.s : V → Int | .mk _ _ _ s _ _ => s
def V.t : V → Str | .mk _ _ _ _ t _ => t
def V.l : V → List V | .mk _ _ _ _ _ l => l
mutual
def encV : V → List DV
  | .mk k b m s t l => [.int .i64 k, .bool b, .int .i64 m, .int .i64 s, .str t, .sl (encVs l)]
def encVs : List V → List (List DV)
  | [] => []
  | v :: l => encV v :: encVs l
end
theorem encVs_eq : ∀ l : List V, encVs l = l.map encV
  | [] => rfl
  | v :: l => by simp [encVs, encVs_eq l]
theorem encV_mk (k : Int) (b : Bool) (m s : Int) (t : Str) (l : List V) : encV (.mk k b m s t l) = [.int .i64 k, .bool b, .int .i64 m, .int .i64 s, .str t, .sl (l.map encV)] := by rw [encV, encVs_eq]
@[simp] theorem encV_len : ∀ v : V, (encV v).length = 6
  | .mk _ _ _ _ _ _ => by rw [encV_mk]; rfl
theorem takeN_all {α : Type} : ∀ {n : Nat} {l : List α}, l.length = n → takeN n l = some l
  | _, [], rfl => rfl
  | _, x :: l, rfl => by simp [takeN, takeN_all (l := l) rfl]
@[simp] theorem takeN_encV (v : V) : takeN 6 (encV v) = some (encV v) := takeN_all (encV_len v)
@[simp] theorem takeN_dV (v : V) : takeN 6 ((encV v).map AV.d) = some ((encV v).map AV.d) := takeN_all (by rw [List.length_map, encV_len])
theorem allD_map : ∀ l : List DV, allD (l.map AV.d) = some l
  | [] => rfl
  | x :: l => by simp [allD, AV.toD, allD_map l]
@[simp] theorem allD_dV (v : V) : allD ((encV v).map AV.d) = some (encV v) := allD_map _
theorem over_all {α : Type} : ∀ {cs vs : List α}, cs.length = vs.length → over cs 0 vs = some vs
  | [], [], _ => rfl
  | _ :: cs, v :: vs, h => by simp [over, over_all (cs := cs) (vs := vs) (by simpa using h)]
@[simp] theorem over_dV (a b c d e f : AV) (v : V) : over [a, b, c, d, e, f] 0 ((encV v).map AV.d) = some ((encV v).map AV.d) := over_all (by rw [List.length_map, encV_len]; rfl)
/-- Values in an object's cells, one behind the other. -/
def cellsL (l : List V) : List AV := (l.map encV).flatten.map AV.d
theorem flat_len6 (l : List V) : (l.map encV).flatten.length = l.length * 6 := by
  induction l with
  | nil => rfl
  | cons v l ih => simp [ih, encV_len, Nat.add_mul, Nat.add_comm]
theorem cellsL_len (l : List V) : (cellsL l).length = l.length * 6 := by rw [cellsL, List.length_map, flat_len6]
theorem cellsL_cons (v : V) (l : List V) : cellsL (v :: l) = (encV v).map AV.d ++ cellsL l := by simp [cellsL]
theorem takeN_app {α : Type} : ∀ {n : Nat} {l m : List α}, l.length = n → takeN n (l ++ m) = some l
  | _, [], _, rfl => by simp [takeN]
  | _, x :: l, m, rfl => by simp [takeN, takeN_app (l := l) rfl]
theorem drop_cells : ∀ {l : List V} {i : Nat}, (cellsL l).drop (i * 6) = cellsL (l.drop i)
  | [], i => by simp [cellsL]
  | v :: l, 0 => by simp
  | v :: l, i + 1 => by
    rw [cellsL_cons, show (i + 1) * 6 = ((encV v).map AV.d).length + i * 6 by rw [List.length_map, encV_len]; omega, List.drop_append, List.drop_of_length_le (by omega)]
    simp [drop_cells (l := l) (i := i)]
theorem take_cells {l : List V} {i : Nat} (h : i < l.length) : takeN 6 ((cellsL l).drop (i * 6)) = some ((encV l[i]).map AV.d) := by
  rw [drop_cells, List.drop_eq_getElem_cons h, cellsL_cons, takeN_app (by rw [List.length_map, encV_len])]
theorem over_app {α : Type} : ∀ {a b c d : List α} {n : Nat}, a.length = n → b.length = c.length → over (a ++ (b ++ d)) n c = some (a ++ (c ++ d))
  | [], [], [], d, _, rfl, _ => by cases d <;> simp [over]
  | [], x :: b, y :: c, d, _, rfl, h => by
    have := over_app (a := []) (b := b) (c := c) (d := d) (n := 0) rfl (by simpa using h)
    simp only [List.nil_append] at this
    simp [over, this]
  | x :: a, b, c, d, _, rfl, h => by simp [over, over_app (a := a) (b := b) (c := c) (d := d) rfl h]
/-- An element is written over. -/
theorem over_cells {l : List V} {i : Nat} (h : i < l.length) (v : V) : over (cellsL l) (i * 6) ((encV v).map AV.d) = some (cellsL (l.set i v)) := by
  have e : l = l.take i ++ (l[i] :: l.drop (i + 1)) := by rw [← List.drop_eq_getElem_cons h, List.take_append_drop]
  have ca : ∀ a b : List V, cellsL (a ++ b) = cellsL a ++ cellsL b := fun a b => by simp [cellsL]
  have hl : (l.take i).length = i := by simp; omega
  conv => lhs; rw [e, ca, cellsL_cons]
  rw [over_app (by rw [cellsL_len, hl]) (by rw [List.length_map, List.length_map, encV_len, encV_len]), List.set_eq_take_append_cons_drop, if_pos h, ca, cellsL_cons]
theorem allD_cells (l : List V) : allD (cellsL l) = some (l.map encV).flatten := allD_map _
theorem chunks_cells : ∀ l : List V, chunks 6 l.length (l.map encV).flatten = some (l.map encV)
  | [] => rfl
  | v :: l => by
    have h : takeN 6 (encV v ++ (l.map encV).flatten) = some (encV v) := takeN_app (encV_len v)
    have h2 : (encV v ++ (l.map encV).flatten).drop 6 = (l.map encV).flatten := by
      rw [List.drop_append, List.drop_of_length_le (by rw [encV_len]; omega), encV_len]; simp
    simp only [List.length_cons, chunks, List.map_cons, List.flatten_cons, h, h2, Option.bind_some, chunks_cells l, Option.map_some]
theorem V.sizeOf_mem {v : V} {k : Int} {b : Bool} {m s : Int} {t : Str} {l : List V} (h : v ∈ l) : SizeOf.sizeOf v < SizeOf.sizeOf (V.mk k b m s t l) := by
  have := List.sizeOf_lt_of_mem h
  simp
  omega
/-- By its elements. -/
theorem V.ind {p : V → Prop} (h : ∀ k b m s t l, (∀ v ∈ l, p v) → p (.mk k b m s t l)) : ∀ v, p v
  | .mk k b m s t l => h k b m s t l fun v hv => V.ind h v
termination_by v => SizeOf.sizeOf v
decreasing_by exact V.sizeOf_mem hv

/-- The longest that is read. -/
def reach : Nat := 140737488351232
mutual
/-- As it can be read: numbers within an int, no text and no list longer than memory. -/
def wfV : V → Prop
  | .mk k _ m s t l => (-9223372036854775808 ≤ k ∧ k ≤ 9223372036854775807) ∧ (-9223372036854775808 ≤ m ∧ m ≤ 9223372036854775807) ∧ (-9223372036854775808 ≤ s ∧ s ≤ 9223372036854775807) ∧ t.length ≤ reach ∧ l.length * 72 ≤ reach ∧ wfVs l
def wfVs : List V → Prop
  | [] => True
  | v :: l => wfV v ∧ wfVs l
end
theorem wfVs_iff : ∀ {l : List V}, wfVs l ↔ ∀ v ∈ l, wfV v
  | [] => by simp [wfVs]
  | v :: l => by simp [wfVs, wfVs_iff (l := l)]
mutual
/-- How many values and letters. -/
def bulkV : V → Nat
  | .mk _ _ _ _ t l => t.length + bulkVs l + 1
def bulkVs : List V → Nat
  | [] => 0
  | v :: l => bulkV v + bulkVs l
end
/-- May a decimal be? -/
def isD (m s : Int) : Bool := decide (-1000000000 ≤ m) && decide (m ≤ 1000000000) && decide (0 ≤ s) && decide (s ≤ 4) && (decide (s = 0) || decide (m.tmod 10 ≠ 0))
/-- May a byte be in a text? -/
def isC (c : UInt8) : Bool := decide (32 ≤ c.toNat) && decide (c.toNat ≤ 126) && decide (c.toNat ≠ 34)
def isT (t : Str) : Bool := decide (t.length ≤ 16) && t.all isC
/-- What the kind does not name is nought. -/
def bare (k : Int) (b : Bool) (m s : Int) (t : Str) (n : Nat) : Bool := (decide (k = 1) || !b) && (decide (k = 2) || (decide (m = 0) && decide (s = 0))) && (decide (k = 3) || decide (t = [])) && (decide (k = 4) || decide (n = 0))
mutual
/-- May a value be, with so many lists about it? -/
def isV : V → Nat → Bool
  | .mk k b m s t l, n => bare k b m s t l.length && (decide (k = 0) || decide (k = 1) || (decide (k = 2) && isD m s) || (decide (k = 3) && isT t) || (decide (k = 4) && decide (n < 2) && decide (l.length ≤ 8) && isVs l (n + 1)))
def isVs : List V → Nat → Bool
  | [], _ => true
  | v :: l, n => isV v n && isVs l n
end
theorem isVs_eq : ∀ (l : List V) (n : Nat), isVs l n = l.all fun v => isV v n
  | [], _ => rfl
  | v :: l, n => by simp [isVs, isVs_eq l n]

/-- What is in a value that may be, may be. -/
theorem isV_elems {k : Int} {b : Bool} {m s : Int} {t : Str} {l : List V} {n : Nat} (h : isV (.mk k b m s t l) n = true) : ∀ v ∈ l, isV v (n + 1) = true := by
  simp only [isV, isVs_eq, bare, Bool.and_eq_true, Bool.or_eq_true, decide_eq_true_eq] at h
  intro v hv
  obtain ⟨⟨⟨⟨_, _⟩, _⟩, h4⟩, h5⟩ := h
  have hne : l.length ≠ 0 := fun e => by rw [List.length_eq_zero_iff.1 e] at hv; simp at hv
  have hk : k = 4 := h4.resolve_right hne
  rcases h5 with h5 | h5
  · subst hk; simp at h5
  · exact List.all_eq_true.1 h5.2 v hv

/-- -1, 0, 1. -/
def ord (a b : Int) : Int := if a < b then -1 else if b < a then 1 else 0
def ordT (a b : Str) : Int := if bytesLt a b then -1 else if bytesLt b a then 1 else 0
def bi (b : Bool) : Int := if b then 1 else 0
/-- A decimal in ten-thousandths. -/
def tt (m s : Int) : Int := m * 10 ^ (4 - s).toNat
mutual
def cmpV : V → V → Int
  | .mk k b m s t l, .mk k' b' m' s' t' l' => if k ≠ k' then ord k k' else if k = 1 then bi b - bi b' else if k = 2 then ord (tt m s) (tt m' s') else if k = 3 then ordT t t' else cmpVs l l'
def cmpVs : List V → List V → Int
  | [], [] => 0
  | [], _ :: _ => -1
  | _ :: _, [] => 1
  | v :: l, v' :: l' => if cmpV v v' ≠ 0 then cmpV v v' else cmpVs l l'
end
end Go.Ds
