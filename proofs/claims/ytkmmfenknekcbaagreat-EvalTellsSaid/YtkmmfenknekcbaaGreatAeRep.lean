/-
  WHAT THE EVALUATOR's VALUES SAY OF THE MODEL's: a value, in a world, by cells that are held still ('Pr'), objects' blocks, rows of one's own.
-/
import Derived.Test.YtkmmfenknekcbaaGreatAeComp
import Derived.Maps.AppendAt
set_option linter.unusedSimpArgs false
set_option linter.unusedVariables false
namespace Go.Ae

inductive All2 {α β : Type} (R : α → β → Prop) : List α → List β → Prop
  | nil : All2 R [] []
  | cons {x : α} {y : β} {l : List α} {m : List β} (h : R x y) (t : All2 R l m) : All2 R (x :: l) (y :: m)
theorem All2.length {α β : Type} {R : α → β → Prop} {l : List α} {m : List β} (h : All2 R l m) : l.length = m.length := by
  induction h with
  | nil => rfl
  | cons _ _ ih => simp [ih]
theorem All2.imp {α β : Type} {R S : α → β → Prop} {l : List α} {m : List β} (h : All2 R l m) (f : ∀ x y, R x y → S x y) : All2 S l m := by
  induction h with
  | nil => exact .nil
  | cons h _ ih => exact .cons (f _ _ h) ih
theorem All2.get {α β : Type} {R : α → β → Prop} {l : List α} {m : List β} (h : All2 R l m) : ∀ {i : Nat} {x : α}, l[i]? = some x → ∃ y, m[i]? = some y ∧ R x y := by
  induction h with
  | nil => intro i x hx; simp at hx
  | cons h _ ih =>
    intro i x hx
    cases i with
    | zero => simp at hx; subst hx; exact ⟨_, rfl, h⟩
    | succ i => simp at hx; simpa using ih hx
theorem All2.app {α β : Type} {R : α → β → Prop} {l l' : List α} {m m' : List β} (h : All2 R l m) (h' : All2 R l' m') : All2 R (l ++ l') (m ++ m') := by
  induction h with
  | nil => exact h'
  | cons h _ ih => exact .cons h ih
theorem All2.drop {α β : Type} {R : α → β → Prop} {l : List α} {m : List β} (h : All2 R l m) (n : Nat) : All2 R (l.drop n) (m.drop n) := by
  induction h generalizing n with
  | nil => simp; exact .nil
  | cons h t ih =>
    cases n with
    | zero => exact .cons h t
    | succ n => simpa using ih n
theorem All2.takeN {α β : Type} {R : α → β → Prop} : ∀ {n : Nat} {l l' : List α} {m : List β}, All2 R l m → takeN n l = some l' → All2 R l' (m.take n) ∧ l'.length = n ∧ n ≤ m.length
  | 0, _, _, _, _, h => by simp [Ae.takeN] at h; subst h; simp; exact .nil
  | n + 1, _, _, _, .nil, h => by simp [Ae.takeN] at h
  | n + 1, _ :: l, _, _ :: m, .cons h0 t, h => by
    simp only [Ae.takeN, Option.map_eq_some_iff] at h
    obtain ⟨r, h1, rfl⟩ := h
    obtain ⟨h2, h3, h4⟩ := All2.takeN t h1
    exact ⟨.cons h0 h2, by simp [h3], by simp; omega⟩
theorem All2.over {α β : Type} {R : α → β → Prop} : ∀ {n : Nat} {l l' v : List α} {m u : List β}, All2 R l m → All2 R v u → over l n v = some l' → All2 R l' (m.take n ++ u ++ m.drop (n + u.length)) ∧ n + u.length ≤ m.length
  | 0, _, _, _, _, _, h, .nil, ho => by
    cases h with
    | nil => simp [Ae.over] at ho; subst ho; simp; exact .nil
    | cons h t => simp [Ae.over] at ho; subst ho; simp; exact .cons h t
  | 0, _, _, _, _, _, .nil, .cons _ _, ho => by simp [Ae.over] at ho
  | 0, _, _, _, _, _, .cons h t, .cons hv tv, ho => by
    simp only [Ae.over, Option.map_eq_some_iff] at ho
    obtain ⟨r, h1, rfl⟩ := ho
    obtain ⟨h2, h3⟩ := All2.over (n := 0) t tv h1
    refine ⟨?_, by simp at h3 ⊢; omega⟩
    simp at h2 ⊢
    exact .cons hv (by simpa [Nat.add_comm] using h2)
  | n + 1, _, _, _, _, _, .nil, _, ho => by simp [Ae.over] at ho
  | n + 1, _, _, _, _, _, .cons h t, hv, ho => by
    simp only [Ae.over, Option.map_eq_some_iff] at ho
    obtain ⟨r, h1, rfl⟩ := ho
    obtain ⟨h2, h3⟩ := All2.over (n := n) t hv h1
    refine ⟨?_, by simp at h3 ⊢; omega⟩
    simp only [List.take_succ_cons, List.cons_append, Nat.add_right_comm n 1, List.drop_succ_cons]
    exact .cons h h2

/-- The same of a beginning. -/
inductive Pre {α β : Type} (R : α → β → Prop) : List α → List β → Prop
  | mk {l : List α} {us rest : List β} (h : All2 R l us) : Pre R l (us ++ rest)
theorem Pre.of {α β : Type} {R : α → β → Prop} {l : List α} {m : List β} (h : All2 R l m) : Pre R l m := by
  have := Pre.mk (rest := []) h
  rwa [List.append_nil] at this
theorem Pre.imp {α β : Type} {R S : α → β → Prop} {l : List α} {m : List β} (h : Pre R l m) (f : ∀ x y, R x y → S x y) : Pre S l m := by
  cases h with
  | mk h => exact .mk (h.imp f)
theorem Pre.get {α β : Type} {R : α → β → Prop} {l : List α} {m : List β} (h : Pre R l m) {i : Nat} {x : α} (hx : l[i]? = some x) : ∃ y, m[i]? = some y ∧ R x y := by
  cases h with
  | @mk us rest h =>
    obtain ⟨y, h1, h2⟩ := h.get hx
    exact ⟨y, by rw [List.getElem?_append_left (List.getElem?_eq_some_iff.1 h1).1]; exact h1, h2⟩
theorem Pre.drop {α β : Type} {R : α → β → Prop} {l : List α} {m : List β} (h : Pre R l m) (n : Nat) : Pre R (l.drop n) (m.drop n) := by
  cases h with
  | @mk us rest h =>
    rw [List.drop_append]
    exact .mk (h.drop n)
theorem Pre.takeN {α β : Type} {R : α → β → Prop} {n : Nat} {l l' : List α} {m : List β} (h : Pre R l m) (hn : takeN n l = some l') : All2 R l' (m.take n) ∧ l'.length = n ∧ n ≤ m.length := by
  cases h with
  | @mk us rest h =>
    obtain ⟨h1, h2, h3⟩ := h.takeN hn
    refine ⟨by rw [List.take_append_of_le_length h3]; exact h1, h2, by simp; omega⟩
theorem Pre.over {α β : Type} {R : α → β → Prop} {n : Nat} {l l' v : List α} {m u : List β} (h : Pre R l m) (hv : All2 R v u) (ho : over l n v = some l') : Pre R l' (m.take n ++ u ++ m.drop (n + u.length)) ∧ n + u.length ≤ m.length := by
  cases h with
  | @mk us rest h =>
    obtain ⟨h1, h2⟩ := h.over hv ho
    refine ⟨?_, by simp; omega⟩
    rw [List.take_append_of_le_length (by omega), List.drop_append_of_le_length h2, ← List.append_assoc]
    exact .mk h1
mutual
/-- Data, in a world whose cells in Pr are held still. -/
inductive RD (w : World) (Pr : Nat → Nat → Prop) : DV → Value → Prop
  | int (k : IntKind) (n : Int) : RD w Pr (.int k n) (.int k n)
  | bool (b : Bool) : RD w Pr (.bool b) (.bool b)
  | str (s : List UInt8) : RD w Pr (.str s) (.string ⟨s.toArray⟩)
  | sl (xs : List (List DV)) (A : Option Addr) (c sz b o : Nat) (hc : xs.length ≤ c) (hsz : ∀ x ∈ xs, x.length = sz) (hA : xs ≠ [] → A = some ⟨b, o, none⟩) (h : RC w Pr b o xs.flatten) : RD w Pr (.sl xs) (.slice A xs.length c)
/-- Cells, one behind the other. -/
inductive RC (w : World) (Pr : Nat → Nat → Prop) : Nat → Nat → List DV → Prop
  | nil (b o : Nat) : RC w Pr b o []
  | cons (b o : Nat) (x : DV) (v : Value) (l : List DV) (hp : Pr b o) (hc : w.cell? ⟨b, o, none⟩ = some v) (h : RD w Pr x v) (t : RC w Pr b (o + 1) l) : RC w Pr b o (x :: l)
end

theorem RD.one {w : World} {Pr : Nat → Nat → Prop} {x : DV} {v : Value} (h : RD w Pr x v) : v.oneCell' = true := by cases h <;> rfl
theorem RD.cells {w : World} {Pr : Nat → Nat → Prop} {x : DV} {v : Value} (h : RD w Pr x v) : v.cells = #[v] := by cases h <;> rfl
mutual
theorem RD.move {w w' : World} {Pr Pr' : Nat → Nat → Prop} (hw : ∀ b j, Pr b j → w'.cell? ⟨b, j, none⟩ = w.cell? ⟨b, j, none⟩) (hp : ∀ b j, Pr b j → Pr' b j) {x : DV} {v : Value} : RD w Pr x v → RD w' Pr' x v
  | .int k n => .int k n
  | .bool b => .bool b
  | .str s => .str s
  | .sl xs A c sz b o hc hsz hA h => .sl xs A c sz b o hc hsz hA (RC.move hw hp h)
theorem RC.move {w w' : World} {Pr Pr' : Nat → Nat → Prop} (hw : ∀ b j, Pr b j → w'.cell? ⟨b, j, none⟩ = w.cell? ⟨b, j, none⟩) (hp : ∀ b j, Pr b j → Pr' b j) {b o : Nat} {l : List DV} : RC w Pr b o l → RC w' Pr' b o l
  | .nil b o => .nil b o
  | .cons b o x v l hq hc h t => .cons b o x v l (hp _ _ hq) ((hw _ _ hq).trans hc) (RD.move hw hp h) (RC.move hw hp t)
end
theorem RC.split {w : World} {Pr : Nat → Nat → Prop} {l' : List DV} : ∀ {l : List DV} {b o : Nat}, RC w Pr b o (l ++ l') → RC w Pr b o l ∧ RC w Pr b (o + l.length) l'
  | [], b, o, h => ⟨.nil b o, by simpa using h⟩
  | x :: l, b, o, h => by
    cases h with
    | cons _ _ _ v _ hp hc h t =>
      obtain ⟨h1, h2⟩ := RC.split (l := l) t
      exact ⟨.cons b o x v l hp hc h h1, by simpa [Nat.add_assoc, Nat.add_comm 1] using h2⟩
theorem RC.join {w : World} {Pr : Nat → Nat → Prop} {l' : List DV} : ∀ {l : List DV} {b o : Nat}, RC w Pr b o l → RC w Pr b (o + l.length) l' → RC w Pr b o (l ++ l')
  | [], b, o, _, h => by simpa using h
  | x :: l, b, o, h, h' => by
    cases h with
    | cons _ _ _ v _ hp hc h t => exact .cons b o x v _ hp hc h (RC.join (l := l) t (by simpa [Nat.add_assoc, Nat.add_comm 1] using h'))
theorem RC.drop {w : World} {Pr : Nat → Nat → Prop} {l : List DV} {b o : Nat} (h : RC w Pr b o l) (n : Nat) (hn : n ≤ l.length) : RC w Pr b (o + n) (l.drop n) := by
  have := RC.split (l := l.take n) (l' := l.drop n) (by rw [List.take_append_drop]; exact h)
  have h2 := this.2
  rwa [List.length_take, Nat.min_eq_left hn] at h2
theorem RC.take {w : World} {Pr : Nat → Nat → Prop} {l : List DV} {b o : Nat} (h : RC w Pr b o l) (n : Nat) : RC w Pr b o (l.take n) :=
  (RC.split (l := l.take n) (l' := l.drop n) (by rw [List.take_append_drop]; exact h)).1
/-- The values in the cells. -/
theorem RC.vals {w : World} {Pr : Nat → Nat → Prop} : ∀ {l : List DV} {b o : Nat}, RC w Pr b o l → ∃ vs : List Value, All2 (RD w Pr) l vs ∧ (∀ j v, vs[j]? = some v → w.cell? ⟨b, o + j, none⟩ = some v) ∧ ∀ j, j < l.length → Pr b (o + j)
  | [], b, o, _ => ⟨[], .nil, fun j v h => by simp at h, fun j h => by simp at h⟩
  | x :: l, b, o, h => by
    cases h with
    | cons _ _ _ v _ hp hc h t =>
      obtain ⟨vs, h1, h2, h3⟩ := RC.vals (l := l) t
      refine ⟨v :: vs, .cons h h1, fun j u hu => ?_, fun j hj => ?_⟩
      · cases j with
        | zero => simp at hu; subst hu; exact hc
        | succ j => simp at hu; have := h2 j u hu; rwa [Nat.add_assoc, Nat.add_comm 1] at this
      · cases j with
        | zero => exact hp
        | succ j => have := h3 j (by simpa using hj); rwa [Nat.add_assoc, Nat.add_comm 1] at this
theorem RC.of_vals {w : World} {Pr : Nat → Nat → Prop} : ∀ {l : List DV} {vs : List Value} {b o : Nat}, All2 (RD w Pr) l vs → (∀ j v, vs[j]? = some v → w.cell? ⟨b, o + j, none⟩ = some v) → (∀ j, j < l.length → Pr b (o + j)) → RC w Pr b o l
  | [], _, b, o, _, _, _ => .nil b o
  | x :: l, _, b, o, .cons (y := v) (m := vs) h t, hc, hp =>
    .cons b o x v l (hp 0 (by simp)) (hc 0 v (by simp)) h (RC.of_vals t (fun j u hu => by have := hc (j + 1) u (by simpa using hu); rwa [Nat.add_comm j 1, ← Nat.add_assoc] at this) (fun j hj => by have := hp (j + 1) (by simpa using hj); rwa [Nat.add_comm j 1, ← Nat.add_assoc] at this))

theorem flat_len {sz : Nat} : ∀ {xs : List (List DV)}, (∀ x ∈ xs, x.length = sz) → xs.flatten.length = xs.length * sz
  | [], _ => by simp
  | x :: xs, h => by
    have := flat_len (xs := xs) (fun y hy => h y (by simp [hy]))
    simp [this, h x (by simp), Nat.add_mul, Nat.add_comm]
theorem flat_drop {sz : Nat} : ∀ {xs : List (List DV)} (n : Nat), (∀ x ∈ xs, x.length = sz) → (xs.drop n).flatten = xs.flatten.drop (n * sz)
  | [], n, _ => by simp
  | x :: xs, 0, _ => by simp
  | x :: xs, n + 1, h => by
    have hx := h x (by simp)
    rw [List.drop_succ_cons, flat_drop n (fun y hy => h y (by simp [hy])), List.flatten_cons, Nat.add_mul, Nat.one_mul, Nat.add_comm, ← hx, List.drop_append]
    simp [hx]
theorem flat_take {sz : Nat} : ∀ {xs : List (List DV)} (n : Nat), (∀ x ∈ xs, x.length = sz) → (xs.take n).flatten = xs.flatten.take (n * sz)
  | [], n, _ => by simp
  | x :: xs, 0, _ => by simp
  | x :: xs, n + 1, h => by
    have hx := h x (by simp)
    rw [List.take_succ_cons, List.flatten_cons, flat_take n (fun y hy => h y (by simp [hy])), List.flatten_cons, Nat.add_mul, Nat.one_mul, Nat.add_comm (n * sz), List.take_append]
    rw [hx, Nat.add_sub_cancel_left, List.take_of_length_le (l := x) (by omega)]

/-- The model's side: objects' blocks, rows' values and element types; which of them are in use; which cells are held still. -/
structure Env where
  ρ : Nat → Nat
  V : Nat → Prop
  τ : Nat → Value
  ε : Nat → TypeId
  U : Nat → Prop
  Pr : Nat → Nat → Prop

inductive RS (w : World) (Pr : Nat → Nat → Prop) : AV → Value → Prop
  | d {x : DV} {v : Value} (h : RD w Pr x v) : RS w Pr (.d x) v
  | agg {cs : List DV} {arr : Array Value} (h : All2 (RD w Pr) cs arr.toList) : RS w Pr (.agg cs) (.agg arr)
inductive RA (E : Env) (w : World) : AV → Value → Prop
  | d {x : DV} {v : Value} (h : RD w E.Pr x v) : RA E w (.d x) v
  | agg {cs : List DV} {arr : Array Value} (h : All2 (RD w E.Pr) cs arr.toList) : RA E w (.agg cs) (.agg arr)
  | row {t : Nat} {xs : List (List DV)} (hu : E.U t) (h : RD w E.Pr (.sl xs) (E.τ t)) : RA E w (.row t (E.ε t) xs) (E.τ t)
  | nils : RA E w .nils (.slice none 0 0)
  | ptr {id off : Nat} (hv : E.V id) : RA E w (.ptr id off) (.pointer (some ⟨E.ρ id, off, none⟩))
  | elp {cs : List DV} {b o off : Nat} (h : RC w E.Pr b o cs) : RA E w (.elp cs off) (.pointer (some ⟨b, o + off, none⟩))
  | nilp : RA E w .nilp (.pointer none)
  | fn {f : FuncId} {ids : List Nat} (hv : ∀ i ∈ ids, E.V i) : RA E w (.fn f ids) (.func (.func f) #[] (ids.map fun i => Value.pointer (some ⟨E.ρ i, 0, none⟩)).toArray)
  | osl {id sz n c : Nat} (hv : E.V id) (hc : n ≤ c) : RA E w (.osl id sz n) (.slice (some ⟨E.ρ id, 0, none⟩) n c)
  | tup {vs : List AV} {arr : Array Value} (h : All2 (RS w E.Pr) vs arr.toList) : RA E w (.tup vs) (.tuple arr)

/-- One state of the model's side behind another. -/
structure Ext (E : Env) (w : World) (E' : Env) (w' : World) : Prop where
  pr : ∀ b j, E.Pr b j → E'.Pr b j
  cell : ∀ b j, E.Pr b j → w'.cell? ⟨b, j, none⟩ = w.cell? ⟨b, j, none⟩
  V : ∀ i, E.V i → E'.V i ∧ E'.ρ i = E.ρ i
  U : ∀ t, E.U t → E'.U t ∧ E'.τ t = E.τ t ∧ E'.ε t = E.ε t
theorem Ext.refl (E : Env) (w : World) : Ext E w E w := ⟨fun _ _ h => h, fun _ _ _ => rfl, fun _ h => ⟨h, rfl⟩, fun _ h => ⟨h, rfl, rfl⟩⟩
theorem Ext.trans {E E' E'' : Env} {w w' w'' : World} (h : Ext E w E' w') (k : Ext E' w' E'' w'') : Ext E w E'' w'' :=
  ⟨fun b j hp => k.pr b j (h.pr b j hp), fun b j hp => (k.cell b j (h.pr b j hp)).trans (h.cell b j hp), fun i hi => ⟨(k.V i (h.V i hi).1).1, (k.V i (h.V i hi).1).2.trans (h.V i hi).2⟩,
   fun t ht => ⟨(k.U t (h.U t ht).1).1, (k.U t (h.U t ht).1).2.1.trans (h.U t ht).2.1, (k.U t (h.U t ht).1).2.2.trans (h.U t ht).2.2⟩⟩
theorem RD.ext {E E' : Env} {w w' : World} (h : Ext E w E' w') {x : DV} {v : Value} (r : RD w E.Pr x v) : RD w' E'.Pr x v := r.move h.cell h.pr
theorem RA.ext {E E' : Env} {w w' : World} (h : Ext E w E' w') {x : AV} {v : Value} (r : RA E w x v) : RA E' w' x v := by
  cases r with
  | d h' => exact .d (h'.ext h)
  | agg h' => exact .agg (h'.imp fun _ _ q => q.ext h)
  | @row t xs hu h' =>
    obtain ⟨h1, h2, h3⟩ := h.U t hu
    rw [← h2, ← h3]
    exact .row h1 (by rw [h2]; exact h'.ext h)
  | nils => exact .nils
  | @ptr id off hv =>
    rw [← (h.V id hv).2]
    exact .ptr (h.V id hv).1
  | elp h' => exact .elp (h'.move h.cell h.pr)
  | nilp => exact .nilp
  | @fn f ids hv =>
    have : ids.map (fun i => Value.pointer (some ⟨E.ρ i, 0, none⟩)) = ids.map (fun i => Value.pointer (some ⟨E'.ρ i, 0, none⟩)) := List.map_congr_left fun i hi => by rw [(h.V i (hv i hi)).2]
    rw [this]
    exact .fn fun i hi => (h.V i (hv i hi)).1
  | @osl id sz n c hv hc =>
    rw [← (h.V id hv).2]
    exact .osl (h.V id hv).1 hc
  | tup h' =>
    refine .tup (h'.imp fun _ _ q => ?_)
    cases q with
    | d q => exact .d (q.ext h)
    | agg q => exact .agg (q.imp fun _ _ q => q.ext h)
theorem RA.undef (E : Env) (w : World) : RA E w .undef Go.undef := .tup .nil
theorem RD.nil (w : World) (Pr : Nat → Nat → Prop) (A : Option Addr) (c : Nat) : RD w Pr (.sl []) (.slice A 0 c) := .sl [] A c 0 0 0 (Nat.zero_le _) (by simp) (by simp) (.nil 0 0)
theorem RA.toD {E : Env} {w : World} {x : AV} {v : Value} {y : DV} (r : RA E w x v) (h : x.toD = some y) : RD w E.Pr y v := by
  cases r <;> simp [AV.toD] at h <;> subst h
  case d h' => exact h'
  case row hu h' => exact h'
  case nils => exact .nil w E.Pr none 0
theorem RA.rows {E : Env} {w : World} {x : AV} {v : Value} {xs : List (List DV)} (r : RA E w x v) (h : x.rows = some xs) : RD w E.Pr (.sl xs) v := by
  cases r with
  | d h' => cases h' <;> simp [AV.rows] at h; subst h; exact .sl _ _ _ _ _ _ ‹_› ‹_› ‹_› ‹_›
  | row _ h' => simp [AV.rows] at h; subst h; exact h'
  | nils => simp [AV.rows] at h; subst h; exact .nil w E.Pr none 0
  | _ => simp [AV.rows] at h
theorem RA.int {E : Env} {w : World} {x : AV} {v : Value} {p : IntKind × Int} (r : RA E w x v) (h : x.int? = some p) : v = .int p.1 p.2 := by
  cases r with
  | d h' => cases h' <;> simp [AV.int?] at h; subst h; rfl
  | _ => simp [AV.int?] at h
theorem RA.cells {E : Env} {w : World} {x : AV} {v : Value} {l : List AV} (r : RA E w x v) (h : x.cells = some l) : All2 (RA E w) l v.cells.toList ∧ ∀ u ∈ v.cells.toList, u.oneCell' = true := by
  cases r with
  | d h' =>
    simp [AV.cells] at h; subst h
    rw [h'.cells]
    exact ⟨.cons (.d h') .nil, by simpa using h'.one⟩
  | @agg cs arr h' =>
    simp [AV.cells] at h; subst h
    simp only [Value.cells]
    generalize arr.toList = m at h'
    induction h' with
    | nil => exact ⟨.nil, by simp⟩
    | cons q _ ih => exact ⟨.cons (.d q) ih.1, by intro u hu; simp at hu; rcases hu with rfl | hu; exact q.one; exact ih.2 u hu⟩
  | row hu h' =>
    simp [AV.cells] at h; subst h
    rw [h'.cells]
    exact ⟨.cons (.row hu h') .nil, by simpa using h'.one⟩
  | nils => simp [AV.cells] at h; subst h; exact ⟨.cons .nils .nil, by simp [Value.cells, Value.oneCell']⟩
  | osl hv hc => simp [AV.cells] at h; subst h; exact ⟨.cons (.osl hv hc) .nil, by simp [Value.cells, Value.oneCell']⟩
  | _ => simp [AV.cells] at h
theorem RA.cellsD {E : Env} {w : World} {x : AV} {v : Value} {l : List DV} (r : RA E w x v) (h : x.cellsD = some l) : All2 (RD w E.Pr) l v.cells.toList := by
  cases r with
  | d h' => simp [AV.cellsD] at h; subst h; rw [h'.cells]; exact .cons h' .nil
  | agg h' => simp [AV.cellsD] at h; subst h; exact h'
  | row _ h' => simp [AV.cellsD] at h; subst h; rw [h'.cells]; exact .cons h' .nil
  | nils => simp [AV.cellsD] at h; subst h; exact .cons (.nil w E.Pr none 0) .nil
  | _ => simp [AV.cellsD] at h
theorem allD_rep {E : Env} {w : World} : ∀ {l : List AV} {m : List Value} {ds : List DV}, All2 (RA E w) l m → allD l = some ds → All2 (RD w E.Pr) ds m
  | _, _, _, .nil, h => by simp [allD] at h; subst h; exact .nil
  | _, _, _, .cons h t, hd => by
    simp only [allD, Option.bind_eq_some_iff] at hd
    obtain ⟨y, h1, ys, h2, h3⟩ := hd
    injection h3 with h3
    subst h3
    exact .cons (h.toD h1) (allD_rep t h2)
theorem Pre.allD {E : Env} {w : World} {l : List AV} {m : List Value} {ds : List DV} (h : Pre (RA E w) l m) (hd : Ae.allD l = some ds) : Pre (RD w E.Pr) ds m := by
  cases h with
  | mk h => exact .mk (allD_rep h hd)
theorem Pre.map_d {E : Env} {w : World} {cs : List DV} {vs : List Value} (h : Pre (RD w E.Pr) cs vs) : Pre (RA E w) (cs.map .d) vs := by
  cases h with
  | mk h =>
    refine .mk ?_
    induction h with
    | nil => exact .nil
    | cons h _ ih => exact .cons (.d h) ih
end Go.Ae
