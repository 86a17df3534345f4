/-
  THE STATE: what holds of objects, rows and the world while a function runs; how each writing operation carries it on.
-/
import Derived.Test.YtkmmfenknekcbaaGreatAePure
import Derived.Below
set_option linter.unusedSimpArgs false
set_option linter.unusedVariables false
namespace Go.Ae
open Go.RowKit
variable {P : Program}

/-- A row of one's own. -/
def RowOk (P : Program) (w0 : World) (E : Env) (w : World) (ob : Nat → Option (List AV)) (t : Nat) : Prop :=
  E.U t ∧ ∃ inf n cells, P.info? (E.ε t) = some inf ∧ w.ownsRow w0.heap.size (E.ε t) inf.size (E.τ t) n cells ∧
    ∀ b, (E.τ t).ownBlock = some b → (∀ j, E.Pr b j → j < n * inf.size) ∧ ∀ id, (ob id).isSome = true → E.ρ id ≠ b

structure SC (P : Program) (w0 : World) (E0 : Env) (nob : Nat) (E : Env) (ob : Nat → Option (List AV)) (no : Nat) (ow : Nat → Bool) (nx : Nat) (dn : Nat → Prop) (w : World) : Prop where
  obk : ObOk E w ob
  obV : ∀ id, (ob id).isSome = true → E.V id
  Vb : ∀ id, E.V id → id < no ∨ ∃ j, dn j ∧ id = no + j
  inj : ∀ i j, (ob i).isSome = true → (ob j).isSome = true → E.ρ i = E.ρ j → i = j
  npr : ∀ id, (ob id).isSome = true → ∀ j, ¬ E.Pr (E.ρ id) j
  own : ∀ t, ow t = true → RowOk P w0 E w ob t
  ownd : ∀ t t', ow t = true → ow t' = true → t ≠ t' → (E.τ t).ownBlock = none ∨ (E.τ t).ownBlock ≠ (E.τ t').ownBlock
  Ub : ∀ t, E.U t → t < nx ∨ ∃ j, dn j ∧ t = nx + j
  prB : ∀ b j, E.Pr b j → b < w.heap.size
  pr0 : ∀ b j, E0.Pr b j → E.Pr b j
  pr1 : ∀ b j, E.Pr b j → E0.Pr b j ∨ w0.heap.size ≤ b
  old : ∀ i, i < nob → (ob i).isSome = true ∧ E.ρ i = E0.ρ i
  new : ∀ id, (ob id).isSome = true → nob ≤ id → w0.heap.size ≤ E.ρ id
  nno : nob ≤ no
  fr : ∀ b, b < w0.heap.size → (∀ i, i < nob → b ≠ E0.ρ i) → w.heap[b]? = w0.heap[b]?
  os : w.os = w0.os
  tape : w.tape = w0.tape
  output : w.output = w0.output
  size : w0.heap.size ≤ w.heap.size

section
variable {w0 : World} {E0 E : Env} {nob no nx : Nat} {ob : Nat → Option (List AV)} {ow : Nat → Bool} {dn dn' : Nat → Prop} {w w' : World}

theorem SC.dn_mono (h : SC P w0 E0 nob E ob no ow nx dn w) (hd : ∀ j, dn j → dn' j) : SC P w0 E0 nob E ob no ow nx dn' w :=
  { h with Vb := fun id hv => (h.Vb id hv).imp (fun q => q) fun ⟨j, h1, h2⟩ => ⟨j, hd j h1, h2⟩, Ub := fun t hu => (h.Ub t hu).imp (fun q => q) fun ⟨j, h1, h2⟩ => ⟨j, hd j h1, h2⟩ }
theorem SC.drew (h : SC P w0 E0 nob E ob no ow nx dn w) : SC P w0 E0 nob E ob no ow nx dn { w with drawn := w.drawn + 1 } := by
  have hc : ∀ a, World.cell? { w with drawn := w.drawn + 1 } a = w.cell? a := fun _ => rfl
  have he : Ext E w E { w with drawn := w.drawn + 1 } := ⟨fun _ _ h => h, fun _ _ _ => rfl, fun _ h => ⟨h, rfl⟩, fun _ h => ⟨h, rfl, rfl⟩⟩
  exact { h with
    obk := fun id cs hi => by obtain ⟨vs, T, h1, h2⟩ := h.obk id cs hi; exact ⟨vs, T, h1, h2.imp fun _ _ q => q.ext he⟩
    own := fun t ht => by obtain ⟨hu, inf, n, cells, h1, h2, h3⟩ := h.own t ht; exact ⟨hu, inf, n, cells, h1, h2, h3⟩ }
theorem Ext.below (hp : ∀ b j, E.Pr b j → b < w.heap.size) (hb : ∀ b, b < w.heap.size → w'.heap[b]? = w.heap[b]?) : Ext E w E w' :=
  ⟨fun _ _ h => h, fun b j h => World.cell?_of_block (a := ⟨b, j, none⟩) (hb b (hp b j h)), fun _ h => ⟨h, rfl⟩, fun _ h => ⟨h, rfl, rfl⟩⟩
/-- New blocks alone. -/
theorem SC.grow (h : SC P w0 E0 nob E ob no ow nx dn w) (hb : ∀ b, b < w.heap.size → w'.heap[b]? = w.heap[b]?) (hs : w.heap.size ≤ w'.heap.size) (h1 : w'.os = w.os) (h2 : w'.tape = w.tape) (h3 : w'.output = w.output) :
    SC P w0 E0 nob E ob no ow nx dn w' := by
  have he : Ext E w E w' := Ext.below h.prB hb
  have hlt : ∀ {b : Nat} {o : Obj}, w.heap[b]? = some o → b < w.heap.size := fun q => (Array.getElem?_eq_some_iff.1 q).1
  exact { h with
    obk := fun id cs hi => by
      obtain ⟨vs, T, q1, q2⟩ := h.obk id cs hi
      exact ⟨vs, T, (hb _ (hlt q1)).trans q1, q2.imp fun _ _ q => q.ext he⟩
    own := fun t ht => by
      obtain ⟨hu, inf, n, cells, q1, q2, q3⟩ := h.own t ht
      exact ⟨hu, inf, n, cells, q1, q2.kept ⟨h1, h2, h3, hs, fun k hk _ => hb k hk⟩ (row := none) (by cases (E.τ t).ownBlock <;> simp), q3⟩
    prB := fun b j hp => Nat.lt_of_lt_of_le (h.prB b j hp) hs
    fr := fun b hb0 hi => (hb b (Nat.lt_of_lt_of_le hb0 h.size)).trans (h.fr b hb0 hi)
    os := h1.trans h.os
    tape := h2.trans h.tape
    output := h3.trans h.output
    size := Nat.le_trans h.size hs }
/-- A block of one's own that no object, no row, no cell held still has: it becomes an object. -/
theorem SC.addObj (h : SC P w0 E0 nob E ob no ow nx dn w) {i b : Nat} (hi : ¬ dn i) {cs : List AV} {vs : Array Value} {T : TypeId} (hh : w.heap[b]? = some (.cells vs T (0, 0))) (hr : Pre (RA E w) cs vs.toList) (hb0 : w0.heap.size ≤ b)
    (hno : ∀ id, (ob id).isSome = true → E.ρ id ≠ b) (hnp : ∀ j, ¬ E.Pr b j) (hnr : ∀ t, ow t = true → (E.τ t).ownBlock ≠ some b) :
    ∃ E', Ext E w E' w ∧ E'.ρ (no + i) = b ∧ E'.V (no + i) ∧ SC P w0 E0 nob E' (upd ob (no + i) (some cs)) no ow nx (fun j => dn j ∨ j = i) w := by
  have hfresh : ¬ E.V (no + i) := fun hv => by
    rcases h.Vb _ hv with q | ⟨j, q1, q2⟩
    · omega
    · exact hi (by rwa [show i = j by omega])
  let E' : Env := { E with ρ := upd E.ρ (no + i) b, V := fun id => E.V id ∨ id = no + i }
  have hne : ∀ id, E.V id → id ≠ no + i := fun id hv e => hfresh (e ▸ hv)
  have hρ : ∀ id, E.V id → E'.ρ id = E.ρ id := fun id hv => by simp [E', upd, hne id hv]
  have he : Ext E w E' w := ⟨fun _ _ h => h, fun _ _ _ => rfl, fun id hv => ⟨.inl hv, hρ id hv⟩, fun _ h => ⟨h, rfl, rfl⟩⟩
  have hob : ∀ id, (upd ob (no + i) (some cs) id).isSome = true → id = no + i ∨ (ob id).isSome = true ∧ id ≠ no + i := fun id q => by
    by_cases e : id = no + i
    · exact .inl e
    · rw [upd_apply, if_neg e] at q; exact .inr ⟨q, e⟩
  have hρn : E'.ρ (no + i) = b := by simp [E', upd]
  refine ⟨E', he, hρn, .inr rfl, ?_⟩
  have hold : ∀ id, (ob id).isSome = true → E'.ρ id = E.ρ id := fun id q => hρ id (h.obV id q)
  exact
    { obk := fun id cs' q => by
        rw [upd_apply] at q
        split at q
        · rename_i e
          injection q with q
          subst q
          subst e
          exact ⟨vs, T, by rw [hρn]; exact hh, hr.imp fun _ _ q => q.ext he⟩
        · obtain ⟨us, U, q1, q2⟩ := h.obk id cs' q
          exact ⟨us, U, by rw [hold id (by rw [q]; rfl)]; exact q1, q2.imp fun _ _ q => q.ext he⟩
      obV := fun id q => by
        rcases hob id q with e | ⟨q, _⟩
        · exact .inr e
        · exact .inl (h.obV id q)
      Vb := fun id hv => by
        rcases hv with hv | e
        · exact (h.Vb id hv).imp (fun q => q) fun ⟨j, q1, q2⟩ => ⟨j, .inl q1, q2⟩
        · exact .inr ⟨i, .inr rfl, e⟩
      inj := fun x y hx hy e => by
        rcases hob x hx with ex | ⟨hx, nx⟩ <;> rcases hob y hy with ey | ⟨hy, ny⟩
        · rw [ex, ey]
        · rw [ex, hρn, hold y hy] at e; exact absurd e.symm (hno y hy)
        · rw [ey, hρn, hold x hx] at e; exact absurd e (hno x hx)
        · rw [hold x hx, hold y hy] at e; exact h.inj x y hx hy e
      npr := fun id q j => by
        rcases hob id q with e | ⟨q, _⟩
        · rw [e, hρn]; exact hnp j
        · rw [hold id q]; exact h.npr id q j
      own := fun t ht => by
        obtain ⟨hu, inf, n, cells, q1, q2, q3⟩ := h.own t ht
        refine ⟨hu, inf, n, cells, q1, q2, fun b' hb' => ⟨(q3 b' hb').1, fun id q => ?_⟩⟩
        rcases hob id q with e | ⟨q, _⟩
        · rw [e, hρn]; intro e'; subst e'; exact hnr t ht hb'
        · rw [hold id q]; exact (q3 b' hb').2 id q
      ownd := h.ownd
      Ub := fun t hu => (h.Ub t hu).imp (fun q => q) fun ⟨j, q1, q2⟩ => ⟨j, .inl q1, q2⟩
      prB := h.prB
      pr0 := h.pr0
      pr1 := h.pr1
      old := fun k hk => by
        obtain ⟨q1, q2⟩ := h.old k hk
        have hkn : k ≠ no + i := by have := h.nno; omega
        exact ⟨by rw [upd_apply, if_neg hkn]; exact q1, (hold k q1).trans q2⟩
      new := fun id q hid => by
        rcases hob id q with e | ⟨q, _⟩
        · rw [e, hρn]; exact hb0
        · rw [hold id q]; exact h.new id q hid
      nno := h.nno
      fr := h.fr
      os := h.os
      tape := h.tape
      output := h.output
      size := h.size }
/-- A row of one's own begins. -/
theorem SC.addRow (h : SC P w0 E0 nob E ob no ow nx dn w) {i : Nat} (hi : ¬ dn i) {v : Value} {e : TypeId} {inf : TypeInfo} (hinf : P.info? e = some inf) {n : Nat} {cells : List Value} (hown : w.ownsRow w0.heap.size e inf.size v n cells)
    (hno : ∀ b, v.ownBlock = some b → ∀ id, (ob id).isSome = true → E.ρ id ≠ b) (hnp : ∀ b, v.ownBlock = some b → ∀ j, E.Pr b j → j < n * inf.size) (hnr : ∀ b, v.ownBlock = some b → ∀ t, ow t = true → (E.τ t).ownBlock ≠ some b) :
    ∃ E', Ext E w E' w ∧ E'.τ (nx + i) = v ∧ E'.ε (nx + i) = e ∧ E'.U (nx + i) ∧ (∀ b j, E'.Pr b j ↔ E.Pr b j ∨ (v.ownBlock = some b ∧ j < n * inf.size)) ∧ E'.ρ = E.ρ ∧
      SC P w0 E0 nob E' ob no (upd ow (nx + i) true) nx (fun j => dn j ∨ j = i) w := by
  have hfresh : ¬ E.U (nx + i) := fun hv => by
    rcases h.Ub _ hv with q | ⟨j, q1, q2⟩
    · omega
    · exact hi (by rwa [show i = j by omega])
  let E' : Env := { E with τ := upd E.τ (nx + i) v, ε := upd E.ε (nx + i) e, U := fun t => E.U t ∨ t = nx + i, Pr := fun b j => E.Pr b j ∨ (v.ownBlock = some b ∧ j < n * inf.size) }
  have hne : ∀ t, E.U t → t ≠ nx + i := fun t hv e => hfresh (e ▸ hv)
  have hτ : ∀ t, E.U t → E'.τ t = E.τ t ∧ E'.ε t = E.ε t := fun t hv => by simp [E', upd, hne t hv]
  have he : Ext E w E' w := ⟨fun _ _ h => .inl h, fun _ _ _ => rfl, fun _ h => ⟨h, rfl⟩, fun t hu => ⟨.inl hu, (hτ t hu).1, (hτ t hu).2⟩⟩
  have hτn : E'.τ (nx + i) = v := by simp [E', upd]
  have hεn : E'.ε (nx + i) = e := by simp [E', upd]
  have how : ∀ t, upd ow (nx + i) true t = true → t = nx + i ∨ ow t = true ∧ t ≠ nx + i := fun t q => by
    by_cases e : t = nx + i
    · exact .inl e
    · rw [upd_apply, if_neg e] at q; exact .inr ⟨q, e⟩
  have hblk : ∀ b, v.ownBlock = some b → w0.heap.size ≤ b ∧ b < w.heap.size := fun b hb => hown.lt b hb
  refine ⟨E', he, hτn, hεn, .inr rfl, fun _ _ => Iff.rfl, rfl, ?_⟩
  exact
    { obk := fun id cs q => by obtain ⟨us, U, q1, q2⟩ := h.obk id cs q; exact ⟨us, U, q1, q2.imp fun _ _ q => q.ext he⟩
      obV := h.obV
      Vb := fun id hv => (h.Vb id hv).imp (fun q => q) fun ⟨j, q1, q2⟩ => ⟨j, .inl q1, q2⟩
      inj := h.inj
      npr := fun id q j hp => by
        rcases hp with hp | ⟨hp, _⟩
        · exact h.npr id q j hp
        · exact hno _ hp id q rfl
      own := fun t ht => by
        rcases how t ht with et | ⟨ht, _⟩
        · subst et
          refine ⟨.inr rfl, inf, n, cells, by rw [hεn]; exact hinf, by rw [hεn, hτn]; exact hown, fun b hb => ⟨fun j hp => ?_, fun id q => ?_⟩⟩
          · rw [hτn] at hb
            rcases hp with hp | ⟨_, hp⟩
            · exact hnp b hb j hp
            · exact hp
          · rw [hτn] at hb; exact hno b hb id q
        · obtain ⟨hu, inf', n', cells', q1, q2, q3⟩ := h.own t ht
          refine ⟨.inl hu, inf', n', cells', by rw [(hτ t hu).2]; exact q1, by rw [(hτ t hu).2, (hτ t hu).1]; exact q2, fun b hb => ⟨fun j hp => ?_, fun id q => ?_⟩⟩
          · rw [(hτ t hu).1] at hb
            rcases hp with hp | ⟨hp, _⟩
            · exact (q3 b hb).1 j hp
            · exact absurd hb (hnr b hp t ht)
          · rw [(hτ t hu).1] at hb; exact (q3 b hb).2 id q
      ownd := fun t t' ht ht' hne' => by
        rcases how t ht with et | ⟨ht, _⟩ <;> rcases how t' ht' with et' | ⟨ht', _⟩
        · exact absurd (et.trans et'.symm) hne'
        · have hu' := (h.own t' ht').1
          rw [et, hτn, (hτ t' hu').1]
          cases hb : v.ownBlock with
          | none => exact .inl rfl
          | some b => exact .inr (Ne.symm (hnr b hb t' ht'))
        · have hu := (h.own t ht).1
          rw [et', hτn, (hτ t hu).1]
          cases hb : v.ownBlock with
          | none =>
            cases hb' : (E.τ t).ownBlock with
            | none => exact .inl rfl
            | some b => exact .inr (by simp)
          | some b => exact .inr (hnr b hb t ht)
        · rw [(hτ t (h.own t ht).1).1, (hτ t' (h.own t' ht').1).1]
          exact h.ownd t t' ht ht' hne'
      Ub := fun t hu => by
        rcases hu with hu | e
        · exact (h.Ub t hu).imp (fun q => q) fun ⟨j, q1, q2⟩ => ⟨j, .inl q1, q2⟩
        · exact .inr ⟨i, .inr rfl, e⟩
      prB := fun b j hp => by
        rcases hp with hp | ⟨hp, _⟩
        · exact h.prB b j hp
        · exact (hblk b hp).2
      pr0 := fun b j hp => .inl (h.pr0 b j hp)
      pr1 := fun b j hp => by
        rcases hp with hp | ⟨hp, _⟩
        · exact h.pr1 b j hp
        · exact .inr (hblk b hp).1
      old := h.old
      new := h.new
      nno := h.nno
      fr := h.fr
      os := h.os
      tape := h.tape
      output := h.output
      size := h.size }
theorem chunks_spec {sz : Nat} : ∀ {n : Nat} {l : List DV} {xs : List (List DV)}, chunks sz n l = some xs → xs.flatten = l ∧ xs.length = n ∧ ∀ x ∈ xs, x.length = sz
  | 0, [], _, h => by simp [chunks] at h; subst h; simp
  | 0, _ :: _, _, h => by simp [chunks] at h
  | n + 1, l, _, h => by
    simp only [chunks, Option.bind_eq_some_iff, Option.map_eq_some_iff] at h
    obtain ⟨x, h1, r, h2, rfl⟩ := h
    obtain ⟨q1, q2, q3⟩ := chunks_spec h2
    have ht : ∀ {k : Nat} {l x : List DV}, takeN k l = some x → x = l.take k ∧ x.length = k := by
      intro k
      induction k with
      | zero => intro l x h; simp [takeN] at h; subst h; simp
      | succ k ih =>
        intro l x h
        cases l with
        | nil => simp [takeN] at h
        | cons y l =>
          simp only [takeN, Option.map_eq_some_iff] at h
          obtain ⟨r, h1, rfl⟩ := h
          obtain ⟨e1, e2⟩ := ih h1
          exact ⟨by simp [e1], by simp [e2]⟩
    obtain ⟨e1, e2⟩ := ht h1
    refine ⟨by rw [List.flatten_cons, q1, e1, List.take_append_drop], by simp [q2], fun y hy => ?_⟩
    rcases List.mem_cons.1 hy with rfl | hy
    · exact e2
    · exact q3 y hy
/-- An object of one's own is written no more: its cells are held still. -/
theorem SC.freeze (h : SC P w0 E0 nob E ob no ow nx dn w) {id : Nat} (hnb : nob ≤ id) {cs : List AV} (hid : ob id = some cs) :
    ∃ E', Ext E w E' w ∧ SC P w0 E0 nob E' (upd ob id none) no ow nx dn w ∧ ∀ {ds : List DV} {sz n : Nat} {xs : List (List DV)} {v : Value}, allD cs = some ds → chunks sz n ds = some xs → RA E w (.osl id sz n) v → RD w E'.Pr (.sl xs) v := by
  have hs : (ob id).isSome = true := by rw [hid]; rfl
  obtain ⟨us, U, hu, hr⟩ := h.obk id cs hid
  let E' : Env := { E with Pr := fun b j => E.Pr b j ∨ b = E.ρ id }
  have he : Ext E w E' w := ⟨fun _ _ h => .inl h, fun _ _ _ => rfl, fun _ h => ⟨h, rfl⟩, fun _ h => ⟨h, rfl, rfl⟩⟩
  have hsome : ∀ k, (upd ob id none k).isSome = true → (ob k).isSome = true ∧ k ≠ id := fun k q => by
    rw [upd_apply] at q
    split at q
    · cases q
    · rename_i e; exact ⟨q, e⟩
  refine ⟨E', he, ?_, ?_⟩
  · exact
      { obk := fun k c q => by
          rw [upd_apply] at q
          split at q
          · cases q
          · obtain ⟨vs, T, q1, q2⟩ := h.obk k c q
            exact ⟨vs, T, q1, q2.imp fun _ _ q => q.ext he⟩
        obV := fun k q => h.obV k (hsome k q).1
        Vb := h.Vb
        inj := fun i j hi hj => h.inj i j (hsome i hi).1 (hsome j hj).1
        npr := fun k q j hp => by
          rcases hp with hp | hp
          · exact h.npr k (hsome k q).1 j hp
          · exact (hsome k q).2 (h.inj k id (hsome k q).1 hs hp)
        own := fun t ht => by
          obtain ⟨hu, inf, n, cells, q1, q2, q3⟩ := h.own t ht
          refine ⟨hu, inf, n, cells, q1, q2, fun b hb => ⟨fun j hp => ?_, fun k q => (q3 b hb).2 k (hsome k q).1⟩⟩
          rcases hp with hp | hp
          · exact (q3 b hb).1 j hp
          · exact absurd hp.symm ((q3 b hb).2 id hs)
        ownd := h.ownd
        Ub := h.Ub
        prB := fun b j hp => by
          rcases hp with hp | hp
          · exact h.prB b j hp
          · rw [hp]; exact (Array.getElem?_eq_some_iff.1 hu).1
        pr0 := fun b j hp => .inl (h.pr0 b j hp)
        pr1 := fun b j hp => by
          rcases hp with hp | hp
          · exact h.pr1 b j hp
          · exact .inr (by rw [hp]; exact h.new id hs hnb)
        old := fun k hk => by
          obtain ⟨q1, q2⟩ := h.old k hk
          exact ⟨by rw [upd_apply, if_neg (by omega)]; exact q1, q2⟩
        new := fun k q hk => h.new k (hsome k q).1 hk
        nno := h.nno
        fr := h.fr
        os := h.os
        tape := h.tape
        output := h.output
        size := h.size }
  · intro ds sz n xs v hd hc hv
    obtain ⟨c1, c2, c3⟩ := chunks_spec hc
    cases hv with
    | osl hV hcap =>
      have hrd : Pre (RD w E'.Pr) ds us.toList := (hr.allD hd).imp fun _ _ q => q.ext he
      rw [← c2] at hcap ⊢
      refine .sl xs _ _ sz (E.ρ id) 0 hcap c3 (fun _ => rfl) ?_
      rw [c1]
      generalize hul : us.toList = L at hrd
      cases hrd with
      | @mk vs rest hrd =>
        refine RC.of_vals hrd (fun j v hj => ?_) (fun j _ => .inr rfl)
        rw [Nat.zero_add, cell_at hu, ← Array.getElem?_toList, hul, List.getElem?_append_left (List.getElem?_eq_some_iff.1 hj).1]
        exact hj
theorem frz_sound {l : List AV} : ∀ {us : List Value} {E : Env} {ob : Nat → Option (List AV)} {ds : List DV} {ids : List Nat}, SC P w0 E0 nob E ob no ow nx dn w → All2 (RA E w) l us → frz nob ob l = some (ds, ids) →
    ∃ E', Ext E w E' w ∧ SC P w0 E0 nob E' (updO ob (ids.map fun id => (id, none))) no ow nx dn w ∧ All2 (RD w E'.Pr) ds us := by
  induction l with
  | nil =>
    intro us E ob ds ids h hr hf
    cases hr
    simp only [frz, Option.some.injEq, Prod.mk.injEq] at hf
    obtain ⟨rfl, rfl⟩ := hf
    exact ⟨E, Ext.refl _ _, h, .nil⟩
  | cons v l ih =>
    intro us E ob ds ids h hr hf
    cases hr with
    | @cons _ u _ us hv ht =>
      simp only [frz, Option.bind_eq_some_iff, Option.some.injEq, Prod.mk.injEq] at hf
      obtain ⟨⟨x, ix⟩, h1, ⟨r, ir⟩, h2, rfl, rfl⟩ := hf
      simp only at h2
      have plain : ix = [] → RD w E.Pr x u → ∃ E', Ext E w E' w ∧ SC P w0 E0 nob E' (updO ob ((ix ++ ir).map fun id => (id, none))) no ow nx dn w ∧ All2 (RD w E'.Pr) (x :: r) (u :: us) := fun e hx => by
        subst e
        obtain ⟨E', q1, q2, q3⟩ := ih h ht h2
        exact ⟨E', q1, q2, .cons (hx.ext q1) q3⟩
      unfold frz1 at h1
      split at h1
      · rename_i id sz n
        split at h1
        · rename_i hnb
          simp only [Option.bind_eq_some_iff, Option.some.injEq, Prod.mk.injEq] at h1
          obtain ⟨cs, k1, ds, k2, xs, k3, rfl, rfl⟩ := h1
          obtain ⟨E1, q1, q2, q3⟩ := h.freeze hnb k1
          obtain ⟨E', q4, q5, q6⟩ := ih q2 (ht.imp fun _ _ q => q.ext q1) h2
          exact ⟨E', q1.trans q4, q5, .cons ((q3 k2 k3 hv).ext q4) q6⟩
        · cases h1
      · obtain ⟨y, k1, k2⟩ := Option.map_eq_some_iff.1 h1
        injection k2 with k2 k3
        subst k2
        exact plain k3.symm (hv.toD k1)
end
end Go.Ae
