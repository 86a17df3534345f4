/-
  CALLS: what a function's contract says ('Fits'), and a call's step by it.
-/
import Derived.Test.YtkmmfenknekcbaaGreatAeApp
set_option linter.unusedSimpArgs false
set_option linter.unusedVariables false
namespace Go.Ae
open Go.RowKit
variable {P : Program} {w0 : World} {E0 E : Env} {nob : Nat} {dn : Nat → Prop} {w w' : World}

/-- What holds as a function is entered. -/
structure CallIn (E : Env) (w : World) (args : List AV) (obs : List (List DV)) (vals : List Value) : Prop where
  args : All2 (RA E w) args vals
  V : ∀ i, E.V i ↔ i < obs.length
  U : ∀ t, ¬ E.U t
  ob : ∀ i cs, obs[i]? = some cs → ∃ vs T, w.heap[E.ρ i]? = some (.cells vs T (0, 0)) ∧ Pre (RD w E.Pr) cs vs.toList
  inj : ∀ i j, i < obs.length → j < obs.length → E.ρ i = E.ρ j → i = j
  npr : ∀ i, i < obs.length → ∀ j, ¬ E.Pr (E.ρ i) j
  prB : ∀ b j, E.Pr b j → b < w.heap.size
/-- A result. -/
inductive ResOk (P : Program) (E : Env) (w : World) (n : Nat) (Pr' : Nat → Nat → Prop) (w' : World) : AV → List (List DV) → Value → Prop
  | d {x : DV} {v : Value} (h : RD w' Pr' x v) : ResOk P E w n Pr' w' (.d x) [] v
  | agg {cs : List DV} {arr : Array Value} (h : All2 (RD w' Pr') cs arr.toList) : ResOk P E w n Pr' w' (.agg cs) [] (.agg arr)
  | row {t : Nat} {e : TypeId} {xs : List (List DV)} {v : Value} {inf : TypeInfo} {m : Nat} {cells : List Value} (h : RD w' Pr' (.sl xs) v) (hi : P.info? e = some inf) (ho : w'.ownsRow w.heap.size e inf.size v m cells)
      (hp : ∀ b, v.ownBlock = some b → ∀ j, Pr' b j → j < m * inf.size) : ResOk P E w n Pr' w' (.row t e xs) [] v
  | nilp : ResOk P E w n Pr' w' .nilp [] (.pointer none)
  | old {k off : Nat} (h : k < n) : ResOk P E w n Pr' w' (.ptr k off) [] (.pointer (some ⟨E.ρ k, off, none⟩))
  | new {off b : Nat} {cs : List DV} {vs : Array Value} {T : TypeId} (hb : w.heap.size ≤ b) (hh : w'.heap[b]? = some (.cells vs T (0, 0))) (h : Pre (RD w' Pr') cs vs.toList) (hp : ∀ j, ¬ Pr' b j) : ResOk P E w n Pr' w' (.ptr n off) [cs] (.pointer (some ⟨b, off, none⟩))
  | newS {sz m c b : Nat} {cs : List DV} {vs : Array Value} {T : TypeId} (hb : w.heap.size ≤ b) (hh : w'.heap[b]? = some (.cells vs T (0, 0))) (h : Pre (RD w' Pr') cs vs.toList) (hp : ∀ j, ¬ Pr' b j) (hc : m ≤ c) : ResOk P E w n Pr' w' (.osl n sz m) [cs] (.slice (some ⟨b, 0, none⟩) m c)
  | tup {vs : List AV} {arr : Array Value} (h : All2 (RS w' Pr') vs arr.toList) : ResOk P E w n Pr' w' (.tup vs) [] (.tuple arr)
structure CallOut (P : Program) (E : Env) (w : World) (n : Nat) (r : AV) (obs' : List (List DV)) (v : Value) (w' : World) : Prop where
  ex : ∃ (Pr' : Nat → Nat → Prop) (old new : List (List DV)), obs' = old ++ new ∧ old.length = n ∧ (∀ b j, E.Pr b j → Pr' b j) ∧ (∀ b j, Pr' b j → E.Pr b j ∨ (w.heap.size ≤ b ∧ b < w'.heap.size)) ∧
    (∀ i cs, old[i]? = some cs → ∃ vs T, w'.heap[E.ρ i]? = some (.cells vs T (0, 0)) ∧ Pre (RD w' Pr') cs vs.toList) ∧ ResOk P E w n Pr' w' r new v
  cell : ∀ b j, E.Pr b j → w'.cell? ⟨b, j, none⟩ = w.cell? ⟨b, j, none⟩
  fr : ∀ b, b < w.heap.size → (∀ i, i < n → b ≠ E.ρ i) → w'.heap[b]? = w.heap[b]?
  os : w'.os = w.os
  tape : w'.tape = w.tape
  output : w'.output = w.output
  size : w.heap.size ≤ w'.heap.size
/-- The function does as 'g' says. -/
def Fits (P : Program) (f : FuncId) (g : Fun) : Prop :=
  ∀ args obs r obs', g args obs = some (r, obs') → ∀ (E : Env) (w : World) (vals : List Value), CallIn E w args obs vals → Calls P f vals.toArray w fun e w' => ∃ v, e = .returned v ∧ CallOut P E w obs.length r obs' v w'
/-- It has a body, and the machine enters it. -/
def Enters (P : Program) (f : FuncId) : Prop := ∃ fn c, P.funcs[f]? = some fn ∧ fn.body = some c ∧ (fn.name == "runtime.NumGoroutine") = false
theorem run_callFunc_enter {f : FuncId} (h : Enters P f) (args : Array Value) (w : World) : (callFunc f args).run P w = .ok (.enter f args) w := by
  obtain ⟨fn, c, h1, h2, h3⟩ := h
  simp only [callFunc, Sem.run_bind, run_program, Result.andThen_ok, h1, h3, h2]
  simp

theorem argsOf_rep {Ec : Env} (hPr : Ec.Pr = E.Pr) : ∀ {l : List AV} {vals : List Value} {k : Nat} {l' : List AV} {ids : List Nat}, All2 (RA E w) l vals → argsOf k l = some (l', ids) →
    (∀ i id, ids[i]? = some id → Ec.V (k + i) ∧ Ec.ρ (k + i) = E.ρ id) → All2 (RA Ec w) l' vals ∧ ∀ id ∈ ids, E.V id
  | _, _, _, _, _, .nil, h, _ => by simp [argsOf] at h; obtain ⟨rfl, rfl⟩ := h; exact ⟨.nil, by simp⟩
  | _, _, k, l', ids, .cons (x := x) h0 t, h, hE => by
    have hp : ∀ {y : AV} {l1 : List AV} {ids1 : List Nat} {v : Value} {vs : List Value} {l : List AV}, All2 (RA E w) l vs → argsOf k l = some (l1, ids1) → l' = y :: l1 → ids = ids1 → RA Ec w y v → All2 (RA Ec w) l' (v :: vs) ∧ ∀ id ∈ ids, E.V id := by
      intro y l1 ids1 v vs l h1 h2 h3 h4 h5
      subst h3
      subst h4
      obtain ⟨q1, q2⟩ := argsOf_rep hPr h1 h2 hE
      exact ⟨.cons h5 q1, q2⟩
    cases h0 <;> simp only [argsOf, Option.bind_eq_some_iff, Option.some.injEq, Prod.mk.injEq, reduceCtorEq, Prod.exists, exists_and_left] at h
    case d h' => obtain ⟨l1, ids1, h1, rfl, rfl⟩ := h; exact hp t h1 rfl rfl (.d (by rw [hPr]; exact h'))
    case agg h' => obtain ⟨l1, ids1, h1, rfl, rfl⟩ := h; exact hp t h1 rfl rfl (.agg (by rw [hPr]; exact h'))
    case row hu h' => obtain ⟨l1, ids1, h1, rfl, rfl⟩ := h; exact hp t h1 rfl rfl (.d (by rw [hPr]; exact h'))
    case nils => obtain ⟨l1, ids1, h1, rfl, rfl⟩ := h; exact hp t h1 rfl rfl (.d (.nil _ _ _ _))
    case nilp => obtain ⟨l1, ids1, h1, rfl, rfl⟩ := h; exact hp t h1 rfl rfl .nilp
    case ptr id off hv =>
      obtain ⟨l1, ids1, h1, rfl, rfl⟩ := h
      obtain ⟨q1, q2⟩ := argsOf_rep hPr t h1 (fun i id' hi => by have := hE (i + 1) id' (by simpa using hi); rwa [← Nat.add_assoc, Nat.add_right_comm] at this)
      have h2 := hE 0 id (by simp)
      simp only [Nat.add_zero] at h2
      refine ⟨.cons ?_ q1, by intro j hj; rcases List.mem_cons.1 hj with rfl | hj; exact hv; exact q2 j hj⟩
      rw [← h2.2]
      exact .ptr h2.1
    case fn f ids0 hv =>
      obtain ⟨l1, ids1, h1, rfl, rfl⟩ := h
      obtain ⟨q1, q2⟩ := argsOf_rep hPr t h1 (fun i id' hi => by have := hE (ids0.length + i) id' (by rw [List.getElem?_append_right (by omega)]; simpa using hi); rwa [← Nat.add_assoc] at this)
      refine ⟨.cons ?_ q1, by intro j hj; rcases List.mem_append.1 hj with hj | hj; exact hv j hj; exact q2 j hj⟩
      have key : ids0.map (fun i => Value.pointer (some ⟨E.ρ i, 0, none⟩)) = (List.range' k ids0.length).map fun i => Value.pointer (some ⟨Ec.ρ i, 0, none⟩) := by
        apply List.ext_getElem?
        intro i
        by_cases hi : i < ids0.length
        · have h2 := hE i ids0[i] (by rw [List.getElem?_append_left hi]; simp [hi])
          simp [hi, h2.2]
        · simp [hi]
      rw [key]
      refine .fn fun i hi => ?_
      simp only [List.mem_range'_1] at hi
      have hlt : i - k < ids0.length := by omega
      have h2 := (hE (i - k) ids0[i - k] (by rw [List.getElem?_append_left hlt]; simp [hlt])).1
      rwa [show k + (i - k) = i by omega] at h2

theorem obsOf_get {st : St} : ∀ {ids : List Nat} {obs : List (List DV)}, obsOf st ids = some obs → obs.length = ids.length ∧ ∀ (i id : Nat), ids[i]? = some id → ∃ cs ds, st.ob id = some cs ∧ allD cs = some ds ∧ obs[i]? = some ds
  | [], _, h => by simp [obsOf] at h; subst h; exact ⟨rfl, by simp⟩
  | k :: ids, _, h => by
    simp only [obsOf, Option.bind_eq_some_iff, Option.some.injEq] at h
    obtain ⟨cs, h1, ds, h2, r, h3, rfl⟩ := h
    obtain ⟨q1, q2⟩ := obsOf_get h3
    refine ⟨by simp [q1], fun i id hi => ?_⟩
    cases i with
    | zero => simp at hi; subst hi; exact ⟨cs, ds, h1, h2, rfl⟩
    | succ i => simp at hi; simpa using q2 i id hi

theorem ownsRow_block {base base' : Nat} {e : TypeId} {size : Nat} {v : Value} {n : Nat} {xs : List Value} (h : w.ownsRow base e size v n xs) (hb : ∀ g, v.ownBlock = some g → w'.heap[g]? = w.heap[g]?) (hbase : base' ≤ base) : w'.ownsRow base' e size v n xs := by
  refine ⟨h.1, h.2.imp (fun q => q) fun ⟨g, cap, cur, h1, h2, h3, h4⟩ => ⟨g, cap, cur, h1, Nat.le_trans hbase h2, (hb g (by rw [h1]; rfl)).trans h3, h4⟩⟩

/-- The objects that the call has written, one after the other. -/
def wrote : List Nat → List (List DV) → List (Nat × Option (List AV))
  | id :: ids, cs :: l => (id, some (cs.map .d)) :: wrote ids l
  | _, _ => []
theorem zipObs_eq : ∀ {ids : List Nat} {old new : List (List DV)} {no : Nat} {wo : List (Nat × Option (List AV))}, old.length = ids.length → zipObs ids (old ++ new) no = some wo → (new = [] ∧ wo = wrote ids old) ∨ (∃ cs, new = [cs] ∧ wo = wrote ids old ++ [(no, some (cs.map .d))])
  | [], [], [], no, wo, _, h => by simp [zipObs] at h; subst h; exact .inl ⟨rfl, rfl⟩
  | [], [], [cs], no, wo, _, h => by simp [zipObs] at h; subst h; exact .inr ⟨cs, rfl, rfl⟩
  | [], [], _ :: _ :: _, no, wo, _, h => by simp [zipObs] at h
  | id :: ids, cs :: old, new, no, wo, hl, h => by
    simp only [List.cons_append, zipObs, Option.bind_eq_some_iff, Option.some.injEq] at h
    obtain ⟨r, h1, rfl⟩ := h
    rcases zipObs_eq (by simpa using hl) h1 with ⟨rfl, rfl⟩ | ⟨cs', rfl, rfl⟩
    · exact .inl ⟨rfl, rfl⟩
    · exact .inr ⟨cs', rfl, rfl⟩
theorem updO_app : ∀ {l m : List (Nat × Option (List AV))} {f : Nat → Option (List AV)}, updO f (l ++ m) = updO (updO f l) m
  | [], _, _ => rfl
  | (_, _) :: l, _, _ => updO_app (l := l)
theorem updO_wrote : ∀ {ids : List Nat} {old : List (List DV)} {f : Nat → Option (List AV)}, old.length = ids.length → ids.Nodup → (∀ id, id ∉ ids → updO f (wrote ids old) id = f id) ∧ ∀ (i id : Nat), ids[i]? = some id → ∃ cs, old[i]? = some cs ∧ updO f (wrote ids old) id = some (cs.map .d)
  | [], _, f, _, _ => ⟨fun _ _ => rfl, by simp⟩
  | k :: ids, [], f, hl, _ => by simp at hl
  | k :: ids, cs :: old, f, hl, hn => by
    obtain ⟨hk, hn⟩ := List.nodup_cons.1 hn
    obtain ⟨q1, q2⟩ := updO_wrote (f := upd f k (some (cs.map .d))) (by simpa using hl) hn
    refine ⟨fun id hid => ?_, fun i id hi => ?_⟩
    · simp only [List.mem_cons, not_or] at hid
      exact (q1 id hid.2).trans (by rw [upd_apply, if_neg hid.1])
    · cases i with
      | zero =>
        simp at hi
        subst hi
        exact ⟨cs, rfl, (q1 k hk).trans (by rw [upd_apply, if_pos rfl])⟩
      | succ i =>
        simp at hi
        simpa [wrote, updO] using q2 i id hi

/-- Behind a call: old objects written, new blocks. -/
theorem SC.called {ob : Nat → Option (List AV)} {no nx : Nat} {ow : Nat → Bool} (h : SC P w0 E0 nob E ob no ow nx dn w) {ids : List Nat} (hids : ∀ id ∈ ids, (ob id).isSome = true) {ob' : Nat → Option (List AV)} {Pr' : Nat → Nat → Prop}
    (hp : ∀ b j, E.Pr b j → Pr' b j) (hp' : ∀ b j, Pr' b j → E.Pr b j ∨ (w.heap.size ≤ b ∧ b < w'.heap.size)) (hc : ∀ b j, E.Pr b j → w'.cell? ⟨b, j, none⟩ = w.cell? ⟨b, j, none⟩)
    (hfr : ∀ b, b < w.heap.size → (∀ id ∈ ids, b ≠ E.ρ id) → w'.heap[b]? = w.heap[b]?) (hos : w'.os = w.os) (htape : w'.tape = w.tape) (hout : w'.output = w.output) (hsize : w.heap.size ≤ w'.heap.size)
    (h1 : ∀ id, id ∉ ids → ob' id = ob id) (h2 : ∀ id ∈ ids, ∃ cs, ob' id = some cs ∧ ∃ vs T, w'.heap[E.ρ id]? = some (.cells vs T (0, 0)) ∧ Pre (RA { E with Pr := Pr' } w') cs vs.toList) :
    Ext E w { E with Pr := Pr' } w' ∧ SC P w0 E0 nob { E with Pr := Pr' } ob' no ow nx dn w' := by
  have he : Ext E w { E with Pr := Pr' } w' := ⟨hp, hc, fun _ h => ⟨h, rfl⟩, fun _ h => ⟨h, rfl, rfl⟩⟩
  have hsome : ∀ id, (ob' id).isSome = true → (ob id).isSome = true := fun id q => by
    by_cases e : id ∈ ids
    · exact hids id e
    · rwa [h1 id e] at q
  have hlt : ∀ id, (ob id).isSome = true → E.ρ id < w.heap.size := fun id q => by
    obtain ⟨cs, hcs⟩ := Option.isSome_iff_exists.1 q
    obtain ⟨us, U, q1, _⟩ := h.obk id cs hcs
    exact blk_lt q1
  refine ⟨he, ?_⟩
  exact
    { obk := fun id cs q => by
        by_cases e : id ∈ ids
        · obtain ⟨cs', k1, vs, T, k2, k3⟩ := h2 id e
          rw [k1] at q
          injection q with q
          subst q
          exact ⟨vs, T, k2, k3⟩
        · rw [h1 id e] at q
          obtain ⟨us, U, q1, q2⟩ := h.obk id cs q
          refine ⟨us, U, (hfr _ (blk_lt q1) fun j hj e' => e ?_).trans q1, q2.imp fun _ _ q => q.ext he⟩
          have hii := h.inj id j (by rw [q]; rfl) (hids j hj) e'
          subst hii
          exact hj
      obV := fun id q => h.obV id (hsome id q)
      Vb := h.Vb
      inj := fun i j hi hj => h.inj i j (hsome i hi) (hsome j hj)
      npr := fun id q j hj => by
        rcases hp' _ _ hj with hj | hj
        · exact h.npr id (hsome id q) j hj
        · have := hlt id (hsome id q)
          have e : w.heap.size ≤ E.ρ id := hj.1
          omega
      own := fun t ht => by
        obtain ⟨hu, inf, n, cells, q1, q2, q3⟩ := h.own t ht
        refine ⟨hu, inf, n, cells, q1, ownsRow_block q2 (fun g hg => ?_) (Nat.le_refl _), fun b hb => ⟨fun j hj => ?_, fun id q => (q3 b hb).2 id (hsome id q)⟩⟩
        · exact hfr g (q2.lt g hg).2 fun id hid e => (q3 g hg).2 id (hids id hid) e.symm
        · rcases hp' _ _ hj with hj | hj
          · exact (q3 b hb).1 j hj
          · have := (q2.lt b hb).2; omega
      ownd := h.ownd
      Ub := h.Ub
      prB := fun b j hj => by
        rcases hp' _ _ hj with hj | hj
        · exact Nat.lt_of_lt_of_le (h.prB b j hj) hsize
        · exact hj.2
      pr0 := fun b j hj => hp b j (h.pr0 b j hj)
      pr1 := fun b j hj => by
        rcases hp' _ _ hj with hj | hj
        · exact h.pr1 b j hj
        · exact .inr (Nat.le_trans h.size hj.1)
      old := fun k hk => by
        obtain ⟨q1, q2⟩ := h.old k hk
        refine ⟨?_, q2⟩
        by_cases e : k ∈ ids
        · obtain ⟨cs', k1, _⟩ := h2 k e; rw [k1]; rfl
        · rw [h1 k e]; exact q1
      new := fun id q hk => h.new id (hsome id q) hk
      nno := h.nno
      fr := fun b hb hi => by
        refine (hfr b (Nat.lt_of_lt_of_le hb h.size) fun id hid e => ?_).trans (h.fr b hb hi)
        by_cases hn : id < nob
        · exact hi id hn (by rw [e]; exact (h.old id hn).2)
        · have := h.new id (hids id hid) (by omega)
          omega
      os := hos.trans h.os
      tape := htape.trans h.tape
      output := hout.trans h.output
      size := Nat.le_trans h.size hsize }

/-- What a step must come to: a value, a world. -/
def Good (P : Program) (w0 : World) (E0 : Env) (nob : Nat) (E : Env) (st : St) (dn : Nat → Prop) (w : World) (e : Eff) (i : Nat) (v : Value) (w' : World) : Prop :=
  ∃ E', Ext E w E' w' ∧ RA E' w' e.v v ∧ SC P w0 E0 nob E' (updO st.ob e.wo) st.no (updL st.ow e.wt) st.nx (fun j => dn j ∨ j = i) w'

theorem RS.ext {E E' : Env} {w w' : World} (h : Ext E w E' w') {x : AV} {v : Value} (r : RS w E.Pr x v) : RS w' E'.Pr x v := by
  cases r with
  | d q => exact .d (q.ext h)
  | agg q => exact .agg (q.imp fun _ _ q => q.ext h)
theorem map_d {E : Env} {w : World} {cs : List DV} {vs : List Value} (h : All2 (RD w E.Pr) cs vs) : All2 (RA E w) (cs.map .d) vs := by
  induction h with
  | nil => exact .nil
  | cons h _ ih => exact .cons (.d h) ih
theorem tupD_eq : ∀ {vs us : List AV}, tupD vs = some us → us = vs
  | [], _, h => by simp [tupD] at h; exact h
  | .d x :: l, _, h => by
    simp only [tupD, Option.bind_eq_some_iff, Option.some.injEq] at h
    obtain ⟨r, h1, rfl⟩ := h
    rw [tupD_eq h1]
  | .agg x :: l, _, h => by
    simp only [tupD, Option.bind_eq_some_iff, Option.some.injEq] at h
    obtain ⟨r, h1, rfl⟩ := h
    rw [tupD_eq h1]
  | .row _ _ _ :: l, _, h => by simp [tupD] at h
  | .nils :: l, _, h => by simp [tupD] at h
  | .nilp :: l, _, h => by simp [tupD] at h
  | .ptr _ _ :: l, _, h => by simp [tupD] at h
  | .elp _ _ :: l, _, h => by simp [tupD] at h
  | .fn _ _ :: l, _, h => by simp [tupD] at h
  | .osl _ _ _ :: l, _, h => by simp [tupD] at h
  | .tup _ :: l, _, h => by simp [tupD] at h

theorem nodup_inj : ∀ {l : List Nat} {i j a : Nat}, l.Nodup → l[i]? = some a → l[j]? = some a → i = j
  | [], _, _, _, _, h, _ => by simp at h
  | x :: l, 0, 0, _, _, _, _ => rfl
  | x :: l, 0, j + 1, a, hn, h, h' => by simp at h h'; subst h; exact absurd (List.mem_of_getElem? h') (List.nodup_cons.1 hn).1
  | x :: l, i + 1, 0, a, hn, h, h' => by simp at h h'; subst h'; exact absurd (List.mem_of_getElem? h) (List.nodup_cons.1 hn).1
  | x :: l, i + 1, j + 1, a, hn, h, h' => by simp at h h'; rw [nodup_inj (List.nodup_cons.1 hn).2 h h']
theorem call_good {st : St} (sc : SC P w0 E0 nob E st.ob st.no st.ow st.nx dn w) {i : Nat} (hi : ¬ dn i) {cl : FuncId → Fun} (hcl : ∀ f, (∀ a o, cl f a o = none) ∨ (Enters P f ∧ Fits P f (cl f))) {fv : AV} {args : List AV} {fval : Value} {vals : List Value} (hf : RA E w fv fval) (ha : All2 (RA E w) args vals)
    {e : Eff} (he : acall cl i st fv args = some e) : ∃ f captured, fval = .func (.func f) #[] captured ∧ Enters P f ∧ Calls P f (vals ++ captured.toList).toArray w fun en w' => ∃ v, en = .returned v ∧ Good P w0 E0 nob E st dn w e i v w' := by
  simp only [acall, Option.bind_eq_some_iff] at he
  obtain ⟨⟨f, l', ids⟩, h1, h2⟩ := he
  cases hf <;> simp only [callArgs, reduceCtorEq, Option.bind_eq_some_iff, Option.some.injEq, Prod.mk.injEq] at h1
  case fn f0 caps hv =>
  obtain ⟨⟨l1, ids1⟩, h3, rfl, rfl, rfl⟩ := h1
  split at h2
  · rename_i hnd
    simp only [Option.bind_eq_some_iff, Option.some.injEq] at h2
    obtain ⟨obs, h4, ⟨r, obs'⟩, h5, wo, h6, ⟨v0, wt⟩, h7, rfl⟩ := h2
    simp only at h5 h6 h7
    rcases hcl f0 with hno | ⟨hent, hfit⟩
    · rw [hno] at h5; cases h5
    refine ⟨f0, _, rfl, hent, ?_⟩
    have hall : All2 (RA E w) (args ++ caps.map fun c => AV.ptr c 0) (vals ++ (caps.map fun i => Value.pointer (some ⟨E.ρ i, 0, none⟩))) := by
      refine ha.app ?_
      clear h3
      induction caps with
      | nil => exact .nil
      | cons c caps ih => exact .cons (.ptr (hv c (by simp))) (ih fun i hi => hv i (by simp [hi]))
    obtain ⟨o1, o2⟩ := obsOf_get h4
    let Ec : Env := { ρ := fun k => E.ρ (ids1.getD k 0), V := fun k => k < obs.length, τ := fun _ => Go.undef, ε := fun _ => 0, U := fun _ => False, Pr := E.Pr }
    have hρ : ∀ (k id : Nat), ids1[k]? = some id → Ec.ρ k = E.ρ id := fun k id hk => by simp [Ec, List.getD, hk]
    have hlen : ∀ (k id : Nat), ids1[k]? = some id → k < obs.length := fun k id hk => by rw [o1]; exact (List.getElem?_eq_some_iff.1 hk).1
    obtain ⟨a1, a2⟩ := argsOf_rep (E := E) (Ec := Ec) rfl hall h3 (fun k id hk => by rw [Nat.zero_add]; exact ⟨hlen k id hk, hρ k id hk⟩)
    have hget : ∀ k, k < obs.length → ∃ id, ids1[k]? = some id ∧ (st.ob id).isSome = true := fun k hk => by
      have hk' : k < ids1.length := by rw [← o1]; exact hk
      obtain ⟨cs, ds, q1, _⟩ := o2 k ids1[k] (by simp [hk'])
      exact ⟨ids1[k], by simp [hk'], by rw [q1]; rfl⟩
    have hin : CallIn Ec w l1 obs (vals ++ (caps.map fun i => Value.pointer (some ⟨E.ρ i, 0, none⟩))) :=
      { args := a1
        V := fun _ => Iff.rfl
        U := fun _ h => h
        ob := fun k cs hk => by
          obtain ⟨id, q1, _⟩ := hget k (List.getElem?_eq_some_iff.1 hk).1
          obtain ⟨cs', ds, q2, q3, q4⟩ := o2 k id q1
          rw [hk] at q4
          injection q4 with q4
          subst q4
          obtain ⟨vs, T, q5, q6⟩ := sc.obk id cs' q2
          exact ⟨vs, T, by rw [hρ k id q1]; exact q5, Pre.allD (E := E) q6 q3⟩
        inj := fun x y hx hy hxy => by
          obtain ⟨a, q1, q2⟩ := hget x hx
          obtain ⟨b, q3, q4⟩ := hget y hy
          rw [hρ x a q1, hρ y b q3] at hxy
          have := sc.inj a b q2 q4 hxy
          subst this
          exact nodup_inj hnd q1 q3
        npr := fun k hk => by
          obtain ⟨id, q1, q2⟩ := hget k hk
          rw [hρ k id q1]
          exact sc.npr id q2
        prB := sc.prB }
    have := hfit l1 obs r obs' h5 Ec w _ hin
    refine Calls.mono (by simpa using this) ?_
    rintro en w' ⟨v, rfl, hout⟩
    refine ⟨v, rfl, ?_⟩
    obtain ⟨⟨Pr', old, new, hobs, hold, p1, p2, p3, hres⟩, c1, c2, c3, c4, c5, c6⟩ := hout
    subst hobs
    have hol : old.length = ids1.length := by rw [hold, o1]
    obtain ⟨u1, u2⟩ := updO_wrote (f := st.ob) hol hnd
    have hmem : ∀ id ∈ ids1, (st.ob id).isSome = true := fun id hid => by
      obtain ⟨k, hk, e⟩ := List.getElem_of_mem hid
      obtain ⟨cs, ds, q1, _⟩ := o2 k id (by simp [hk, e])
      rw [q1]; rfl
    obtain ⟨x1, x2⟩ := sc.called (ids := ids1) hmem (ob' := updO st.ob (wrote ids1 old)) p1 p2 c1
      (fun b hb hno => c2 b hb fun k hk e => by
        obtain ⟨id, q1, _⟩ := hget k hk
        rw [hρ k id q1] at e
        exact hno id (List.mem_of_getElem? q1) e)
      c3 c4 c5 c6 u1
      (fun id hid => by
        obtain ⟨k, hk, e⟩ := List.getElem_of_mem hid
        have hk' : ids1[k]? = some id := by simp [hk, e]
        obtain ⟨cs, q1, q2⟩ := u2 k id hk'
        obtain ⟨vs, T, q3, q4⟩ := p3 k cs q1
        exact ⟨_, q2, vs, T, by rw [← hρ k id hk']; exact q3, Pre.map_d (E := { E with Pr := Pr' }) q4⟩)
    have hsize : ∀ id, (updO st.ob (wrote ids1 old) id).isSome = true → E.ρ id < w.heap.size := fun id q => by
      have q' : (st.ob id).isSome = true := by
        by_cases e : id ∈ ids1
        · exact hmem id e
        · rwa [u1 id e] at q
      obtain ⟨cs, hcs⟩ := Option.isSome_iff_exists.1 q'
      obtain ⟨us, U, q1, _⟩ := sc.obk id cs hcs
      exact blk_lt q1
    have hrows : ∀ t, st.ow t = true → ∀ b, (E.τ t).ownBlock = some b → b < w.heap.size := fun t ht b hb => by
      obtain ⟨_, inf', n', cells', _, r2, _⟩ := sc.own t ht
      exact (r2.lt _ hb).2
    have plain : ∀ {v0 : AV}, new = [] → wt = [] → RA { E with Pr := Pr' } w' v0 v → Good P w0 E0 nob E st dn w ⟨v0, wo, wt⟩ i v w' := by
      intro v0 hn hw hr
      subst hn
      subst hw
      rcases zipObs_eq hol h6 with ⟨_, rfl⟩ | ⟨cs, h, _⟩
      · exact ⟨_, x1, hr, x2.dn_mono fun _ h => .inl h⟩
      · cases h
    cases hres with
    | d h =>
      simp only [getRes, Option.some.injEq, Prod.mk.injEq] at h7
      obtain ⟨rfl, rfl⟩ := h7
      exact plain rfl rfl (.d h)
    | agg h =>
      simp only [getRes, Option.some.injEq, Prod.mk.injEq] at h7
      obtain ⟨rfl, rfl⟩ := h7
      exact plain rfl rfl (.agg h)
    | nilp =>
      simp only [getRes, Option.some.injEq, Prod.mk.injEq] at h7
      obtain ⟨rfl, rfl⟩ := h7
      exact plain rfl rfl .nilp
    | tup h =>
      simp only [getRes, Option.bind_eq_some_iff, Option.some.injEq, Prod.mk.injEq] at h7
      obtain ⟨vs', h8, rfl, rfl⟩ := h7
      rw [tupD_eq h8]
      exact plain rfl rfl (.tup h)
    | @old k off h =>
      have hk : k ≠ ids1.length := by rw [← o1]; omega
      simp only [getRes, if_neg hk, Option.bind_eq_some_iff, Option.some.injEq, Prod.mk.injEq] at h7
      obtain ⟨id, h8, rfl, rfl⟩ := h7
      have hr : RA { E with Pr := Pr' } w' (.ptr id off) (.pointer (some ⟨E.ρ id, off, none⟩)) := .ptr (a2 id (List.mem_of_getElem? h8))
      rw [← hρ k id h8] at hr
      exact plain rfl rfl hr
    | @new off b cs vs T hb hh h hp =>
      rw [o1] at h7
      simp only [getRes, if_true, Option.some.injEq, Prod.mk.injEq] at h7
      obtain ⟨rfl, rfl⟩ := h7
      rcases zipObs_eq hol h6 with ⟨h, _⟩ | ⟨cs', h8, rfl⟩
      · cases h
      · injection h8 with h8
        subst h8
        obtain ⟨E', y1, y2, y3, y4⟩ := x2.addObj hi hh (Pre.map_d (E := { E with Pr := Pr' }) h) (Nat.le_trans sc.size hb)
          (fun id hid e => by have := hsize id hid; have e' : E.ρ id = b := e; omega) hp
          (fun t ht hb' => by have := hrows t ht b hb'; omega)
        refine ⟨E', x1.trans y1, ?_, ?_⟩
        · have := RA.ptr (E := E') (w := w') (off := off) y3
          rwa [y2] at this
        · rw [updO_app]
          exact y4
    | @newS sz m c b cs vs T hb hh h hp hcap =>
      rw [o1] at h7
      simp only [getRes, if_true, Option.some.injEq, Prod.mk.injEq] at h7
      obtain ⟨rfl, rfl⟩ := h7
      rcases zipObs_eq hol h6 with ⟨h, _⟩ | ⟨cs', h8, rfl⟩
      · cases h
      · injection h8 with h8
        subst h8
        obtain ⟨E', y1, y2, y3, y4⟩ := x2.addObj hi hh (Pre.map_d (E := { E with Pr := Pr' }) h) (Nat.le_trans sc.size hb)
          (fun id hid e => by have := hsize id hid; have e' : E.ρ id = b := e; omega) hp
          (fun t ht hb' => by have := hrows t ht b hb'; omega)
        refine ⟨E', x1.trans y1, ?_, ?_⟩
        · have := RA.osl (E := E') (w := w') (sz := sz) y3 hcap
          rwa [y2] at this
        · rw [updO_app]
          exact y4
    | @row t e xs _ inf m cells h hinf ho hp =>
      simp only [getRes, Option.some.injEq, Prod.mk.injEq] at h7
      obtain ⟨rfl, rfl⟩ := h7
      rcases zipObs_eq hol h6 with ⟨_, rfl⟩ | ⟨cs, h, _⟩
      · have hge : ∀ b, v.ownBlock = some b → w.heap.size ≤ b := fun b hb => (ho.lt b hb).1
        obtain ⟨E', y1, y2, y3, y4, _, _, y5⟩ := x2.addRow hi hinf (v := v) (n := m) (cells := cells) (ownsRow_block ho (fun _ _ => rfl) sc.size)
          (fun b hb id hid e => by have := hsize id hid; have := hge b hb; have e' : E.ρ id = b := e; omega)
          hp (fun b hb t' ht' hb' => by have := hrows t' ht' b hb'; have := hge b hb; omega)
        refine ⟨E', x1.trans y1, ?_, y5⟩
        have := RA.row (E := E') (w := w') y4 (xs := xs) (by rw [y2]; exact h.ext y1)
        rwa [y2, y3] at this
      · cases h
  · cases h2
end Go.Ae
