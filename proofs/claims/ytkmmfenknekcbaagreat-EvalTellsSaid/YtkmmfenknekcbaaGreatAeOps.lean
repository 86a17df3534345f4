/-
  THE WRITING OPERATIONS: new variables, boxes, rows, stores, appends.
-/
import Derived.Test.YtkmmfenknekcbaaGreatAeState
set_option linter.unusedSimpArgs false
set_option linter.unusedVariables false
namespace Go.Ae
open Go.RowKit
variable {P : Program} {w0 : World} {E0 E : Env} {nob : Nat} {dn : Nat → Prop} {w w' : World}

def StepOk (P : Program) (w0 : World) (E0 : Env) (nob : Nat) (E : Env) (st : St) (dn : Nat → Prop) (w : World) (o : Oper) (a : Act) (e : Eff) (i : Nat) : Prop :=
  ∃ v w' E', Out P o a w v w' ∧ Ext E w E' w' ∧ RA E' w' e.v v ∧ SC P w0 E0 nob E' (updO st.ob e.wo) st.no (updL st.ow e.wt) st.nx (fun j => dn j ∨ j = i) w'

theorem blk_lt {b : Nat} {o : Obj} (q : w.heap[b]? = some o) : b < w.heap.size := (Array.getElem?_eq_some_iff.1 q).1
theorem alloc_old (o : Obj) (b : Nat) (h : b < w.heap.size) : (w.alloc o).heap[b]? = w.heap[b]? := Below.heap_alloc w o b h
theorem SC.alloc {E : Env} {ob : Nat → Option (List AV)} {no nx : Nat} {ow : Nat → Bool} (h : SC P w0 E0 nob E ob no ow nx dn w) (o : Obj) : SC P w0 E0 nob E ob no ow nx dn (w.alloc o) :=
  h.grow (fun b hb => alloc_old o b hb) (by simp) rfl rfl rfl
/-- A new variable. -/
theorem new_var {st : St} (sc : SC P w0 E0 nob E st.ob st.no st.ow st.nx dn w) {i : Nat} (hi : ¬ dn i) {cs : List AV} {vs : Array Value} {T : TypeId} (hr : All2 (RA E w) cs vs.toList) :
    ∃ E', Ext E w E' (w.alloc (.cells vs T)) ∧ RA E' (w.alloc (.cells vs T)) (.ptr (st.no + i) 0) (.pointer (some ⟨w.heap.size, 0, none⟩)) ∧ SC P w0 E0 nob E' (upd st.ob (st.no + i) (some cs)) st.no st.ow st.nx (fun j => dn j ∨ j = i) (w.alloc (.cells vs T)) := by
  have he : Ext E w E (w.alloc (.cells vs T)) := Ext.below sc.prB (fun b hb => alloc_old _ b hb)
  obtain ⟨E', h1, h2, h3, h4⟩ := (sc.alloc (.cells vs T)).addObj hi (b := w.heap.size) (heap_alloc_new w _) (.of (hr.imp fun _ _ q => q.ext he)) sc.size
    (fun id hid e => by
      obtain ⟨cs', hcs⟩ := Option.isSome_iff_exists.1 hid
      obtain ⟨us, U, q1, _⟩ := sc.obk id cs' hcs
      have := blk_lt q1
      omega)
    (fun j hp => by have := sc.prB _ _ hp; omega)
    (fun t ht hb => by
      obtain ⟨_, inf, n, cells, _, q2, _⟩ := sc.own t ht
      have := (q2.lt _ hb).2
      omega)
  refine ⟨E', he.trans h1, ?_, h4⟩
  have := RA.ptr (E := E') (w := w.alloc (.cells vs T)) (off := 0) h3
  rwa [h2] at this

theorem op_new {st : St} (sc : SC P w0 E0 nob E st.ob st.no st.ow st.nx dn w) {o : Oper} {a : Act} {i : Nat} (hi : ¬ dn i) {t : TypeId} {z : List AV} {e : Eff} (hop : o.op = .alloc t) (hz : tzeroA P t = some z) (he : aop i st (.new z) = some e) : StepOk P w0 E0 nob E st dn w o a e i := by
  simp only [aop] at he
  injection he with he
  subst he
  unfold tzeroA at hz
  obtain ⟨inf, h1, h2⟩ := Option.bind_eq_some_iff.1 hz
  obtain ⟨v, h3, h4⟩ := Option.bind_eq_some_iff.1 h2
  have hr : All2 (RA E w) z v.cells.toList := by
    have := mapO_rep (f := constA) (R := RA E w) (g := fun v => v) (fun x y h => constA_rep h) h4
    simpa using this
  obtain ⟨E', h5, h6, h7⟩ := new_var sc hi (T := t) hr
  refine ⟨_, _, E', .inl ?_, h5, h6, h7⟩
  simp only [execOp, hop, Instr.alloc, zeroValue, typeInfo, Sem.run_bind, run_program, Result.andThen_ok, h1, h3, Sem.run_pure, newVar, newRow, run_newObj]
  rfl
theorem op_box {st : St} (sc : SC P w0 E0 nob E st.ob st.no st.ow st.nx dn w) {o : Oper} {a : Act} (htm : ∀ i, RA E w (st.tm i) (a.tmps.getD i Go.undef)) {i : Nat} (hi : ¬ dn i) {t : TypeId} {x : Operand} {x' : Opd} {e : Eff} (hop : o.op = .box t x) (hx : cOpd x = some x') (he : aop i st (.box x') = some e) : StepOk P w0 E0 nob E st dn w o a e i := by
  simp only [aop, Option.bind_eq_some_iff] at he
  obtain ⟨z, h1, h2⟩ := he
  injection h2 with h2
  subst h2
  obtain ⟨hr, _⟩ := (opd_rep htm hx).cells h1
  obtain ⟨E', h5, h6, h7⟩ := new_var sc hi (T := t) hr
  refine ⟨_, _, E', .inl ?_, h5, h6, h7⟩
  simp only [execOp, hop, Instr.box, Sem.run_bind, newVar, newRow, run_newObj, Result.andThen_ok, Sem.run_pure]
  rfl

theorem fold_set (off : Nat) : ∀ (l : List Value) (k : Nat) (m : Array Value), off + k + l.length ≤ m.size → ((l.zipIdx k).foldl (fun cs (p : Value × Nat) => cs.setIfInBounds (off + p.2) p.1) m).toList = m.toList.take (off + k) ++ l ++ m.toList.drop (off + k + l.length)
  | [], k, m, _ => by simp
  | u :: l, k, m, hm => by
    simp only [List.length_cons] at hm
    rw [List.zipIdx_cons, List.foldl_cons, fold_set off l (k + 1) _ (by simp; omega)]
    have := list_seg_step m.toList (off + k) u l (by simp; omega)
    simpa [Nat.add_assoc] using this
theorem fill_row {a : Act} {sz : Nat} : ∀ {l : List (Nat × Operand)} {xs : List Operand} {k : Nat} {m : Array Value}, inOrder k l = some xs → (∀ x ∈ xs, (a.eval x).cells.size = sz) → (k + l.length) * sz ≤ m.size →
    ∃ u : Array Value, Instr.fill (fun i => some (i * sz, sz)) m (l.map fun p => (p.1, a.eval p.2)) = some u ∧ u.toList = m.toList.take (k * sz) ++ (xs.flatMap fun x => (a.eval x).cells.toList) ++ m.toList.drop ((k + l.length) * sz)
  | [], _, k, m, h, _, _ => by simp [inOrder] at h; subst h; exact ⟨m, rfl, by simp⟩
  | (i, x) :: l, _, k, m, h, hs, hm => by
    simp only [inOrder] at h
    split at h
    · rename_i hik
      subst hik
      obtain ⟨ys, h1, rfl⟩ := Option.map_eq_some_iff.1 h
      have hx : (a.eval x).cells.size = sz := hs x (by simp)
      have e1 : (i + 1) * sz = i * sz + sz := by rw [Nat.add_mul, Nat.one_mul]
      have e2 : (i + (l.length + 1)) * sz = (i + 1 + l.length) * sz := by congr 1; omega
      have e3 : (i + 1) * sz ≤ (i + 1 + l.length) * sz := Nat.mul_le_mul_right _ (by omega)
      simp only [List.length_cons] at hm
      let m' : Array Value := (a.eval x).cells.zipIdx.foldl (fun cs (p : Value × Nat) => cs.setIfInBounds (i * sz + p.2) p.1) m
      have hm' : m'.toList = m.toList.take (i * sz) ++ (a.eval x).cells.toList ++ m.toList.drop (i * sz + sz) := by
        have := fold_set (i * sz) (a.eval x).cells.toList 0 m (by simp [hx]; omega)
        simp only [Nat.add_zero, Array.length_toList, hx] at this
        rw [← this]
        have hq : m' = (a.eval x).cells.toList.zipIdx.foldl (fun cs (p : Value × Nat) => cs.setIfInBounds (i * sz + p.2) p.1) m := by simp only [m']; rw [← Array.foldl_toList, Array.toList_zipIdx]
        rw [hq]
      have hsz' : m'.size = m.size := by
        rw [← Array.length_toList, hm']
        simp [hx]
        omega
      obtain ⟨u, h2, h3⟩ := fill_row (a := a) (k := i + 1) (m := m') h1 (fun y hy => hs y (by simp [hy])) (by rw [hsz']; omega)
      refine ⟨u, ?_, ?_⟩
      · simp only [List.map_cons, Instr.fill]
        rw [if_neg (by simp [hx]; omega)]
        exact h2
      · rw [h3, hm']
        have l1 : (m.toList.take (i * sz)).length = i * sz := by simp; omega
        have l2 : (a.eval x).cells.toList.length = sz := by simpa using hx
        have l3 : (m.toList.take (i * sz) ++ (a.eval x).cells.toList).length = (i + 1) * sz := by simp only [List.length_append, l1, l2, e1]
        have t1 : (m.toList.take (i * sz) ++ (a.eval x).cells.toList ++ m.toList.drop (i * sz + sz)).take ((i + 1) * sz) = m.toList.take (i * sz) ++ (a.eval x).cells.toList := by rw [← l3, List.take_left]
        have t2 : (m.toList.take (i * sz) ++ (a.eval x).cells.toList ++ m.toList.drop (i * sz + sz)).drop ((i + 1 + l.length) * sz) = m.toList.drop ((i + (l.length + 1)) * sz) := by
          rw [List.drop_append, List.drop_eq_nil_of_le (by rw [l3]; exact e3), l3, List.nil_append, List.drop_drop, e2]
          congr 1
          omega
        rw [t1, t2]
        simp
    · cases h

theorem op_mkrow {st : St} (sc : SC P w0 E0 nob E st.ob st.no st.ow st.nx dn w) {o : Oper} {a : Act} (htm : ∀ i, RA E w (st.tm i) (a.tmps.getD i Go.undef)) {i : Nat} (hi : ¬ dn i) {t el : TypeId} {len : Nat} {parts : Array (Nat × Operand)} {l : List Operand} {l' : List Opd} {inf : TypeInfo} {z : Value} {e : Eff}
    (hop : o.op = .buildSlice t len parts) (hu : P.underlying t = some (.slice el)) (hinf : P.info? el = some inf) (hz : inf.zero = some z) (hlen : parts.size = len) (hzs : z.cells.size = inf.size) (hpos : 0 < inf.size) (hmax : len * inf.size ≤ 16777216)
    (hl : inOrder 0 parts.toList = some l) (hl' : mapO cOpd l = some l') (he : aop i st (.mkrow el inf.size l') = some e) : StepOk P w0 E0 nob E st dn w o a e i := by
  simp only [aop, Option.bind_eq_some_iff] at he
  obtain ⟨xs, h1, h2⟩ := he
  injection h2 with h2
  subst h2
  obtain ⟨h3, h4, h5, h6⟩ := elems_rep htm rfl hl' h1
  have hll : l.length = len := by
    have : ∀ {k : Nat} {p : List (Nat × Operand)} {q : List Operand}, inOrder k p = some q → q.length = p.length := by
      intro k p
      induction p generalizing k with
      | nil => intro q h; simp [inOrder] at h; subst h; rfl
      | cons x p ih =>
        intro q h
        simp only [inOrder] at h
        split at h
        · obtain ⟨r, h7, rfl⟩ := Option.map_eq_some_iff.1 h
          simp [ih h7]
        · cases h
    rw [this hl, Array.length_toList, hlen]
  let Z : Array Value := if len * inf.size = 0 then #[] else z.cells
  have hrow : ((Array.range (len * inf.size)).map (Z[· % Z.size]!)).size = len * inf.size := by simp
  obtain ⟨u, h7, h8⟩ := fill_row (a := a) (sz := inf.size) (k := 0) (m := (Array.range (len * inf.size)).map (Z[· % Z.size]!)) hl h6 (by rw [hrow]; simp [hlen])
  have hu8 : u.toList = l.flatMap fun x => (a.eval x).cells.toList := by
    rw [h8]
    have : ((Array.range (len * inf.size)).map (Z[· % Z.size]!)).toList.drop ((0 + parts.toList.length) * inf.size) = [] := by
      apply List.drop_eq_nil_of_le
      rw [Array.length_toList, hrow]
      simp [hlen]
    rw [this]
    simp
  have hus : u.size = len * inf.size := by
    rw [← Array.length_toList, hu8, ← h5.length, flat_len h4, h3, hll]
  have hrun : (Instr.buildSlice t len (parts.map fun (p : Nat × Operand) => (p.1, a.eval p.2))).run P w = .ok (.slice (some ⟨w.heap.size, 0, none⟩) len len) (w.alloc (.cells u el)) := by
    have hp : (parts.map fun (p : Nat × Operand) => (p.1, a.eval p.2)).toList = parts.toList.map fun p => (p.1, a.eval p.2) := by simp
    have hsz : tsize P el = some inf.size := by simp [tsize, hinf]
    simp only [Instr.buildSlice, Sem.run_bind, run_underlying hu, run_tsize hsz, Result.andThen_ok]
    rw [if_neg (by omega)]
    by_cases h0 : len * inf.size = 0
    · have hZ : Z = #[] := if_pos h0
      rw [hZ] at h7
      rw [if_pos h0]
      simp only [Sem.run_bind, Sem.run_pure, Result.andThen_ok, hp]
      rw [h7]
      simp only [newRow, Sem.run_bind, run_newObj, Result.andThen_ok, Sem.run_pure]
      rfl
    · have hZ : Z = z.cells := if_neg h0
      rw [hZ] at h7
      rw [if_neg h0]
      simp only [Sem.run_bind, zeroValue, typeInfo, run_program, hinf, hz, Sem.run_pure, Result.andThen_ok, hp]
      rw [h7]
      simp only [newRow, Sem.run_bind, run_newObj, Result.andThen_ok, Sem.run_pure]
      rfl
  have hgrow : Ext E w E (w.alloc (.cells u el)) := Ext.below sc.prB (fun b hb => alloc_old _ b hb)
  have hold : ∀ {b : Nat} {ob : Obj}, w.heap[b]? = some ob → b ≠ w.heap.size := fun q e => by have := blk_lt q; omega
  obtain ⟨E', q1, q2, q3, q4, q5, _, q6⟩ := (sc.alloc (.cells u el)).addRow hi hinf (v := .slice (some ⟨w.heap.size, 0, none⟩) len len) (n := len) (cells := u.toList)
    (World.ownsRow_lit w u len sc.size (by simp only [maxLen]; have : len ≤ len * inf.size := Nat.le_mul_of_pos_right _ hpos; omega) hus)
    (fun b hb id hid e' => by
      simp [Value.ownBlock] at hb
      obtain ⟨cs', hcs⟩ := Option.isSome_iff_exists.1 hid
      obtain ⟨us, U, r1, _⟩ := sc.obk id cs' hcs
      exact hold r1 (by rw [e', ← hb]))
    (fun b hb j hp => by simp [Value.ownBlock] at hb; have := sc.prB _ _ hp; omega)
    (fun b hb t' ht hb' => by
      simp [Value.ownBlock] at hb
      obtain ⟨_, inf', n', cells', _, r2, _⟩ := sc.own t' ht
      have := (r2.lt _ hb').2
      omega)
  refine ⟨.slice (some ⟨w.heap.size, 0, none⟩) len len, w.alloc (.cells u el), E', .inl ?_, hgrow.trans q1, ?_, q6⟩
  · simp only [execOp, hop, Sem.run_bind, hrun, Result.andThen_ok, Sem.run_pure]
  · have hrd : RD (w.alloc (.cells u el)) E'.Pr (.sl xs) (.slice (some ⟨w.heap.size, 0, none⟩) xs.length len) := by
      refine .sl xs _ len inf.size w.heap.size 0 (by omega) h4 (fun _ => rfl) (RC.of_vals (vs := u.toList) ?_ ?_ ?_)
      · rw [hu8]
        exact (h5.imp fun _ _ q => (q.ext hgrow).ext q1)
      · intro j v hj
        rw [Nat.zero_add, cell_at (heap_alloc_new w (.cells u el))]
        simpa using hj
      · intro j hj
        refine (q5 _ _).2 (.inr ⟨rfl, ?_⟩)
        rw [flat_len h4] at hj
        rw [Nat.zero_add, ← hll, ← h3]
        exact hj
    have hxl : xs.length = len := by rw [h3, hll]
    rw [hxl] at hrd
    have := RA.row (E := E') (w := w.alloc (.cells u el)) q4 (xs := xs) (by rw [q2]; exact hrd)
    rwa [q2, q3] at this

theorem storeVar_run {t : TypeId} {n : Nat} (hs : tsize P t = some n) {b off : Nat} {v : Value} {cur : Array Value} {T : TypeId} (hh : w.heap[b]? = some (.cells cur T (0, 0))) (hn : v.cells.size = n) (hfit : off + n ≤ cur.size) (h1 : ∀ u ∈ v.cells.toList, u.oneCell' = true) :
    (storeVar t ⟨b, off, none⟩ v).run P w = .ok () (w.setRow b (cur.toList.take off ++ v.cells.toList ++ cur.toList.drop (off + n)).toArray) := by
  have := run_storeCells_at P b off T v.cells.toList 0 cur w hh (by simp; omega) h1
  simp only [storeVar, Sem.run_bind, run_tsize hs, Result.andThen_ok]
  rw [if_neg (by simp [hn])]
  simpa [hn] using this
theorem setRow_heap_ne {b b' : Nat} (h : b' ≠ b) (cs : Array Value) : (w.setRow b cs).heap[b']? = w.heap[b']? := setRow_other w b b' cs h
/-- A store into an object. -/
theorem SC.store {E : Env} {ob : Nat → Option (List AV)} {no nx : Nat} {ow : Nat → Bool} (h : SC P w0 E0 nob E ob no ow nx dn w) {id : Nat} {cs cs' : List AV} {vs vs' : Array Value} {T : TypeId} (hid : ob id = some cs) (hh : w.heap[E.ρ id]? = some (.cells vs T (0, 0))) (hr : Pre (RA E w) cs' vs'.toList) :
    Ext E w E (w.setRow (E.ρ id) vs') ∧ SC P w0 E0 nob E (upd ob id (some cs')) no ow nx dn (w.setRow (E.ρ id) vs') := by
  have hs : (ob id).isSome = true := by rw [hid]; rfl
  have he : Ext E w E (w.setRow (E.ρ id) vs') := ⟨fun _ _ h => h, fun b j hp => World.cell?_of_block (a := ⟨b, j, none⟩) (setRow_heap_ne (fun e => h.npr id hs j (by rw [← e]; exact hp)) vs'), fun _ h => ⟨h, rfl⟩, fun _ h => ⟨h, rfl, rfl⟩⟩
  have hsome : ∀ k, (upd ob id (some cs') k).isSome = true → (ob k).isSome = true := fun k q => by
    by_cases e : k = id
    · rw [e]; exact hs
    · rwa [upd_apply, if_neg e] at q
  have hsz : (w.setRow (E.ρ id) vs').heap.size = w.heap.size := by simp [World.setRow]
  refine ⟨he, ?_⟩
  exact
    { obk := fun k c q => by
        rw [upd_apply] at q
        split at q
        · rename_i e
          injection q with q
          subst q
          subst e
          exact ⟨vs', T, setRow_heap w _ vs vs' T (0, 0) hh, hr.imp fun _ _ q => q.ext he⟩
        · rename_i e
          obtain ⟨us, U, q1, q2⟩ := h.obk k c q
          have hk : (ob k).isSome = true := by rw [q]; rfl
          exact ⟨us, U, by rw [setRow_heap_ne (fun e' => e (h.inj k id hk hs e'))]; exact q1, q2.imp fun _ _ q => q.ext he⟩
      obV := fun k q => h.obV k (hsome k q)
      Vb := h.Vb
      inj := fun i j hi hj e => h.inj i j (hsome i hi) (hsome j hj) e
      npr := fun k q j => h.npr k (hsome k q) j
      own := fun t ht => by
        obtain ⟨hu, inf, n, cells, q1, q2, q3⟩ := h.own t ht
        refine ⟨hu, inf, n, cells, q1, ?_, fun b hb => ⟨(q3 b hb).1, fun k q => (q3 b hb).2 k (hsome k q)⟩⟩
        refine q2.kept (row := some (E.ρ id)) ⟨rfl, rfl, rfl, by rw [hsz]; exact Nat.le_refl _, fun k _ hk => setRow_heap_ne (fun e => hk (by rw [e])) vs'⟩ ?_
        cases hb : (E.τ t).ownBlock with
        | none => exact .inl rfl
        | some b => exact .inr fun e => (q3 b hb).2 id hs (by injection e with e; exact e.symm)
      ownd := h.ownd
      Ub := h.Ub
      prB := fun b j hp => by rw [hsz]; exact h.prB b j hp
      pr0 := h.pr0
      pr1 := h.pr1
      old := fun k hk => by
        obtain ⟨q1, q2⟩ := h.old k hk
        refine ⟨?_, q2⟩
        rw [upd_apply]
        split
        · rfl
        · exact q1
      new := fun k q hk => h.new k (hsome k q) hk
      nno := h.nno
      fr := fun b hb hi => by
        rw [setRow_heap_ne]
        · exact h.fr b hb hi
        · intro e
          by_cases hn : id < nob
          · exact hi id hn (by rw [e]; exact (h.old id hn).2)
          · have := h.new id hs (by omega)
            omega
      os := h.os
      tape := h.tape
      output := h.output
      size := by rw [hsz]; exact h.size }
theorem op_st {st : St} (sc : SC P w0 E0 nob E st.ob st.no st.ow st.nx dn w) {o : Oper} {a : Act} (htm : ∀ i, RA E w (st.tm i) (a.tmps.getD i Go.undef)) {i : Nat} {t : TypeId} {x y : Operand} {x' y' : Opd} {n : Nat} {e : Eff}
    (hop : o.op = .store t x y) (hs : tsize P t = some n) (hx : cOpd x = some x') (hy : cOpd y = some y') (he : aop i st (.st n x' y') = some e) : StepOk P w0 E0 nob E st dn w o a e i := by
  have hxr := opd_rep htm hx
  have hyr := opd_rep htm hy
  simp only [aop] at he
  split at he
  · rename_i id off heq
    obtain ⟨cs, h1, h2⟩ := Option.bind_eq_some_iff.1 he
    obtain ⟨vs, h3, h4⟩ := Option.bind_eq_some_iff.1 h2
    split at h4
    · rename_i hl
      obtain ⟨cs', h5, h6⟩ := Option.bind_eq_some_iff.1 h4
      injection h6 with h6
      subst h6
      obtain ⟨us, T, h7, h8⟩ := sc.obk id cs h1
      obtain ⟨h9, h10⟩ := hyr.cells h3
      obtain ⟨h11, h12⟩ := h8.over h9 h5
      have hn : (a.eval y).cells.size = n := by rw [← hl, h9.length]; simp
      rw [heq] at hxr
      generalize hv : a.eval x = v at hxr
      cases hxr with
      | ptr hV =>
        have hrun := storeVar_run hs h7 hn (off := off) (by rw [← hn]; simpa using h12) h10
        obtain ⟨q1, q2⟩ := sc.store h1 h7 (cs' := cs') (vs' := (us.toList.take off ++ (a.eval y).cells.toList ++ us.toList.drop (off + n)).toArray) (by simpa [hn] using h11)
        refine ⟨Go.undef, _, E, .inr ⟨?_, rfl⟩, q1, RA.undef _ _, q2.dn_mono fun _ h => .inl h⟩
        simp only [execOp, hop, hv, Instr.storeAt, Instr.sureAddr, Sem.run_bind, Sem.run_pure, Result.andThen_ok, hrun]
    · cases h4
  · cases he
/-- A load that gives up what it finds as data. -/
theorem op_ldz {st : St} (sc : SC P w0 E0 nob E st.ob st.no st.ow st.nx dn w) (hnb : st.nb = nob) {o : Oper} {a : Act} (htm : ∀ i, RA E w (st.tm i) (a.tmps.getD i Go.undef)) {i : Nat} {t : TypeId} {x : Operand} {x' : Opd} {n : Nat} {e : Eff}
    (hop : o.op = .load t x) (hl : tload P t = some (some n)) (hx : cOpd x = some x') (he : ldz st n x' = some e) : StepOk P w0 E0 nob E st dn w o a e i := by
  have hxr := opd_rep htm hx
  unfold ldz at he
  split at he
  · rename_i id off heq
    simp only [Option.bind_eq_some_iff, Option.some.injEq] at he
    obtain ⟨cs, h1, l, h2, ⟨ds, ids⟩, h3, rfl⟩ := he
    obtain ⟨us, T, h4, h5⟩ := sc.obk id cs h1
    obtain ⟨h6, h7, h8⟩ := (h5.drop off).takeN h2
    rw [hnb] at h3
    obtain ⟨E', q1, q2, q3⟩ := frz_sound sc h6 h3
    rw [heq] at hxr
    generalize hv : a.eval x = v at hxr
    cases hxr with
    | ptr hV =>
      have hlen : ((us.toList.drop off).take n).length = n := by rw [← h6.length, h7]
      have hrun := run_load_many (P := P) hl (w := w) (ad := ⟨E.ρ id, off, none⟩) hlen (fun j u hj => by
        rw [add_lit, cell_at h4]
        have hjn : j < n := by rw [← hlen]; exact (List.getElem?_eq_some_iff.1 hj).1
        rw [List.getElem?_take_of_lt hjn, List.getElem?_drop] at hj
        simpa using hj)
      refine ⟨_, w, E', .inl ?_, q1, .agg (arr := ((us.toList.drop off).take n).toArray) (by simpa using q3), q2.dn_mono fun _ h => .inl h⟩
      simp only [execOp, hop, hv, Instr.loadAt, Instr.sureAddr, Sem.run_bind, Sem.run_pure, Result.andThen_ok, hrun]
  · cases he
end Go.Ae
