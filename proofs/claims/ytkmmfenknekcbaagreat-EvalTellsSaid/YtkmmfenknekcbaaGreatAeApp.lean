/-
  APPEND, onto a row of one's own, or onto nil.
-/
import Derived.Test.YtkmmfenknekcbaaGreatAeOps
set_option linter.unusedSimpArgs false
set_option linter.unusedVariables false
namespace Go.Ae
open Go.RowKit
variable {P : Program} {w0 : World} {E0 E : Env} {nob : Nat} {dn : Nat → Prop} {w w' : World}

theorem append_sem (w : World) (base : Nat) {t ty e : TypeId} {inf : TypeInfo} {z : Value} (ht : P.underlying t = some (.slice e)) (hi : P.info? e = some inf) (hz : inf.zero = some z) (hzs : z.cells.size = inf.size) (hby : 0 < inf.bytes)
    {v : Value} {n : Nat} {xs : List Value} (hown : w.ownsRow base e inf.size v n xs) {A : Option Addr} {m c : Nat} {news : List Value} (hl : news.length = m * inf.size) (hA : ∀ a, A = some a → ∀ j u, news[j]? = some u → w.cell? (a.add j) = some u)
    (hn : A = none → m = 0) (h1 : ∀ u ∈ news, u.oneCell' = true) (hbytes : (n + m) * inf.bytes ≤ 140737488355328) (hbase : base ≤ w.heap.size) :
    ∃ v' w', (Builtin.append_ #[t, t] ty #[v, .slice A m c]).run P w = .ok v' w' ∧ w'.ownsRow base e inf.size v' (n + m) (xs ++ news) ∧ w.grownBy w' v.ownBlock ∧ (v'.ownBlock = v.ownBlock ∨ v'.ownBlock = some w.heap.size) ∧
      (∀ g, v.ownBlock = some g → ∀ j, j < n * inf.size → w'.cell? ⟨g, j, none⟩ = w.cell? ⟨g, j, none⟩) ∧ (v = .slice none 0 0 → m = 0 → v' = .slice none 0 0) := by
  have hnm : n + m ≤ 140737488355328 := Nat.le_trans (Nat.le_mul_of_pos_right _ hby) hbytes
  have hmax : n + m ≤ maxLen := by simp only [maxLen]; omega
  have hlen : (xs ++ news).length = (n + m) * inf.size := by rw [List.length_append, hown.1, hl, Nat.add_mul]
  cases A with
  | none =>
    have hm : m = 0 := hn rfl
    subst hm
    have hnews : news = [] := List.eq_nil_of_length_eq_zero (by simpa using hl)
    subst hnews
    refine ⟨v, w, ?_, by simpa using hown, ⟨rfl, rfl, rfl, Nat.le_refl _, fun _ _ _ => rfl⟩, .inl rfl, fun _ _ _ _ => rfl, fun h _ => h⟩
    rcases hown.2 with ⟨rfl, rfl⟩ | ⟨g, cap, cur, rfl, _, _, hnc, _⟩
    · simp [Builtin.append_, run_underlying ht, sizeOf, typeInfo, hi, Builtin.lenOf, Builtin.firstCells, loadCells, loadCellsFrom]
    · have hg0 : Builtin.firstCells inf.size 0 (.slice none 0 c) = pure #[] := rfl
      simp [Builtin.append_, run_underlying ht, sizeOf, typeInfo, hi, Builtin.lenOf, hnc, hg0, storeCells, Addr.add_lit]
  | some a =>
    have hnews := hA a rfl
    have grown : ∀ (old : Nat), old < n + m → ∀ row,
        (w.drew.alloc (.cells (xs.toArray ++ news.toArray ++ Builtin.zeroCells z.cells (grownCap w (n + m) old e - (n + m))) e)).ownsRow base e inf.size (.slice (some ⟨w.heap.size, 0, none⟩) (n + m) (grownCap w (n + m) old e)) (n + m) (xs ++ news) ∧
        w.grownBy (w.drew.alloc (.cells (xs.toArray ++ news.toArray ++ Builtin.zeroCells z.cells (grownCap w (n + m) old e - (n + m))) e)) row := by
      intro old ho row
      have hge := grownCap_ge w (n + m) old e
      have hcm : grownCap w (n + m) old e ≤ maxLen := grownCap_le_maxLen w (n + m) old e hmax
      refine ⟨⟨hlen, .inr ⟨w.heap.size, _, _, rfl, hbase, heap_alloc_new w.drew _, hge, hcm, ?_, ?_⟩⟩, ⟨rfl, rfl, rfl, by simp, fun k hk _ => alloc_old (w := w.drew) _ k hk⟩⟩
      · simp only [Array.size_append, List.size_toArray, size_zeroCells, hzs, hown.1, hl, ← Nat.add_mul]
        congr 1
        omega
      · simp only [Array.toList_append, List.append_assoc]
        rw [← List.append_assoc, ← hlen]
        exact List.take_left
    rcases hown.2 with ⟨rfl, rfl⟩ | ⟨g, cap, cur, rfl, hbg, hg, hnc, hcm, hcs, htake⟩
    · have hx : xs = [] := List.eq_nil_of_length_eq_zero (by simpa using hown.1)
      subst hx
      by_cases hm : m = 0
      · subst hm
        have hn : news = [] := List.eq_nil_of_length_eq_zero (by simpa using hl)
        subst hn
        refine ⟨.slice none 0 0, w, ?_, World.ownsRow_nil w base e inf.size, ⟨rfl, rfl, rfl, Nat.le_refl _, fun _ _ _ => rfl⟩, .inl rfl, (by intro g h; simp [Value.ownBlock] at h), fun _ _ => rfl⟩
        simp [Builtin.append_, run_underlying ht, sizeOf, typeInfo, hi, Builtin.lenOf, Builtin.firstCells, loadCells, loadCellsFrom]
      · have hr := run_append_nil (P := P) w t ty e inf z ht hi hz a m c news hl hnews (by omega) (by omega) (by have hb := hbytes; simp only [Nat.zero_add] at hb; omega)
        have hgr := grown 0 (by omega) (Value.ownBlock (.slice none 0 0))
        simp only [Nat.zero_add, List.nil_append, Array.empty_append] at hgr ⊢
        exact ⟨_, _, hr, hgr.1, hgr.2, .inr rfl, (by intro g h; simp [Value.ownBlock] at h), fun _ h => absurd h hm⟩
    · by_cases hroom : n + m ≤ cap
      · have hfit : n * inf.size + news.length ≤ cur.size := by rw [hl, hcs, ← Nat.add_mul]; exact Nat.mul_le_mul_right _ hroom
        have hr := run_append_room (P := P) w t ty e inf ht hi g n cap cur hg a m c news hl hnews h1 hroom hfit
        refine ⟨_, _, hr, ⟨hlen, .inr ⟨g, cap, _, rfl, hbg, setRow_heap w g cur _ e _ hg, hroom, hcm, ?_, ?_⟩⟩, ⟨rfl, rfl, rfl, by simp [World.setRow], fun k _ hk => setRow_other w g k _ (fun e => hk (by simp [Value.ownBlock, e]))⟩, .inl rfl, ?_, fun h => by cases h⟩
        · simp only [List.size_toArray, List.length_append, List.length_take, List.length_drop, Array.length_toList]
          omega
        · rw [htake, ← hlen]
          exact List.take_left
        · intro g' hg' j hj
          simp [Value.ownBlock] at hg'
          subst hg'
          rw [cell_at (setRow_heap w g cur _ e _ hg), cell_at hg]
          have hjl : j < cur.toList.length := by simp; omega
          simp only [List.getElem?_toArray]
          rw [List.append_assoc, List.getElem?_append_left (by simp; omega), List.getElem?_take_of_lt hj, Array.getElem?_toList]
      · have holds : ∀ j u, xs[j]? = some u → w.cell? ((⟨g, 0, none⟩ : Addr).add j) = some u := hown.cells (g := g) rfl
        have hr := run_append_grow (P := P) w t ty e inf z ht hi hz ⟨g, 0, none⟩ n cap xs hown.1 holds a m c news hl hnews (by omega) (by omega) (growslice_fits (by omega) hbytes)
        have hgr := grown cap (by omega) (Value.ownBlock (.slice (some ⟨g, 0, none⟩) n cap))
        refine ⟨_, _, hr, hgr.1, hgr.2, .inr rfl, ?_, fun h => by cases h⟩
        intro g' hg' j hj
        simp [Value.ownBlock] at hg'
        subst hg'
        have := (Array.getElem?_eq_some_iff.1 hg).1
        exact World.cell?_of_block (a := ⟨g, j, none⟩) (alloc_old (w := w.drew) _ g this)

/-- A row of one's own is given up. -/
theorem SC.dropRow {E : Env} {ob : Nat → Option (List AV)} {no nx : Nat} {ow : Nat → Bool} (h : SC P w0 E0 nob E ob no ow nx dn w) (t : Nat) : SC P w0 E0 nob E ob no (upd ow t false) nx dn w :=
  have hd : ∀ t', upd ow t false t' = true → ow t' = true := fun t' q => by
    rw [upd_apply] at q
    split at q
    · cases q
    · exact q
  { h with own := fun t' q => h.own t' (hd t' q), ownd := fun a b qa qb => h.ownd a b (hd a qa) (hd b qb) }
/-- A block of one's own that no object has, nor a row that one owns, is written behind the cells that are held still. -/
theorem SC.patch {E : Env} {ob : Nat → Option (List AV)} {no nx : Nat} {ow : Nat → Bool} (h : SC P w0 E0 nob E ob no ow nx dn w) {row : Option Nat} (hg : w.grownBy w' row)
    (hr : ∀ g, row = some g → w0.heap.size ≤ g ∧ (∀ id, (ob id).isSome = true → E.ρ id ≠ g) ∧ (∀ t, ow t = true → (E.τ t).ownBlock ≠ some g) ∧ ∀ j, E.Pr g j → w'.cell? ⟨g, j, none⟩ = w.cell? ⟨g, j, none⟩) :
    Ext E w E w' ∧ SC P w0 E0 nob E ob no ow nx dn w' := by
  have hc : ∀ b j, E.Pr b j → w'.cell? ⟨b, j, none⟩ = w.cell? ⟨b, j, none⟩ := fun b j hp => by
    by_cases e : row = some b
    · exact (hr b e).2.2.2 j hp
    · exact World.cell?_of_block (a := ⟨b, j, none⟩) (hg.block b (h.prB b j hp) (fun q => e q.symm))
  have he : Ext E w E w' := ⟨fun _ _ h => h, hc, fun _ h => ⟨h, rfl⟩, fun _ h => ⟨h, rfl, rfl⟩⟩
  refine ⟨he, ?_⟩
  exact
    { obk := fun id cs q => by
        obtain ⟨us, U, q1, q2⟩ := h.obk id cs q
        exact ⟨us, U, (hg.block _ (blk_lt q1) (fun e => (hr _ e.symm).2.1 id (by rw [q]; rfl) rfl)).trans q1, q2.imp fun _ _ q => q.ext he⟩
      obV := h.obV
      Vb := h.Vb
      inj := h.inj
      npr := h.npr
      own := fun t ht => by
        obtain ⟨hu, inf, n, cells, q1, q2, q3⟩ := h.own t ht
        refine ⟨hu, inf, n, cells, q1, q2.kept hg ?_, q3⟩
        cases hb : (E.τ t).ownBlock with
        | none => exact .inl rfl
        | some b => exact .inr fun e => (hr b e.symm).2.2.1 t ht hb
      ownd := h.ownd
      Ub := h.Ub
      prB := fun b j hp => Nat.lt_of_lt_of_le (h.prB b j hp) hg.size
      pr0 := h.pr0
      pr1 := h.pr1
      old := h.old
      new := h.new
      nno := h.nno
      fr := fun b hb hi => (hg.block b (Nat.lt_of_lt_of_le hb h.size) (fun e => by have := (hr b e.symm).1; omega)).trans (h.fr b hb hi)
      os := hg.os.trans h.os
      tape := hg.tape.trans h.tape
      output := hg.output.trans h.output
      size := Nat.le_trans h.size hg.size }

/-- What a represented row has in its cells. -/
theorem RD.sl_cells {Pr : Nat → Nat → Prop} {xs : List (List DV)} {v : Value} (h : RD w Pr (.sl xs) v) : ∃ A c vs, v = .slice A xs.length c ∧ All2 (RD w Pr) xs.flatten vs ∧ (∀ a, A = some a → xs ≠ [] → ∀ j u, vs[j]? = some u → w.cell? (a.add j) = some u) ∧ (A = none → xs = []) ∧
    ∀ u ∈ vs, u.oneCell' = true := by
  cases h with
  | sl _ A c sz b o hc hsz hA h =>
    obtain ⟨vs, h1, h2, h3⟩ := h.vals
    refine ⟨A, c, vs, rfl, h1, fun a ha hx j u hu => ?_, fun hn => ?_, ?_⟩
    · rw [hA hx] at ha
      injection ha with ha
      subst ha
      rw [add_lit]
      exact h2 j u hu
    · apply Classical.byContradiction
      intro hx
      rw [hA hx] at hn
      cases hn
    · intro u hu
      clear h2 h3 h hA
      generalize xs.flatten = l at h1
      induction h1 with
      | nil => cases hu
      | cons q _ ih =>
        rcases List.mem_cons.1 hu with rfl | hu
        · exact q.one
        · exact ih hu
theorem all_len {sz : Nat} {xs : List (List DV)} (h : (xs.all fun y => y.length == sz) = true) : ∀ x ∈ xs, x.length = sz := fun x hx => by
  have := List.all_eq_true.1 h x hx
  simpa using this

/-- Append, the row of one's own given up, then the new one. -/
theorem app_core {ob : Nat → Option (List AV)} {no nx : Nat} {ow : Nat → Bool} (sc : SC P w0 E0 nob E ob no ow nx dn w) {i : Nat} (hi : ¬ dn i) {t ty e : TypeId} {inf : TypeInfo} {z : Value} (ht : P.underlying t = some (.slice e)) (hinf : P.info? e = some inf) (hz : inf.zero = some z)
    (hzs : z.cells.size = inf.size) (hby : 0 < inf.bytes) {v : Value} {n : Nat} {cells : List Value} (hown : w.ownsRow w0.heap.size e inf.size v n cells)
    (hno : ∀ b, v.ownBlock = some b → ∀ id, (ob id).isSome = true → E.ρ id ≠ b) (hnp : ∀ b, v.ownBlock = some b → ∀ j, E.Pr b j → j < n * inf.size) (hnr : ∀ b, v.ownBlock = some b → ∀ t, ow t = true → (E.τ t).ownBlock ≠ some b)
    {xs ys : List (List DV)} (hxl : xs.length = n) (hxs : ∀ x ∈ xs, x.length = inf.size) (hxr : All2 (RD w E.Pr) xs.flatten cells) {y : Value} (hy : RD w E.Pr (.sl ys) y) (hys : ∀ x ∈ ys, x.length = inf.size) (hbytes : (xs.length + ys.length) * inf.bytes ≤ 140737488355328) :
    ∃ v' w' E', (Builtin.append_ #[t, t] ty #[v, y]).run P w = .ok v' w' ∧ Ext E w E' w' ∧ RA E' w' (.row (nx + i) e (xs ++ ys)) v' ∧ SC P w0 E0 nob E' ob no (upd ow (nx + i) true) nx (fun j => dn j ∨ j = i) w' := by
  obtain ⟨A, c, vs, rfl, k1, k2, k3, k4⟩ := hy.sl_cells
  have hvl : vs.length = ys.length * inf.size := by rw [← k1.length, flat_len hys]
  obtain ⟨v', w', h1, h2, h3, h4, h5, h6⟩ := append_sem (P := P) (ty := ty) w w0.heap.size ht hinf hz hzs hby hown (A := A) (m := ys.length) (c := c) hvl
    (fun a ha j u hu => k2 a ha (fun e => by subst e; have : vs = [] := List.eq_nil_of_length_eq_zero (by simpa using hvl); subst this; simp at hu) j u hu)
    (fun hn => by rw [k3 hn]; rfl) k4 (by rw [← hxl]; exact hbytes) sc.size
  obtain ⟨p1, p2⟩ := sc.patch h3 (fun g hg => ⟨(hown.lt g hg).1, hno g hg, hnr g hg, fun j hp => h5 g hg j (hnp g hg j hp)⟩)
  have hb : ∀ b, v'.ownBlock = some b → v.ownBlock = some b ∨ b = w.heap.size := fun b hb => by
    rcases h4 with e | e
    · exact .inl (by rw [← e]; exact hb)
    · rw [e] at hb; injection hb with hb; exact .inr hb.symm
  obtain ⟨E', q1, q2, q3, q4, q5, _, q6⟩ := p2.addRow hi hinf h2
    (fun b hb' id hid => by
      rcases hb b hb' with e | e
      · exact hno b e id hid
      · obtain ⟨cs', hcs⟩ := Option.isSome_iff_exists.1 hid
        obtain ⟨us, U, r1, _⟩ := sc.obk id cs' hcs
        have := blk_lt r1
        omega)
    (fun b hb' j hp => by
      rcases hb b hb' with e | e
      · have := hnp b e j hp
        exact Nat.lt_of_lt_of_le this (Nat.mul_le_mul_right _ (Nat.le_add_right _ _))
      · have := sc.prB _ _ hp
        omega)
    (fun b hb' t' ht' hbt => by
      rcases hb b hb' with e | e
      · exact hnr b e t' ht' hbt
      · obtain ⟨_, inf', n', cells', _, r2, _⟩ := sc.own t' ht'
        have := (r2.lt _ hbt).2
        omega)
  refine ⟨v', w', E', h1, p1.trans q1, ?_, q6⟩
  have hlen : (xs ++ ys).length = n + ys.length := by rw [List.length_append, hxl]
  have hall : ∀ x ∈ xs ++ ys, x.length = inf.size := fun x hx => by
    rcases List.mem_append.1 hx with hx | hx
    · exact hxs x hx
    · exact hys x hx
  have hrep : RD w' E'.Pr (.sl (xs ++ ys)) v' := by
    rcases h2.2 with ⟨rfl, h0⟩ | ⟨g, cap, cur, rfl, hbg, hg, hnc, hcm, hcs, htake⟩
    · have : xs ++ ys = [] := List.eq_nil_of_length_eq_zero (by rw [hlen]; exact h0)
      rw [this]
      exact .nil _ _ _ _
    · have := RD.sl (w := w') (Pr := E'.Pr) (xs ++ ys) (some ⟨g, 0, none⟩) cap inf.size g 0 (by rw [hlen]; exact hnc) hall (fun _ => rfl) (RC.of_vals (vs := cells ++ vs) ?_ ?_ ?_)
      · rwa [hlen] at this
      · rw [List.flatten_append]
        exact (hxr.app k1).imp fun _ _ q => (q.ext p1).ext q1
      · intro j u hj
        have := h2.cells (g := g) rfl j u hj
        rwa [add_lit] at this
      · intro j hj
        refine (q5 _ _).2 (.inr ⟨rfl, ?_⟩)
        rw [flat_len hall, hlen] at hj
        omega
  have := RA.row (E := E') (w := w') q4 (xs := xs ++ ys) (by rw [q2]; exact hrep)
  rwa [q2, q3] at this

theorem op_app {st : St} (sc : SC P w0 E0 nob E st.ob st.no st.ow st.nx dn w) {o : Oper} {a : Act} (htm : ∀ i, RA E w (st.tm i) (a.tmps.getD i Go.undef)) {i : Nat} (hi : ¬ dn i) {c : Call} {t e : TypeId} {x y : Operand} {x' y' : Opd} {inf : TypeInfo} {z : Value} {ef : Eff}
    (hop : o.op = .call c) (hc : c.callee = .builtin .append) (ha : c.args = #[x, y]) (hts : c.argTypes = #[t, t]) (ht : P.underlying t = some (.slice e)) (hinf : P.info? e = some inf) (hz : inf.zero = some z)
    (hzs : z.cells.size = inf.size) (hby : 0 < inf.bytes) (hx : cOpd x = some x') (hy : cOpd y = some y') (he : aop i st (.app e inf.size inf.bytes x' y') = some ef) : StepOk P w0 E0 nob E st dn w o a ef i := by
  have hxr := opd_rep htm hx
  have hyr := opd_rep htm hy
  simp only [aop] at he
  obtain ⟨ys, h1, h2⟩ := Option.bind_eq_some_iff.1 he
  have hyd := hyr.rows h1
  have hrun : ∀ {v w'}, (Builtin.append_ #[t, t] o.type #[a.eval x, a.eval y]).run P w = .ok v w' → Out P o a w v w' := fun {v w'} h => .inl (by
    simp only [execOp, hop, hc, ha, hts, resolve, invoke, builtin, Sem.run_bind, Sem.run_pure, Result.andThen_ok, List.map_toArray, List.map_cons, List.map_nil, h])
  split at h2
  · rename_i hall
    have hys := all_len hall
    split at h2
    · rename_i heq
      rw [heq] at hxr
      generalize hv : a.eval x = v at hxr hrun
      cases hxr with
      | nils =>
        split at h2
        · rename_i hb
          split at h2
          · rename_i hy0
            injection h2 with h2
            subst h2
            subst hy0
            generalize hvy : a.eval y = vy at hyd hrun
            obtain ⟨A, cc, vs, rfl, k1, k2, k3, k4⟩ := hyd.sl_cells
            refine ⟨.slice none 0 0, w, E, hrun ?_, Ext.refl _ _, .nils, sc.dn_mono fun _ h => .inl h⟩
            cases A <;> simp [Builtin.append_, run_underlying ht, sizeOf, typeInfo, hinf, Builtin.lenOf, Builtin.firstCells, loadCells, loadCellsFrom]
          · rename_i hy0
            injection h2 with h2
            subst h2
            obtain ⟨v', w', E', q1, q2, q3, q4⟩ := app_core sc hi (ty := o.type) ht hinf hz hzs hby (v := .slice none 0 0) (World.ownsRow_nil w w0.heap.size e inf.size) (fun b h => by cases h) (fun b h => by cases h) (fun b h => by cases h) (xs := []) rfl (by simp) .nil hyd hys (by simpa using hb)
            exact ⟨v', w', E', hrun q1, q2, q3, q4⟩
        · cases h2
    · rename_i tk e' xs heq
      rw [heq] at hxr
      split at h2
      · rename_i how
        obtain ⟨how, rfl⟩ := how
        split at h2
        · rename_i hb
          split at h2
          · rename_i hall'
            injection h2 with h2
            subst h2
            obtain ⟨hu, inf', n, cells, r1, r2, r3⟩ := sc.own tk how
            generalize hv : a.eval x = v at hxr hrun
            cases hxr with
            | row _ hrd =>
              rw [hinf] at r1
              injection r1 with r1
              subst r1
              have hxs := all_len hall'
              obtain ⟨A, cc, vs, e1, k1, k2, k3, k4⟩ := hrd.sl_cells
              have hn : xs.length = n := by
                rcases r2.2 with ⟨e2, h0⟩ | ⟨g, cap, cur, e2, _⟩
                · rw [e2] at e1; injection e1 with _ e1 _; omega
                · rw [e2] at e1; injection e1 with _ e1 _; exact e1.symm
              have hcells : vs = cells := by
                rcases r2.2 with ⟨e2, h0⟩ | ⟨g, cap, cur, e2, _⟩
                · have l1 : vs.length = 0 := by rw [← k1.length, flat_len hxs, hn, h0]; simp
                  have l2 : cells.length = 0 := by rw [r2.1, h0]; simp
                  rw [List.eq_nil_of_length_eq_zero l1, List.eq_nil_of_length_eq_zero l2]
                · have l1 : vs.length = cells.length := by rw [← k1.length, flat_len hxs, hn, r2.1]
                  rw [e2] at e1
                  injection e1 with e1 _ _
                  apply List.ext_getElem? 
                  intro j
                  cases hj : vs[j]? with
                  | none => rw [List.getElem?_eq_none]; rw [← l1]; exact List.getElem?_eq_none_iff.1 hj
                  | some u =>
                    have hx0 : xs ≠ [] := fun e => by
                      subst e
                      have h0 : vs.length = 0 := by rw [← k1.length]; rfl
                      have := (List.getElem?_eq_some_iff.1 hj).1
                      omega
                    have hq := k2 _ e1.symm hx0 j u hj
                    have hjl : j < cells.length := by rw [← l1]; exact (List.getElem?_eq_some_iff.1 hj).1
                    have := r2.cells (g := g) (by rw [e2]; rfl) j cells[j] (by simp [hjl])
                    rw [hq] at this
                    injection this with this
                    rw [this]
                    simp [hjl]
              subst hcells
              obtain ⟨v', w', E', q1, q2, q3, q4⟩ := app_core (sc.dropRow tk) hi (ty := o.type) ht hinf hz hzs hby (v := E.τ tk) r2 (fun b h => (r3 b h).2) (fun b h => (r3 b h).1)
                (fun b h t' ht' hb' => by
                  rw [upd_apply] at ht'
                  split at ht'
                  · cases ht'
                  · rename_i hne
                    rcases sc.ownd t' tk ht' how hne with e3 | e3
                    · rw [e3] at hb'; cases hb'
                    · exact e3 (by rw [hb', h]))
                hn hxs k1 hyd hys hb
              exact ⟨v', w', E', hrun q1, q2, q3, q4⟩
          · cases h2
        · cases h2
      · cases h2
    · cases h2
  · cases h2
end Go.Ae
