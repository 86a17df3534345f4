/-
  slices.Clone of a slice of whatever elements: nil for nil; else a new row, which the caller alone has.
-/
import Derived.Test.YtkmmfenknekcbaaGreatAeFits
set_option linter.unusedSimpArgs false
set_option linter.unusedVariables false
namespace Go.Ae
open Go.RowKit
variable {P : Program}

/-- What Clone gives. -/
def gClone (sz bytes : Nat) : Fun := fun args obs => match args, obs with
  | [.d (.sl xs)], [] => if xs = [] then some (.d (.sl []), []) else if (xs.all fun y => y.length == sz) ∧ xs.length * bytes ≤ 140737488355328 then some (.osl 0 sz xs.length, [xs.flatten]) else none
  | _, _ => none

theorem wpList_out {ops : Array Oper} {Q : Exit → Act → World → Prop} {o : Oper} {rest : List Oper} {a : Act} {w w' : World} {v : Value} (hg : o.guard = none) (h : Out P o a w v w') (hk : wpList P ops Q rest (a.put o.dst v) w') : wpList P ops Q (o :: rest) a w :=
  wpList_plain hg fun K hK => by
    unfold Oper.wp
    rcases h with h | ⟨h, rfl⟩
    · rw [h]; exact hK _ _ hk
    · rw [h]; exact hK _ _ hk

theorem clone_fits {f : FuncId} {fn : Func} (hf : P.funcs[f]? = some fn) {i1 i2 i3 i4 : Nat} {o1 o2 o3 o4 o5 o6 o7 o8 : Oper}
    (hb : fn.body = some (.seq (.region i1 #[o1] false) (.seq (.seq (.region i2 #[o2, o3] false) (.cond (.tmp 4) (.seq (.region i3 #[o4] false) .ret) .skip)) (.seq (.region i4 #[o5, o6, o7, o8] false) .ret))))
    (hn : fn.ntmps = 8) (hr : fn.results = #[.tmp 2]) {t e yt : TypeId} {inf : TypeInfo} {z : Value} (ht : P.underlying t = some (.slice e)) (hinf : P.info? e = some inf) (hz : inf.zero = some z) (hzs : z.cells.size = inf.size) (hsz : 0 < inf.size) (hby : 0 < inf.bytes)
    (g1 : o1.op = .assign (.const (.slice none 0 0)) ∧ o1.dst = some 2 ∧ o1.guard = none)
    (g2 : o2.op = .move (.tmp 0) ∧ o2.dst = some 3 ∧ o2.guard = none)
    (g3 : o3.op = .binOp .eql t (.tmp 3) (.const (.slice none 0 0)) yt ∧ o3.dst = some 4 ∧ o3.guard = none)
    (g4 : o4.op = .assign (.const (.slice none 0 0)) ∧ o4.dst = some 2 ∧ o4.guard = none)
    (g5 : o5.op = .buildSlice t 0 #[] ∧ o5.dst = some 5 ∧ o5.guard = none)
    (g6 : o6.op = .move (.tmp 0) ∧ o6.dst = some 6 ∧ o6.guard = none)
    (g7 : o7.op = .call { callee := .builtin .append, args := #[.tmp 5, .tmp 6], argTypes := #[t, t] } ∧ o7.dst = some 7 ∧ o7.guard = none)
    (g8 : o8.op = .assign (.tmp 7) ∧ o8.dst = some 2 ∧ o8.guard = none) : Fits P f (gClone inf.size inf.bytes) := by
  intro args obs r obs' h E w vals hin
  unfold gClone at h
  split at h
  case h_2 => cases h
  rename_i args0 obs0 xs
  have ha := hin.args
  cases ha with
  | @cons _ v _ m h0 t0 =>
  cases t0
  cases h0 with
  | d hrd =>
  obtain ⟨A, c, us, rfl, k1, k2, k3, k4⟩ := hrd.sl_cells
  have hout : ∀ {r : AV} {new : List (List DV)} {v : Value} {w' : World}, w'.os = w.os → w'.tape = w.tape → w'.output = w.output → w.heap.size ≤ w'.heap.size → (∀ b, b < w.heap.size → w'.heap[b]? = w.heap[b]?) → ResOk P E w 0 E.Pr w' r new v → CallOut P E w 0 r new v w' := by
    intro r new v w' q1 q2 q3 q4 q5 q6
    refine ⟨⟨E.Pr, [], new, rfl, rfl, fun _ _ h => h, fun _ _ h => .inl h, by simp, q6⟩, fun b j hp => World.cell?_of_block (a := ⟨b, j, none⟩) (q5 b (hin.prB b j hp)), fun b hb _ => q5 b hb, q1, q2, q3, q4⟩
  refine calls_of_wp hf hb ?_
  have ht0 : ∀ (v : Value), (#[v] ++ Array.replicate (fn.ntmps - #[v].size) Go.undef) = #[v, Go.undef, Go.undef, Go.undef, Go.undef, Go.undef, Go.undef, Go.undef] := fun v => by rw [hn]; rfl
  rw [show [Value.slice A xs.length c].toArray = #[Value.slice A xs.length c] from rfl, ht0]
  generalize hu : Go.undef = u
  refine wp_seq (wp_region_list ?_)
  refine wpList_out (v := .slice none 0 0) g1.2.2 (.inl (by simp only [execOp, g1.1]; rfl)) ?_
  rw [g1.2.1]
  refine wp_seq (wp_seq (wp_region_list ?_))
  refine wpList_out (v := .slice A xs.length c) g2.2.2 (.inl (by simp only [execOp, g2.1]; rfl)) ?_
  rw [g2.2.1]
  refine wpList_out (v := .bool A.isNone) g3.2.2 (out_bin g3.1 (by simp [Act.eval, Act.put]) (by simp [Act.eval, Act.put]) ?_) ?_
  · simp only [Act.eval, Act.put]
    simp [binOp, run_equal_slice ht]
  rw [g3.2.1]
  have hres : ∀ (v : Value) (a : Act) (w' : World), a.tmps.getD 2 Go.undef = v → (results fn a.tmps).run P w' = .ok v w' := by
    intro v a w' hv
    rw [results_eq]
    have hm : (fn.results.mapM (resSem a)).run P w' = .ok [v].toArray w' := run_arr_mapM (by rw [hr]; subst hv; simp only [List.mapM_cons, List.mapM_nil, resSem, Sem.run_bind, Result.andThen_ok, Sem.run_pure])
    simp only [Sem.run_bind, hm, Result.andThen_ok, Sem.run_pure]
    rfl
  cases A with
  | none =>
    refine wp_cond_true (by simp [Act.eval, Act.put]) ?_
    refine wp_seq (wp_region_list ?_)
    refine wpList_out (v := .slice none 0 0) g4.2.2 (.inl (by simp only [execOp, g4.1]; rfl)) ?_
    rw [g4.2.1]
    refine wp_ret ⟨rfl, .slice none 0 0, hres _ _ _ (by simp [Act.put]), .slice none 0 0, rfl, ?_⟩
    have hx := k3 rfl
    subst hx
    simp only [if_true, Option.some.injEq, Prod.mk.injEq] at h
    obtain ⟨rfl, rfl⟩ := h
    exact hout rfl rfl rfl (Nat.le_refl _) (fun _ _ => rfl) (.d (.nil _ _ _ _))
  | some ad =>
    refine wp_cond_false (by simp [Act.eval, Act.put]) (wp_skip ?_)
    refine wp_seq (wp_region_list ?_)
    let w1 := w.alloc (.cells #[] e)
    have hbuild : (Instr.buildSlice t 0 #[]).run P w = .ok (.slice (some ⟨w.heap.size, 0, none⟩) 0 0) w1 := by
      have hs : tsize P e = some inf.size := by simp [tsize, hinf]
      simp only [Instr.buildSlice, Sem.run_bind, run_underlying ht, run_tsize hs, Result.andThen_ok, Nat.zero_mul]
      simp [Instr.fill, newRow, w1, show Array.range 0 = (#[] : Array Nat) from rfl]
    refine wpList_out (v := .slice (some ⟨w.heap.size, 0, none⟩) 0 0) (w' := w1) g5.2.2 (.inl (by simp only [execOp, g5.1, Array.map_empty, Sem.run_bind, hbuild, Result.andThen_ok, Sem.run_pure])) ?_
    rw [g5.2.1]
    refine wpList_out (v := .slice (some ad) xs.length c) g6.2.2 (.inl (by simp only [execOp, g6.1]; rfl)) ?_
    rw [g6.2.1]
    have hb1 : ∀ b, b < w.heap.size → w1.heap[b]? = w.heap[b]? := fun b hb => alloc_old _ b hb
    have he1 : Ext E w E w1 := Ext.below hin.prB hb1
    have hown : w1.ownsRow w.heap.size e inf.size (.slice (some ⟨w.heap.size, 0, none⟩) 0 0) 0 [] := World.ownsRow_made w #[] 0 (Nat.le_refl _) (Nat.zero_le _) (by simp)
    have hsize : us.length = xs.flatten.length := k1.length.symm
    have hlen : (xs = [] ∨ ((xs.all fun y => y.length == inf.size) = true ∧ xs.length * inf.bytes ≤ 140737488355328)) := by
      by_cases hx : xs = []
      · exact .inl hx
      · rw [if_neg hx] at h
        split at h
        · rename_i hc; exact .inr ⟨hc.1, hc.2⟩
        · cases h
    have hl : us.length = xs.length * inf.size := by
      rcases hlen with rfl | ⟨h1, h2⟩
      · rw [hsize]; simp
      · rw [hsize, flat_len (all_len h1)]
    have hbytes : (0 + xs.length) * inf.bytes ≤ 140737488355328 := by
      rcases hlen with rfl | ⟨h1, h2⟩
      · simp
      · simpa using h2
    obtain ⟨v', w', q1, q2, q3, q4, q5, _⟩ := append_sem (P := P) (ty := o7.type) w1 w.heap.size ht hinf hz hzs hby hown (A := some ad) (m := xs.length) (c := c) hl
      (fun a ha j u hj => by
        have hx : xs ≠ [] := fun e => by subst e; have hu0 : us = [] := List.eq_nil_of_length_eq_zero (by rw [hsize]; rfl); rw [hu0] at hj; simp at hj
        have h5 := k2 a ha hx j u hj
        have h6 := World.block_lt_of_cell? w _ h5
        exact (World.cell?_of_block (a := a.add j) (hb1 _ h6)).trans h5)
      (fun h => by cases h) k4 hbytes (by simp [w1])
    refine wpList_out (v := v') (w' := w') g7.2.2 (.inl ?_) ?_
    · simp only [execOp, g7.1, resolve, invoke, builtin, Sem.run_bind, Sem.run_pure, Result.andThen_ok, List.map_toArray, List.map_cons, List.map_nil]
      simp [Act.eval, Act.put, q1]
    rw [g7.2.1]
    refine wpList_out (v := v') (w' := w') g8.2.2 (.inl (by simp only [execOp, g8.1]; simp [Act.eval, Act.put])) ?_
    rw [g8.2.1]
    refine wp_ret ⟨rfl, v', hres _ _ _ (by simp [Act.put]), v', rfl, ?_⟩
    have hblk : ∀ b, b < w.heap.size → w'.heap[b]? = w.heap[b]? := fun b hb => (q3.block b (by simp [w1]; omega) (by simp [Value.ownBlock]; omega)).trans (hb1 b hb)
    have hsz' : w.heap.size ≤ w'.heap.size := Nat.le_trans (by simp [w1]) q3.size
    have he : Ext E w E w' := Ext.below hin.prB hblk
    rw [Nat.zero_add] at q2
    by_cases hx : xs = []
    · subst hx
      simp only [if_true, Option.some.injEq, Prod.mk.injEq] at h
      obtain ⟨rfl, rfl⟩ := h
      refine hout q3.os q3.tape q3.output hsz' hblk (.d ?_)
      rcases q2.2 with ⟨rfl, _⟩ | ⟨g, cap, cur, rfl, _⟩
      · exact .nil _ _ _ _
      · exact .nil _ _ _ _
    · rw [if_neg hx] at h
      split at h
      · injection h with h
        injection h with h h'
        subst h h'
        rcases q2.2 with ⟨rfl, h0⟩ | ⟨g, cap, cur, rfl, hbg, hg, hnc, hcm, hcs, htake⟩
        · exact absurd (List.eq_nil_of_length_eq_zero h0) hx
        · refine hout q3.os q3.tape q3.output hsz' hblk (.newS hbg hg ?_ (fun j hp => by have := hin.prB _ _ hp; omega) hnc)
          have hcur : cur.toList = us ++ cur.toList.drop (xs.length * inf.size) := by
            rw [← List.nil_append us, ← htake, List.take_append_drop]
          rw [hcur]
          exact .mk (k1.imp fun _ _ q => q.ext he)
      · cases h
end Go.Ae
