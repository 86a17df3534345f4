/-
  WHAT COMES IN: a reading of plain data (whole numbers, truths, texts, structs, slices of these) is the evaluator's data.
-/
import Derived.Test.YtkmmfenknekcbaaGreatAeRow
set_option linter.unusedSimpArgs false
set_option linter.unusedVariables false
namespace Go.Ae
open Go.RowKit
variable {P : Program}

/-- A struct's fields lie one behind the other. -/
def contigB (P : Program) : List Field → Nat → Nat → Bool
  | [], o, n => o == n
  | f :: fs, o, n => f.offset == o && contigB P fs (o + P.cellsOf f.type) n
/-- These types lead to these alone. -/
def closedB (P : Program) (S : List TypeId) : Bool := S.all fun t => match P.underlying t with
  | some (.int _) | some .bool | some .string => P.cellsOf t == 1
  | some (.slice e) => P.cellsOf t == 1 && S.contains e && decide (0 < P.cellsOf e)
  | some (.struct fs) => contigB P fs.toList 0 (P.cellsOf t) && fs.toList.all fun f => S.contains f.type
  | _ => false
variable {H : Type}
mutual
/-- A datum, in the evaluator's cells. -/
def dvOf : DataW H → List DV
  | .lit (.int k n) => [.int k n]
  | .lit (.bool b) => [.bool b]
  | .lit (.string s) => [.str s]
  | .lit _ => []
  | .nil => [.sl []]
  | .slice el _ => [.sl (dvAll el)]
  | .agg ps => dvCat ps
  | .ptr _ => []
  | .iface _ _ => []
  | .map _ => []
  | .held _ => []
def dvAll : List (DataW H) → List (List DV)
  | [] => []
  | d :: l => dvOf d :: dvAll l
def dvCat : List (DataW H) → List DV
  | [] => []
  | d :: l => dvOf d ++ dvCat l
end
theorem dvAll_eq : ∀ l : List (DataW H), dvAll l = l.map dvOf
  | [] => rfl
  | d :: l => by simp [dvAll, dvAll_eq l]
/-- Data of fields. -/
def TDf (T : TypeId → DataW H → Prop) : List Field → List (DataW H) → Prop
  | [], ps => ps = []
  | f :: fs, ps => ∃ d r, ps = d :: r ∧ T f.type d ∧ TDf T fs r
/-- Data of a type. -/
def TD (P : Program) : Nat → TypeId → DataW H → Prop
  | 0, _, _ => False
  | n + 1, t, d => match P.underlying t with
    | some (.int k) => ∃ x, d = .lit (.int k x) ∧ (Lit.int k x).wf = true
    | some .bool => ∃ b, d = .lit (.bool b)
    | some .string => ∃ s : List UInt8, d = .lit (.string s)
    | some (.slice e) => d = .nil ∨ ∃ el sp, d = .slice el sp ∧ ∀ x ∈ el, TD P n e x
    | some (.struct fs) => ∃ ps, d = .agg ps ∧ TDf (TD P n) fs.toList ps
    | _ => False

theorem mapM_range {α : Type} {f : Nat → Option α} : ∀ {n k : Nat} {l : List α}, (List.range' k n).mapM f = some l → l.length = n ∧ ∀ (i : Nat) (x : α), l[i]? = some x → f (k + i) = some x
  | 0, k, l, h => by simp at h; subst h; simp
  | n + 1, k, l, h => by
    rw [List.range'_succ, List.mapM_cons] at h
    cases h1 : f k with
    | none => simp [h1] at h
    | some y =>
      cases h2 : (List.range' (k + 1) n).mapM f with
      | none => simp [h1, h2] at h
      | some r =>
        simp [h1, h2] at h
        subst h
        obtain ⟨q1, q2⟩ := mapM_range h2
        refine ⟨by simp [q1], fun i x hi => ?_⟩
        cases i with
        | zero => simp at hi; subst hi; exact h1
        | succ i => simp at hi; have := q2 i x hi; rwa [show k + (i + 1) = k + 1 + i by omega]
theorem all2_len {R : DV → Value → Prop} {l : List DV} {m : List Value} (h : All2 R l m) : l.length = m.length := h.length

theorem cells_of {w : World} {a : Addr} {n base : Nat} {cs : List Value} (h : w.cells? base a n = some cs) : cs.length = n ∧ ∀ j v, cs[j]? = some v → w.cell? (a.add j) = some v := by
  unfold World.cells? at h
  split at h
  · rw [List.range_eq_range'] at h
    obtain ⟨h1, h2⟩ := mapM_range h
    exact ⟨h1, fun j v hj => by have := h2 j v hj; rwa [Nat.zero_add] at this⟩
  · cases h
theorem spot_none {w : World} {a : Addr} {v : Value} (h : w.cell? a = some v) : a = ⟨a.block, a.off, none⟩ := by
  unfold World.cell? at h
  split at h
  · split at h
    · cases h
    · rename_i hs
      cases a with
      | mk b o s => cases s with
        | none => rfl
        | some s => simp at hs
  · cases h

variable {enc : TypeId × Value → H} {w : World}
/-- Elements of a slice. -/
theorem elems_td {e : TypeId} {fuel : Nat} {a : Addr} (hsz : 0 < P.cellsOf e) (ih : ∀ (cs : List Value) d p, cs.length = P.cellsOf e → DataW.trod enc P w 0 (fun _ => true) true fuel e cs = some (d, p) → All2 (RD w (allPr w)) (dvOf d) cs ∧ TD P fuel e d) :
    ∀ {n k : Nat} {l : List (DataW H × List MemPlace)}, (List.range' k n).mapM (fun i => (w.cells? 0 (a.add (i * P.cellsOf e)) (P.cellsOf e)).bind (DataW.trod enc P w 0 (fun _ => true) true fuel e)) = some l →
    l.length = n ∧ (∀ x ∈ l, (dvOf x.1).length = P.cellsOf e ∧ TD P fuel e x.1) ∧ (n ≠ 0 → k = 0 → a = ⟨a.block, a.off, none⟩) ∧ RC w (allPr w) a.block (a.off + k * P.cellsOf e) (l.map fun x => dvOf x.1).flatten
  | 0, k, l, h => by
    simp at h
    subst h
    exact ⟨rfl, by simp, by simp, .nil _ _⟩
  | n + 1, k, l, h => by
    rw [List.range'_succ, List.mapM_cons] at h
    cases h1 : (w.cells? 0 (a.add (k * P.cellsOf e)) (P.cellsOf e)).bind (DataW.trod enc P w 0 (fun _ => true) true fuel e) with
    | none => simp [h1] at h
    | some y =>
      cases h2 : (List.range' (k + 1) n).mapM (fun i => (w.cells? 0 (a.add (i * P.cellsOf e)) (P.cellsOf e)).bind (DataW.trod enc P w 0 (fun _ => true) true fuel e)) with
      | none => simp [h1, h2] at h
      | some r =>
        obtain ⟨cs, k1, k2⟩ := Option.bind_eq_some_iff.1 h1
        obtain ⟨k3, k4⟩ := cells_of k1
        obtain ⟨k5, k6⟩ := ih cs y.1 y.2 k3 k2
        obtain ⟨q1, q2, _, q4⟩ := elems_td hsz ih h2
        have hdl : (dvOf y.1).length = P.cellsOf e := by rw [k5.length, k3]
        have hl : l = y :: r := by simpa [h1, h2, eq_comm] using h
        subst hl
        refine ⟨by simp [q1], fun x hx => ?_, fun _ hk => ?_, ?_⟩
        · rcases List.mem_cons.1 hx with rfl | hx
          · exact ⟨hdl, k6⟩
          · exact q2 x hx
        · subst hk
          rw [Nat.zero_mul] at k4
          have hne : ∃ v, cs[0]? = some v := by
            cases cs with
            | nil => simp at k3; omega
            | cons v _ => exact ⟨v, rfl⟩
          obtain ⟨v, hv⟩ := hne
          have := k4 0 v hv
          simp only [Addr.add, if_true] at this
          exact spot_none this
        · rw [List.map_cons, List.flatten_cons]
          refine RC.join ?_ ?_
          · have hcell : ∀ j v, cs[j]? = some v → w.cell? ⟨a.block, a.off + k * P.cellsOf e + j, none⟩ = some v := by
              intro j v hj
              have h5 := k4 j v hj
              have h6 := spot_none h5
              rw [h6] at h5
              have hb : ((a.add (k * P.cellsOf e)).add j).block = a.block := by simp only [Addr.add]; split <;> split <;> rfl
              have ho : ((a.add (k * P.cellsOf e)).add j).off = a.off + k * P.cellsOf e + j := by
                have hadd : ∀ (x : Addr) (n : Nat), (x.add n).off = x.off + n := fun x n => by
                  unfold Addr.add
                  split
                  · rename_i hn; rw [hn, Nat.add_zero]
                  · rfl
                rw [hadd, hadd]
              rwa [hb, ho] at h5
            refine RC.of_vals k5 hcell (fun j hj => ?_)
            rw [k5.length] at hj
            have := hcell j cs[j] (by simp [hj])
            unfold allPr
            rw [this]
            rfl
          · rw [hdl]
            have : a.off + (k + 1) * P.cellsOf e = a.off + k * P.cellsOf e + P.cellsOf e := by rw [Nat.add_mul, Nat.one_mul, Nat.add_assoc]
            rwa [this] at q4
/-- Fields of a struct. -/
theorem fields_td {fuel : Nat} {S : List TypeId} (ih : ∀ t ∈ S, ∀ (cs : List Value) d p, cs.length = P.cellsOf t → DataW.trod enc P w 0 (fun _ => true) true fuel t cs = some (d, p) → All2 (RD w (allPr w)) (dvOf d) cs ∧ TD P fuel t d) {cs : List Value} :
    ∀ {fs : List Field} {o : Nat} {l : List (DataW H × List MemPlace)}, contigB P fs o cs.length = true → (fs.all fun f => S.contains f.type) = true → o ≤ cs.length →
    fs.mapM (fun f => DataW.trod enc P w 0 (fun _ => true) true fuel f.type ((cs.drop f.offset).take (P.cellsOf f.type))) = some l → All2 (RD w (allPr w)) (dvCat (l.map (·.1))) (cs.drop o) ∧ TDf (TD P fuel) fs (l.map (·.1))
  | [], o, l, hc, _, _, h => by
    simp only [contigB, beq_iff_eq] at hc
    subst hc
    simp at h
    subst h
    refine ⟨?_, rfl⟩
    rw [List.drop_length]
    exact .nil
  | f :: fs, o, l, hc, hm, ho, h => by
    simp only [contigB, Bool.and_eq_true, beq_iff_eq] at hc
    obtain ⟨hc1, hc2⟩ := hc
    simp only [List.all_cons, Bool.and_eq_true] at hm
    have mono : ∀ {fs : List Field} {o n : Nat}, contigB P fs o n = true → o ≤ n := by
      intro fs
      induction fs with
      | nil => intro o n h; simp [contigB] at h; omega
      | cons f fs ih => intro o n h; simp only [contigB, Bool.and_eq_true] at h; have := ih h.2; omega
    have hle := mono hc2
    rw [List.mapM_cons] at h
    cases h1 : DataW.trod enc P w 0 (fun _ => true) true fuel f.type ((cs.drop f.offset).take (P.cellsOf f.type)) with
    | none => simp [h1] at h
    | some y =>
      cases h2 : fs.mapM (fun f => DataW.trod enc P w 0 (fun _ => true) true fuel f.type ((cs.drop f.offset).take (P.cellsOf f.type))) with
      | none => simp [h1, h2] at h
      | some r =>
        obtain ⟨q1, q2⟩ := ih f.type (by simpa using hm.1) _ y.1 y.2 (by simp; omega) h1
        obtain ⟨q3, q4⟩ := fields_td ih (fs := fs) hc2 hm.2 hle h2
        have hl : l = y :: r := by simpa [h1, h2, eq_comm] using h
        subst hl
        refine ⟨?_, y.1, r.map (·.1), rfl, q2, q4⟩
        rw [List.map_cons, dvCat]
        have := q1.app q3
        rw [hc1] at this
        rwa [← List.drop_drop, List.take_append_drop] at this
theorem trod_td {S : List TypeId} (hS : closedB P S = true) : ∀ (fuel : Nat), ∀ t ∈ S, ∀ (cs : List Value) d p, cs.length = P.cellsOf t → DataW.trod enc P w 0 (fun _ => true) true fuel t cs = some (d, p) → All2 (RD w (allPr w)) (dvOf d) cs ∧ TD P fuel t d
  | 0, _, _, _, _, _, _, h => by simp [DataW.trod] at h
  | fuel + 1, t, ht, cs, d, p, hlen, h => by
    have ih := trod_td hS fuel
    have hc := List.all_eq_true.1 hS t ht
    unfold DataW.trod at h
    simp only [TD]
    split at h <;> first | (rename_i hu; rw [hu] at hc ⊢; simp only [Bool.false_eq_true] at hc; done) | (rename_i hu; rw [hu] at hc ⊢; simp only [Bool.false_eq_true] at hc) | cases h
    · simp only [Option.some.injEq, Prod.mk.injEq] at h
      obtain ⟨rfl, _⟩ := h
      exact ⟨.cons (.bool _) .nil, _, rfl⟩
    · split at h
      · rename_i hk
        obtain ⟨rfl, hw⟩ := hk
        simp only [Option.some.injEq, Prod.mk.injEq] at h
        obtain ⟨rfl, _⟩ := h
        exact ⟨.cons (.int _ _) .nil, _, rfl, hw⟩
      · cases h
    · rename_i s
      split at h
      · rename_i hl
        simp only [Option.some.injEq, Prod.mk.injEq] at h
        obtain ⟨rfl, _⟩ := h
        refine ⟨.cons ?_ .nil, s.data.toList, rfl⟩
        have := RD.str (w := w) (Pr := allPr w) s.data.toList
        rwa [← str_data] at this
      · cases h
    · simp only [Option.some.injEq, Prod.mk.injEq] at h
      obtain ⟨rfl, _⟩ := h
      exact ⟨.cons (.nil _ _ _ _) .nil, .inl rfl⟩
    · rename_i e a len cap
      simp only [Bool.and_eq_true, decide_eq_true_eq] at hc
      split at h
      · rename_i hcond
        obtain ⟨el, h1, h2⟩ := Option.bind_eq_some_iff.1 h
        obtain ⟨sp, _, h3⟩ := Option.map_eq_some_iff.1 h2
        simp only [Prod.mk.injEq] at h3
        obtain ⟨rfl, _⟩ := h3
        rw [List.range_eq_range'] at h1
        obtain ⟨q1, q2, q3, q4⟩ := elems_td hc.2 (fun cs d p hl h => ih e (by simpa using hc.1.2) cs d p hl h) h1
        refine ⟨?_, .inr ⟨_, _, rfl, fun x hx => ?_⟩⟩
        · rw [dvOf, dvAll_eq, List.map_map]
          refine .cons ?_ .nil
          rw [Nat.zero_mul, Nat.add_zero] at q4
          have hlen : (el.map fun x => dvOf x.1).length = len := by simp [q1]
          have := RD.sl (w := w) (Pr := allPr w) (el.map fun x => dvOf x.1) (some a) cap (P.cellsOf e) a.block a.off (by omega) (fun x hx => by
            obtain ⟨y, hy, rfl⟩ := List.mem_map.1 hx
            exact (q2 y hy).1) (fun hx => by rw [← q3 (by intro h0; apply hx; exact List.eq_nil_of_length_eq_zero (by omega)) rfl]) q4
          rwa [hlen] at this
        · obtain ⟨y, hy, rfl⟩ := List.mem_map.1 hx
          exact (q2 y hy).2
      · cases h
    · rename_i fs
      simp only [Bool.and_eq_true] at hc
      rw [if_pos hlen] at h
      obtain ⟨l, h1, h2⟩ := Option.map_eq_some_iff.1 h
      simp only [Prod.mk.injEq] at h2
      obtain ⟨rfl, _⟩ := h2
      obtain ⟨q1, q2⟩ := fields_td (S := S) ih (o := 0) (by rw [hlen]; exact hc.1) hc.2 (Nat.zero_le _) h1
      exact ⟨by simpa [dvOf] using q1, _, rfl, q2⟩
end Go.Ae
