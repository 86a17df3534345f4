/-
  WALKS: package eval: what has no loop over expressions.
-/
import Derived.Test.YtkmmfenknekcbaaGreatWVal3
import Derived.Test.YtkmmfenknekcbaaGreatDsIdx
set_option linter.unusedSimpArgs false
set_option linter.unusedVariables false
set_option maxRecDepth 100000
namespace Go.Proofs.YtkmmfenknekcbaaGreat
open Go Go.Ae Go.Ds
theorem w_val_isText (t : Str) (ht : t.length ≤ 140737488351232) : call A 111 [sv t] [] = some (bv (isT t), []) := by
  refine call_body (af := af111) rfl fnT111 rfl ?_
  have hI : call A 134 [sv t, .fn 133 []] [] = some (iv (Lib.idxFunc badR true ⟨t.toArray⟩), []) := by
    refine call_body (af := af134) rfl fnT134 rfl ?_
    simp -implicitDefEqProofs [af134, call_idx, gIdx]
  have h := idx_text t
  unfold isT
  by_cases h1 : (t.length : Int) ≤ 16
  · have h2 : t.length ≤ 16 := by omega
    simp -implicitDefEqProofs [af111, h1, hI]
    rw [h]
    simp [h2]
  · have h2 : ¬ t.length ≤ 16 := by omega
    simp -implicitDefEqProofs [af111, h1, h2]
theorem w_val_named_text (t : Str) : call A 110 [.agg (encV (textV t))] [] = some (.agg (encV (textV t)), []) := by
  refine call_body (af := af110) rfl fnT110 rfl ?_
  simp -implicitDefEqProofs [af110, encV_mk]
theorem w_val_Is_text (t : Str) (ht : t.length ≤ 140737488351232) : call A 44 [.agg (encV (textV t))] [] = some (bv (isT t), []) := by
  have hn := w_val_named_text t
  have hm : call A 77 [.agg (encV (textV t)), iv 0] [] = some (bv (isT t), []) := by
    refine call_body (af := af77) rfl fnT77 rfl ?_
    rw [encV_mk] at hn ⊢
    simp only [List.map_nil] at hn ⊢
    simp -implicitDefEqProofs [af77, hn, w_val_isText t ht]
  refine call_body (af := af44) rfl fnT44 rfl ?_
  rw [encV_mk] at hm ⊢
  simp only [List.map_nil] at hm ⊢
  simp -implicitDefEqProofs [af44, hm]
theorem w_ev_truth (b : Bool) : call A 37 [bv b] [] = some (.agg (encV (truthV b)), []) := by
  refine call_body (af := af37) rfl fnT37 rfl ?_
  simp -implicitDefEqProofs [af37, encV_mk]
theorem w_ev_num (m s : Int) : call A 46 [.agg [.int .i64 m, .int .i64 s]] [] = some (.agg (encV (numV m s)), []) := by
  refine call_body (af := af46) rfl fnT46 rfl ?_
  simp -implicitDefEqProofs [af46, encV_mk]
theorem w_ev_whole (m : Int) : call A 49 [iv m] [] = some (.agg (encV (numV m 0)), []) := by
  refine call_body (af := af49) rfl fnT49 rfl ?_
  simp -implicitDefEqProofs [af49, w_ev_num]
theorem w_ev_areAll (k : Int) (l : List V) (hl : l.length ≤ 140737488351232) : call A 39 [iv k, .d (.sl (l.map encV))] [] = some (bv (allK k l), []) := by
  refine call_body (af := af39) rfl fnT39 rfl ?_
  simp -implicitDefEqProofs [af39]
  refine loopW_inv (fun M st => ∃ i : Nat, i ≤ l.length ∧ M = l.length - i ∧ st.tm 0 = iv k ∧ st.tm 7 = .d (.sl (l.map encV)) ∧ st.tm 8 = iv l.length ∧ st.tm 9 = iv i ∧ allK k (l.drop i) = allK k l) ?_ l.length _ ?_
  rotate_left
  · exact ⟨0, by simp⟩
  rintro M st ⟨i, hi, rfl, q0, q7, q8, q9, hr⟩ L hL
  by_cases h : i < l.length
  · rw [List.drop_eq_getElem_cons h] at hr
    simp only [allK, List.all_cons] at hr
    obtain ⟨v, hv⟩ : ∃ v, l[i] = v := ⟨_, rfl⟩
    rw [hv] at hr
    rcases v with ⟨k', b, m, s, t, l'⟩
    by_cases hk : k' = k
    · simp -implicitDefEqProofs [q0, q7, q8, q9, h, hv, encV_mk, hk]
      refine hL (l.length - (i + 1)) _ (by omega) ⟨i + 1, by omega, rfl, by simp [q0], by simp [q7], by simp [q8], ?_, by simpa [allK, V.k, hk] using hr⟩
      simp -implicitDefEqProofs
      exact wrapI _ (by omega) (by omega)
    · have hf : allK k l = false := by
        simp only [allK]
        rw [← hr]
        simp [V.k, hk]
      simp -implicitDefEqProofs [q0, q7, q8, q9, h, hv, encV_mk, hk, hf]
  · simp -implicitDefEqProofs [q0, q7, q8, q9, h]
    rw [List.drop_of_length_le (by omega)] at hr
    simpa [allK] using hr
theorem w_ev_areAll2 (k : Int) (a b : V) : call A 39 [iv k, .d (.sl [encV a, encV b])] [] = some (bv (decide (a.k = k) && decide (b.k = k)), []) := by
  have := w_ev_areAll k [a, b] (by simp)
  simpa [allK] using this
theorem w_ev_Rel (op : Str) (a b : V) (ha : isV a 0 = true) (hb : isV b 0 = true) : call A 17 [sv op, .agg (encV a), .agg (encV b)] [] = some (.agg (encV (relV op a b)), []) := by
  refine call_body (af := af17) rfl fnT17 rfl ?_
  have he := w_val_Equal a b (isV_wf _ _ ha) (isV_wf _ _ hb) 0 ha hb
  have hc := w_val_Cmp a b (isV_wf _ _ ha) (isV_wf _ _ hb) 0 ha hb
  have a2 := w_ev_areAll2 2 a b
  have a3 := w_ev_areAll2 3 a b
  unfold relV
  by_cases h1 : op = [61]
  · subst h1
    simp -implicitDefEqProofs [af17, he, w_ev_truth]
  · by_cases h2 : op = [33, 61]
    · subst h2
      simp -implicitDefEqProofs [af17, he, w_ev_truth]
    · by_cases h3 : a.k = b.k ∧ (a.k = 2 ∨ a.k = 3)
      · obtain ⟨e, h3⟩ := h3
        by_cases h4 : op = [60]
        · subst h4
          rcases h3 with h3 | h3 <;> simp -implicitDefEqProofs [af17, a2, a3, ← e, h3, hc, w_ev_truth]
        · by_cases h5 : op = [60, 61]
          · subst h5
            rcases h3 with h3 | h3 <;> simp -implicitDefEqProofs [af17, a2, a3, ← e, h3, hc, w_ev_truth]
          · by_cases h6 : op = [62]
            · subst h6
              rcases h3 with h3 | h3 <;> simp -implicitDefEqProofs [af17, a2, a3, ← e, h3, hc, w_ev_truth]
            · by_cases h7 : op = [62, 61]
              · subst h7
                rcases h3 with h3 | h3 <;> simp -implicitDefEqProofs [af17, a2, a3, ← e, h3, hc, w_ev_truth]
              · rcases h3 with h3 | h3 <;> simp -implicitDefEqProofs [af17, a2, a3, ← e, h3, hc, w_ev_truth, h1, h2, h4, h5, h6, h7, encV_mk]
      · have e2 : (decide (a.k = 2) && decide (b.k = 2)) = false := by
          rw [Bool.eq_false_iff]; intro h; simp at h; exact h3 ⟨by omega, .inl h.1⟩
        have e3 : (decide (a.k = 3) && decide (b.k = 3)) = false := by
          rw [Bool.eq_false_iff]; intro h; simp at h; exact h3 ⟨by omega, .inr h.1⟩
        rw [e2] at a2
        rw [e3] at a3
        simp only [if_pos h3]
        simp -implicitDefEqProofs [af17, h1, h2, a2, a3, encV_mk]
theorem w_ev_isLeaf (k : Int) : call A 24 [iv k] [] = some (bv (decide (1 ≤ k) && decide (k ≤ 5)), []) := by
  refine call_body (af := af24) rfl fnT24 rfl ?_
  by_cases h : 1 ≤ k <;> simp -implicitDefEqProofs [af24, h]
theorem w_ev_found (m s e : Int) : call A 81 [.agg [.int .i64 m, .int .i64 s], iv e] [] = some (.tup [.agg (encV (foundV ((m, s), e)).1), iv (foundV ((m, s), e)).2], []) := by
  refine call_body (af := af81) rfl fnT81 rfl ?_
  unfold foundV
  by_cases h : e = 0 <;> simp -implicitDefEqProofs [af81, h, w_ev_num, encV_mk]
end Go.Proofs.YtkmmfenknekcbaaGreat
