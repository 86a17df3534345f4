/-
  WALKS: package val: Cmp, Equal, Copy, Truth, And, ..
-/
import Derived.Test.YtkmmfenknekcbaaGreatWVal1
set_option linter.unusedSimpArgs false
set_option linter.unusedVariables false
set_option maxRecDepth 100000
namespace Go.Proofs.YtkmmfenknekcbaaGreat
open Go Go.Ae Go.Ds
theorem w_val_number (b : Bool) : call A 70 [bv b] [] = some (iv (bi b), []) := by
  refine call_body (af := af70) rfl fnT70 rfl ?_
  cases b <;> simp -implicitDefEqProofs [af70, bi]
/-- slices.CompareFunc by a comparison whose answers are known. -/
theorem w_cmpF (l l' : List V) (hl : l.length ≤ 140737488351232) (hc : ∀ v ∈ l, ∀ v' ∈ l', call A 40 [.agg (encV v), .agg (encV v')] [] = some (iv (cmpV v v'), [])) :
    call A 73 [.d (.sl (l.map encV)), .d (.sl (l'.map encV)), .fn 40 []] [] = some (iv (cmpVs l l'), []) := by
  refine call_body (af := af73) rfl fnT73 rfl ?_
  simp -implicitDefEqProofs [af73]
  refine loopW_inv (fun m st => ∃ i : Nat, i ≤ l.length ∧ i ≤ l'.length ∧ m = l.length - i ∧ st.tm 0 = .d (.sl (l.map encV)) ∧ st.tm 1 = .d (.sl (l'.map encV)) ∧ st.tm 2 = .fn 40 [] ∧ st.tm 11 = .d (.sl (l.map encV)) ∧ st.tm 12 = iv l.length ∧ st.tm 13 = iv i ∧
    cmpVs (l.drop i) (l'.drop i) = cmpVs l l') ?_ l.length _ ?_
  rotate_left
  · exact ⟨0, by simp⟩
  rintro M st ⟨i, hi, hi', rfl, q0, q1, q2, q11, q12, q13, hr⟩ L hL
  by_cases h : i < l.length
  · rw [List.drop_eq_getElem_cons h] at hr
    by_cases h' : i < l'.length
    · rw [List.drop_eq_getElem_cons h', cmpVs] at hr
      have hv := hc _ (List.getElem_mem h) _ (List.getElem_mem h')
      by_cases hz : cmpV l[i] l'[i] = 0
      · rw [if_neg (by simpa using hz)] at hr
        simp -implicitDefEqProofs [q0, q1, q2, q11, q12, q13, h, h', encV_len, hv, hz, show ¬ l'.length ≤ i by omega]
        refine hL (l.length - (i + 1)) _ (by omega) ⟨i + 1, by omega, by omega, rfl, by simp [q0], by simp [q1], by simp [q2], by simp [q11], by simp [q12], ?_, hr⟩
        simp -implicitDefEqProofs
        exact wrapI _ (by omega) (by omega)
      · rw [if_pos hz] at hr
        simp -implicitDefEqProofs [q0, q1, q2, q11, q12, q13, h, h', encV_len, hv, hz, show ¬ l'.length ≤ i by omega]
        exact hr
    · rw [List.drop_of_length_le (l := l') (by omega), cmpVs] at hr
      simp -implicitDefEqProofs [q0, q1, q2, q11, q12, q13, h, h', encV_len, show l'.length ≤ i by omega]
      exact hr
  · rw [List.drop_of_length_le (l := l) (by omega)] at hr
    by_cases h' : l.length < l'.length
    · rw [List.drop_eq_getElem_cons (show i < l'.length by omega), cmpVs] at hr
      simp -implicitDefEqProofs [q0, q1, q2, q11, q12, q13, h, h']
      exact hr
    · rw [List.drop_of_length_le (l := l') (by omega), cmpVs] at hr
      simp -implicitDefEqProofs [q0, q1, q2, q11, q12, q13, h, h']
      exact hr
theorem w_val_Cmp : ∀ (v v' : V), wfV v → wfV v' → ∀ n, isV v n = true → isV v' n = true → call A 40 [.agg (encV v), .agg (encV v')] [] = some (iv (cmpV v v'), []) := by
  intro v
  induction v using V.ind with
  | h k b m s t l ih =>
    rintro ⟨k', b', m', s', t', l'⟩ ⟨_, _, _, _, hl, hwl⟩ ⟨_, _, _, _, hl', hwl'⟩ n hx hx'
    have hi := hx
    have hi' := hx'
    refine call_body (af := af40) rfl fnT40 rfl ?_
    rw [encV_mk, encV_mk, cmpV]
    simp only [isV, isVs_eq, Bool.and_eq_true, Bool.or_eq_true, decide_eq_true_eq] at hi hi'
    by_cases hk : k = k'
    · subst hk
      by_cases h1 : k = 1
      · subst h1
        simp -implicitDefEqProofs [af40, w_val_number, wrapI (bi b - bi b') (by cases b <;> cases b' <;> decide) (by cases b <;> cases b' <;> decide)]
      · by_cases h2 : k = 2
        · subst h2
          simp -implicitDefEqProofs [af40, w_dec_Cmp m s m' s' (by simpa using hi.2) (by simpa using hi'.2)]
        · by_cases h3 : k = 3
          · subst h3
            simp -implicitDefEqProofs [af40, w_cmpS]
          · have hlen : l.length ≤ 140737488351232 := by simp only [reach] at hl; omega
            have hc := w_cmpF l l' hlen (fun v hv v' hv' => ih v hv v' (wfVs_iff.1 hwl v hv) (wfVs_iff.1 hwl' v' hv') (n + 1) (isV_elems hx v hv) (isV_elems hx' v' hv'))
            simp -implicitDefEqProofs [af40, h1, h2, h3, hc]
    · by_cases h1 : k = 1
      · simp -implicitDefEqProofs [af40, hk, w_cmpI]
      · simp -implicitDefEqProofs [af40, hk, w_cmpI]
theorem w_val_Equal (v v' : V) (hv : wfV v) (hv' : wfV v') (n : Nat) (hi : isV v n = true) (hi' : isV v' n = true) : call A 38 [.agg (encV v), .agg (encV v')] [] = some (bv (decide (cmpV v v' = 0)), []) := by
  refine call_body (af := af38) rfl fnT38 rfl ?_
  have h := w_val_Cmp v v' hv hv' n hi hi'
  simp -implicitDefEqProofs [af38, h, encV_len]
  rw [Bool.eq_iff_iff]
  simp
theorem w_val_Copy : ∀ v : V, wfV v → call A 78 [.agg (encV v)] [] = some (.agg (encV v), []) := by
  intro v
  induction v using V.ind with
  | h k b m s t l ih =>
    rintro ⟨_, _, _, _, hl, hwl⟩
    refine call_body (af := af78) rfl fnT78 rfl ?_
    rw [encV_mk]
    by_cases he : l = []
    · subst he
      simp -implicitDefEqProofs [af78, call_clone, gClone]
      refine loopW_round ?_
      simp -implicitDefEqProofs
    · have h6 : (∀ a : V, a ∈ l → (encV a).length = 6) ∧ l.length * 72 ≤ 140737488355328 := ⟨fun a _ => encV_len a, by simp only [reach] at hl; omega⟩
      simp -implicitDefEqProofs [af78, call_clone, gClone, he, h6, encV_len]
      refine loopW_inv (fun M st => ∃ i c : Nat, i ≤ l.length ∧ M = l.length - i ∧ st.tm 1 = .ptr 0 0 ∧ st.tm 2 = .ptr 1 0 ∧ st.tm 10 = .osl 4 6 l.length ∧ st.tm 11 = iv l.length ∧ st.tm 12 = iv i ∧
        st.ob 0 = some [iv k, bv b, iv m, iv s, sv t, .osl 4 6 l.length] ∧ st.ob 1 = some [iv 0, bv false, iv 0, iv 0, sv [], .nils] ∧ st.ob 4 = some (cellsL l) ∧ st.no = c + 5 ∧ st.nb = 0) ?_ l.length _ ?_
      rotate_left
      · exact ⟨0, 6, by simp [cellsL]⟩
      rintro M st ⟨i, c, hi, rfl, q1, q2, q10, q11, q12, o0, o1, o4, hno, hnb⟩ L hL
      by_cases h : i < l.length
      · have hv : l[i] ∈ l := List.getElem_mem h
        have hc := ih _ hv (wfVs_iff.1 hwl _ hv)
        simp -implicitDefEqProofs [q1, q2, q10, q11, q12, o0, o1, o4, hno, hnb, h, take_cells h, hc, over_cells h, encV_len]
        refine hL (l.length - (i + 1)) _ (by omega) ⟨i + 1, c + 16, by omega, rfl, ?_⟩
        simp -implicitDefEqProofs [q1, q2, q10, q11, o0, o1]
        exact wrapI _ (by omega) (by omega)
      · simp -implicitDefEqProofs [q1, q2, q10, q11, q12, o0, o1, o4, hno, hnb, h, allD_cells, chunks_cells]
end Go.Proofs.YtkmmfenknekcbaaGreat
