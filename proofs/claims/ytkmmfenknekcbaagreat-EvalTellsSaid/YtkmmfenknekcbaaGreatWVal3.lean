/-
  WALKS: packages val and dossierref2: Truth, And, Or, Not, Cmp, Equal, Is.
-/
import Derived.Test.YtkmmfenknekcbaaGreatWRef1
import Derived.Test.YtkmmfenknekcbaaGreatWDec2
import Derived.Test.YtkmmfenknekcbaaGreatWVal2
import Derived.Test.YtkmmfenknekcbaaGreatDsEvOk
set_option linter.unusedSimpArgs false
set_option linter.unusedVariables false
set_option maxRecDepth 100000
namespace Go.Proofs.YtkmmfenknekcbaaGreat
open Go Go.Ae Go.Ds
theorem w_val_truth (b : Bool) : call A 116 [bv b] [] = some (.agg (encV (truthV b)), []) := by
  refine call_body (af := af116) rfl fnT116 rfl ?_
  simp -implicitDefEqProofs [af116, encV_mk]
theorem w_val_false (v : V) : call A 115 [.agg (encV v)] [] = some (bv (isFal v), []) := by
  refine call_body (af := af115) rfl fnT115 rfl ?_
  rcases v with ⟨k, b, m, s, t, l⟩
  by_cases h : k = 1 <;> simp -implicitDefEqProofs [af115, encV_mk, isFal, V.k, V.b, h]
theorem w_val_Truth (v : V) : call A 45 [.agg (encV v)] [] = some (bv (isTru v), []) := by
  refine call_body (af := af45) rfl fnT45 rfl ?_
  rcases v with ⟨k, b, m, s, t, l⟩
  by_cases h : k = 1 <;> simp -implicitDefEqProofs [af45, encV_mk, isTru, V.k, V.b, h]
theorem w_val_Not (v : V) : call A 117 [.agg (encV v)] [] = some (.agg (encV (notV v)), []) := by
  refine call_body (af := af117) rfl fnT117 rfl ?_
  rcases v with ⟨k, b, m, s, t, l⟩
  have ht := w_val_truth (!b)
  rw [encV_mk] at ht
  by_cases h : k = 1 <;> simp -implicitDefEqProofs [af117, encV_mk, notV, V.k, V.b, h, ht]
theorem w_val_And (a b : V) : call A 79 [.agg (encV a), .agg (encV b)] [] = some (.agg (encV (andV a b)), []) := by
  refine call_body (af := af79) rfl fnT79 rfl ?_
  have f1 := w_val_false a
  have f2 := w_val_false b
  have t1 := w_val_Truth a
  have t2 := w_val_Truth b
  have g1 := w_val_truth true
  have g2 := w_val_truth false
  rw [encV_mk] at g1 g2
  unfold andV
  cases h1 : isFal a <;> cases h2 : isFal b <;> cases h3 : isTru a <;> cases h4 : isTru b <;> rw [h1] at f1 <;> rw [h2] at f2 <;> rw [h3] at t1 <;> rw [h4] at t2 <;> simp -implicitDefEqProofs [af79, f1, f2, t1, t2, g1, g2, encV_mk]
theorem w_val_Or (a b : V) : call A 80 [.agg (encV a), .agg (encV b)] [] = some (.agg (encV (orV a b)), []) := by
  refine call_body (af := af80) rfl fnT80 rfl ?_
  simp -implicitDefEqProofs [af80, w_val_Not, w_val_And, orV_eq]
theorem w_ref2_Of (b : Bool) : call A 42 [bv b] [] = some (.agg (encV (truthV b)), []) := by
  refine call_body (af := af42) rfl fnT42 rfl ?_
  simp -implicitDefEqProofs [af42, encV_mk]
theorem w_ref2_no (v : V) : call A 89 [.agg (encV v)] [] = some (bv (isFal v), []) := by
  refine call_body (af := af89) rfl fnT89 rfl ?_
  rcases v with ⟨k, b, m, s, t, l⟩
  by_cases h : k = 1 <;> simp -implicitDefEqProofs [af89, encV_mk, isFal, V.k, V.b, h]
theorem w_ref2_Truth (v : V) : call A 19 [.agg (encV v)] [] = some (bv (isTru v), []) := by
  refine call_body (af := af19) rfl fnT19 rfl ?_
  rcases v with ⟨k, b, m, s, t, l⟩
  by_cases h : k = 1 <;> simp -implicitDefEqProofs [af19, encV_mk, isTru, V.k, V.b, h]
theorem w_ref2_Not (v : V) : call A 61 [.agg (encV v)] [] = some (.agg (encV (notV v)), []) := by
  refine call_body (af := af61) rfl fnT61 rfl ?_
  rcases v with ⟨k, b, m, s, t, l⟩
  have ht := w_ref2_Of (!b)
  rw [encV_mk] at ht
  by_cases h : k = 1 <;> simp -implicitDefEqProofs [af61, encV_mk, notV, V.k, V.b, h, ht]
theorem w_ref2_And (a b : V) : call A 54 [.agg (encV a), .agg (encV b)] [] = some (.agg (encV (andV a b)), []) := by
  refine call_body (af := af54) rfl fnT54 rfl ?_
  have f1 := w_ref2_no a
  have f2 := w_ref2_no b
  have t1 := w_ref2_Truth a
  have t2 := w_ref2_Truth b
  have g1 := w_ref2_Of true
  have g2 := w_ref2_Of false
  rw [encV_mk] at g1 g2
  unfold andV
  cases h1 : isFal a <;> cases h2 : isFal b <;> cases h3 : isTru a <;> cases h4 : isTru b <;> rw [h1] at f1 <;> rw [h2] at f2 <;> rw [h3] at t1 <;> rw [h4] at t2 <;> simp -implicitDefEqProofs [af54, f1, f2, t1, t2, g1, g2, encV_mk]
theorem w_ref2_Or (a b : V) : call A 55 [.agg (encV a), .agg (encV b)] [] = some (.agg (encV (orV a b)), []) := by
  refine call_body (af := af55) rfl fnT55 rfl ?_
  have f1 := w_ref2_no a
  have f2 := w_ref2_no b
  have t1 := w_ref2_Truth a
  have t2 := w_ref2_Truth b
  have g1 := w_ref2_Of true
  have g2 := w_ref2_Of false
  rw [encV_mk] at g1 g2
  unfold orV
  cases h1 : isFal a <;> cases h2 : isFal b <;> cases h3 : isTru a <;> cases h4 : isTru b <;> rw [h1] at f1 <;> rw [h2] at f2 <;> rw [h3] at t1 <;> rw [h4] at t2 <;> simp -implicitDefEqProofs [af55, f1, f2, t1, t2, g1, g2, encV_mk]
theorem w_ref2_order (a b : Int) : call A 74 [iv a, iv b] [] = some (iv (ord a b), []) := by
  refine call_body (af := af74) rfl fnT74 rfl ?_
  unfold ord
  by_cases h1 : a < b
  · simp -implicitDefEqProofs [af74, h1]
  · by_cases h2 : b < a
    · simp -implicitDefEqProofs [af74, h1, h2]
    · simp -implicitDefEqProofs [af74, h1, h2]
theorem w_ref2_one (b : Bool) : call A 75 [bv b] [] = some (iv (bi b), []) := by
  refine call_body (af := af75) rfl fnT75 rfl ?_
  cases b <;> simp -implicitDefEqProofs [af75, bi]
theorem ord_len (l l' : List V) : ord (l.length : Int) l'.length = cmpVs (l.drop (min l.length l'.length)) (l'.drop (min l.length l'.length)) := by
  unfold ord
  by_cases h : l.length < l'.length
  · rw [Nat.min_eq_left (by omega), List.drop_length, List.drop_eq_getElem_cons h, cmpVs, if_pos (by omega)]
  · by_cases h' : l'.length < l.length
    · rw [Nat.min_eq_right (by omega), List.drop_length, List.drop_eq_getElem_cons h', cmpVs, if_neg (by omega), if_pos (by omega)]
    · have e : l.length = l'.length := by omega
      rw [e, Nat.min_self, List.drop_length, List.drop_of_length_le (by omega), cmpVs, if_neg (by omega), if_neg (by omega)]
theorem bi_ord (b b' : Bool) : ord (bi b) (bi b') = bi b - bi b' := by cases b <;> cases b' <;> decide
theorem w_ref2_Cmp : ∀ (v v' : V) (n : Nat), isV v n = true → isV v' n = true → call A 41 [.agg (encV v), .agg (encV v')] [] = some (iv (cmpV v v'), []) := by
  intro v
  induction v using V.ind with
  | h k b m s t l ih =>
    rintro ⟨k', b', m', s', t', l'⟩ n hx hx'
    have wl := (isV_wf _ _ hx).2.2.2.2.1
    have wl' := (isV_wf _ _ hx').2.2.2.2.1
    simp only [reach] at wl wl'
    obtain ⟨_, _, _, _, hi, he⟩ := isV_mk hx
    obtain ⟨_, _, _, _, hi', he'⟩ := isV_mk hx'
    refine call_body (af := af41) rfl fnT41 rfl ?_
    rw [encV_mk, encV_mk, cmpV]
    by_cases hk : k = k'
    · subst hk
      by_cases h1 : k = 1
      · subst h1
        simp -implicitDefEqProofs [af41, w_ref2_one, w_ref2_order, bi_ord]
      · by_cases h2 : k = 2
        · subst h2
          simp -implicitDefEqProofs [af41, w_ref1_Cmp m s m' s' (by simpa using hi) (by simpa using hi')]
        · by_cases h3 : k = 3
          · subst h3
            unfold ordT
            cases h4 : bytesLt t t' with
            | true => simp -implicitDefEqProofs [af41, h4]
            | false =>
              have h5 := bytes_tri t t' h4
              rw [h4, Bool.false_or] at h5
              have h6 := w_ref2_one (bytesLt t' t)
              cases h7 : bytesLt t' t <;> rw [h7] at h5 h6 <;> simp -implicitDefEqProofs [af41, h4, h5, h6, bi]
          · simp -implicitDefEqProofs [af41, h1, h2, h3]
            refine loopW_inv (fun M st => ∃ i : Nat, i ≤ l.length ∧ i ≤ l'.length ∧ M = l.length - i ∧ st.tm 2 = .ptr 0 0 ∧ st.tm 3 = .ptr 1 0 ∧ st.tm 5 = iv i ∧
              st.ob 0 = some [iv k, bv b, iv m, iv s, sv t, .d (.sl (l.map encV))] ∧ st.ob 1 = some [iv k, bv b', iv m', iv s', sv t', .d (.sl (l'.map encV))] ∧ cmpVs (l.drop i) (l'.drop i) = cmpVs l l') ?_ l.length _ ?_
            rotate_left
            · exact ⟨0, by simp⟩
            rintro M st ⟨i, q1, q2, rfl, p2, p3, p5, o0, o1, hr⟩ L hL
            by_cases h : i < l.length
            · by_cases h' : i < l'.length
              · rw [List.drop_eq_getElem_cons h, List.drop_eq_getElem_cons h', cmpVs] at hr
                have hc := ih _ (List.getElem_mem h) l'[i] (n + 1) (he _ (List.getElem_mem h)) (he' _ (List.getElem_mem h'))
                by_cases hz : cmpV l[i] l'[i] = 0
                · rw [if_neg (by simpa using hz)] at hr
                  simp -implicitDefEqProofs [p2, p3, p5, o0, o1, h, h', hc, hz]
                  refine hL (l.length - (i + 1)) _ (by omega) ⟨i + 1, by omega, by omega, rfl, by simp [p2], by simp [p3], ?_, by simp [o0], by simp [o1], hr⟩
                  simp -implicitDefEqProofs
                  exact wrapI _ (by omega) (by omega)
                · rw [if_pos hz] at hr
                  simp -implicitDefEqProofs [p2, p3, p5, o0, o1, h, h', hc, hz]
                  exact hr
              · simp -implicitDefEqProofs [p2, p3, p5, o0, o1, h, h', w_ref2_order]
                have hm : min l.length l'.length = i := by omega
                rw [ord_len, hm]
                exact hr
            · simp -implicitDefEqProofs [p2, p3, p5, o0, o1, h, w_ref2_order]
              have hm : min l.length l'.length = i := by omega
              rw [ord_len, hm]
              exact hr
    · simp -implicitDefEqProofs [af41, hk, w_ref2_order]
theorem w_ref2_Equal (v v' : V) (n : Nat) (h : isV v n = true) (h' : isV v' n = true) : call A 98 [.agg (encV v), .agg (encV v')] [] = some (bv (decide (cmpV v v' = 0)), []) := by
  refine call_body (af := af98) rfl fnT98 rfl ?_
  have hc := w_ref2_Cmp v v' n h h'
  simp -implicitDefEqProofs [af98, hc]
  rw [Bool.eq_iff_iff]
  simp
end Go.Proofs.YtkmmfenknekcbaaGreat
