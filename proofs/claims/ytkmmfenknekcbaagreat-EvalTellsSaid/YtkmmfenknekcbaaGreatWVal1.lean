/-
  WALKS: dossierref2.Is.
-/
import Derived.Test.YtkmmfenknekcbaaGreatWDec1
set_option linter.unusedSimpArgs false
set_option linter.unusedVariables false
set_option maxRecDepth 100000
namespace Go.Proofs.YtkmmfenknekcbaaGreat
open Go Go.Ae Go.Ds
theorem w_ref2_text (t : Str) (ht : t.length ≤ 140737488351232) : call A 66 [sv t] [] = some (bv (isT t), []) := by
  refine call_body (af := af66) rfl fnT66 rfl ?_
  simp -implicitDefEqProofs [af66]
  refine loopW_inv (fun m st => ∃ i : Nat, i ≤ t.length ∧ m = t.length - i ∧ st.tm 0 = sv t ∧ st.tm 3 = iv i ∧ (t.drop i).all isC = t.all isC) ?_ t.length _ ⟨0, by simp⟩
  rintro m st ⟨i, hi, rfl, h0, h3, hr⟩ L hL
  by_cases h : i < t.length
  · rw [List.drop_eq_getElem_cons h] at hr
    simp only [List.all_cons] at hr
    obtain ⟨c, hc⟩ : ∃ c, t[i] = c := ⟨_, rfl⟩
    rw [hc] at hr
    have hres : ∀ b, isC c = b → (b = false → isT t = false) ∧ (b = true → (t.drop (i + 1)).all isC = t.all isC) := by
      intro b hb
      rw [hb] at hr
      constructor
      · rintro rfl; simp only [Bool.false_and] at hr; simp [isT, ← hr]
      · rintro rfl; simpa using hr
    by_cases h1 : (c.toNat : Int) < 32
    · simp -implicitDefEqProofs [h0, h3, h, hc, h1]
      exact (hres false (by simp [isC]; omega)).1 rfl
    · by_cases h2 : (c.toNat : Int) > 126
      · simp -implicitDefEqProofs [h0, h3, h, hc, h1, h2]
        exact (hres false (by simp [isC]; omega)).1 rfl
      · by_cases h4 : (c.toNat : Int) = 34
        · simp -implicitDefEqProofs [h0, h3, h, hc, h1, h2, h4]
          exact (hres false (by simp [isC]; omega)).1 rfl
        · simp -implicitDefEqProofs [h0, h3, h, hc, h1, h2, h4]
          refine hL (t.length - (i + 1)) _ (by omega) ⟨i + 1, by omega, rfl, by simp [h0], ?_, (hres true (by simp [isC]; omega)).2 rfl⟩
          simp -implicitDefEqProofs
          exact wrapI _ (by omega) (by omega)
  · simp -implicitDefEqProofs [h0, h3, h]
    rw [List.drop_of_length_le (by omega)] at hr
    simp [isT, ← hr]
    omega
theorem w_ref2_is : ∀ (v : V), wfV v → ∀ (n : Nat), n ≤ 2 → call A 34 [.agg (encV v), iv n] [] = some (bv (isV v n), []) := by
  intro v
  induction v using V.ind with
  | h k b m s t l ih =>
    rintro ⟨hk, hm, hs, ht, hl, hwl⟩ n hn
    refine call_body (af := af34) rfl fnT34 rfl ?_
    rw [encV_mk]
    simp only [isV, isVs_eq, bare]
    by_cases hb : k ≠ 1 ∧ b = true
    · obtain ⟨h1, rfl⟩ := hb
      simp -implicitDefEqProofs [af34, h1]
    · have hb1 : k ≠ 1 → b = false := fun h => by cases b; rfl; exact absurd ⟨h, rfl⟩ hb
      have hbk : (decide (k = 1) || !b) = true := by
        by_cases h1 : k = 1
        · simp [h1]
        · simp [hb1 h1]
      by_cases hd : k ≠ 2 ∧ ¬ (m = 0 ∧ s = 0)
      · obtain ⟨h2, hms⟩ := hd
        have hx : (m == 0 && s == 0) = false := by simpa using hms
        have e1 : (decide (k = 2) || (decide (m = 0) && decide (s = 0))) = false := by simpa [h2] using hms
        by_cases h1 : k = 1
        · simp -implicitDefEqProofs [af34, h1, hx, e1]
          exact fun h1 h2 => absurd ⟨h1, h2⟩ hms
        · simp -implicitDefEqProofs [af34, h1, h2, hb1 h1, hx, e1]
          exact fun h1 h2 => absurd ⟨h1, h2⟩ hms
      · have hd2 : k ≠ 2 → m = 0 ∧ s = 0 := fun h => by
          by_cases hms : m = 0 ∧ s = 0
          · exact hms
          · exact absurd ⟨h, hms⟩ hd
        by_cases hT : k ≠ 3 ∧ t ≠ []
        · obtain ⟨h3, hT⟩ := hT
          by_cases h1 : k = 1
          · subst h1
            obtain ⟨rfl, rfl⟩ := hd2 (by omega)
            simp -implicitDefEqProofs [af34, hT]
          · by_cases h2 : k = 2
            · subst h2
              have := hb1 (by omega); subst this
              simp -implicitDefEqProofs [af34, hT]
            · obtain ⟨rfl, rfl⟩ := hd2 h2
              have := hb1 h1; subst this
              simp -implicitDefEqProofs [af34, hT, h1, h2, h3]
        · have hT3 : k ≠ 3 → t = [] := fun h => by
            by_cases ht : t = []
            · exact ht
            · exact absurd ⟨h, ht⟩ hT
          by_cases hL : k ≠ 4 ∧ l ≠ []
          · obtain ⟨h4, hL⟩ := hL
            by_cases h1 : k = 1
            · subst h1
              obtain ⟨rfl, rfl⟩ := hd2 (by omega)
              have := hT3 (by omega); subst this
              simp -implicitDefEqProofs [af34, hL]
            · have := hb1 h1; subst this
              by_cases h2 : k = 2
              · subst h2
                have := hT3 (by omega); subst this
                simp -implicitDefEqProofs [af34, hL]
              · obtain ⟨rfl, rfl⟩ := hd2 h2
                by_cases h3 : k = 3
                · subst h3
                  simp -implicitDefEqProofs [af34, hL]
                · have := hT3 h3; subst this
                  simp -implicitDefEqProofs [af34, hL, h1, h2, h3, h4]
          · have hL4 : k ≠ 4 → l = [] := fun h => by
              by_cases hl : l = []
              · exact hl
              · exact absurd ⟨h, hl⟩ hL
            by_cases h1 : k = 1
            · subst h1
              obtain ⟨rfl, rfl⟩ := hd2 (by omega)
              have := hT3 (by omega); subst this
              have := hL4 (by omega); subst this
              simp -implicitDefEqProofs [af34]
            · have := hb1 h1; subst this
              by_cases h2 : k = 2
              · subst h2
                have := hT3 (by omega); subst this
                have := hL4 (by omega); subst this
                simp -implicitDefEqProofs [af34, w_ref1_Is]
              · obtain ⟨rfl, rfl⟩ := hd2 h2
                by_cases h3 : k = 3
                · subst h3
                  have := hL4 (by omega); subst this
                  simp -implicitDefEqProofs [af34, w_ref2_text t ht]
                · have := hT3 h3; subst this
                  by_cases h4 : k = 4
                  · subst h4
                    by_cases hn2 : n < 2
                    · by_cases hl8 : l.length ≤ 8
                      · simp -implicitDefEqProofs [af34, hn2, hl8, show ¬ (2 : Int) ≤ n by omega, show (n : Int) < 2 by omega, show ¬ (8 : Int) < l.length by omega, show ¬ ((l.length : Nat) : Int) > 8 by omega]
                        refine loopW_inv (fun m st => ∃ i : Nat, i ≤ l.length ∧ m = l.length - i ∧ st.tm 1 = iv n ∧ st.tm 2 = .ptr 0 0 ∧ st.tm 5 = iv i ∧ st.ob 0 = some [iv 4, bv false, iv 0, iv 0, sv [], .d (.sl (l.map encV))] ∧
                          ((l.drop i).all fun v => isV v (n + 1)) = l.all fun v => isV v (n + 1)) ?_ l.length _ ?_
                        rotate_left
                        · exact ⟨0, by simp⟩
                        rintro M st ⟨i, hi, rfl, q1, q2, q5, q0, hr⟩ L hL
                        by_cases h : i < l.length
                        · rw [List.drop_eq_getElem_cons h] at hr
                          simp only [List.all_cons] at hr
                          have hv : l[i] ∈ l := List.getElem_mem h
                          have hc := ih _ hv (wfVs_iff.1 hwl _ hv) (n + 1) (by omega)
                          rw [show ((n + 1 : Nat) : Int) = (n : Int) + 1 by omega] at hc
                          cases hx : isV l[i] (n + 1) with
                          | true =>
                            rw [hx] at hc hr
                            simp -implicitDefEqProofs [q1, q2, q5, q0, h, encV_len, wrapI ((n : Int) + 1) (by omega) (by omega), hc]
                            refine hL (l.length - (i + 1)) _ (by omega) ⟨i + 1, by omega, rfl, by simp [q1], by simp [q2], ?_, by simp [q0], by simpa using hr⟩
                            simp -implicitDefEqProofs
                            exact wrapI _ (by omega) (by omega)
                          | false =>
                            rw [hx] at hc hr
                            simp -implicitDefEqProofs [q1, q2, q5, q0, h, encV_len, wrapI ((n : Int) + 1) (by omega) (by omega), hc]
                            exact ⟨_, hv, hx⟩
                        · simp -implicitDefEqProofs [q1, q2, q5, q0, h]
                          rw [List.drop_of_length_le (by omega)] at hr
                          simp only [List.all_nil] at hr
                          exact List.all_eq_true.1 hr.symm
                      · simp -implicitDefEqProofs [af34, hn2, hl8, show ¬ (2 : Int) ≤ n by omega, show (n : Int) < 2 by omega, show (8 : Int) < l.length by omega]
                    · simp -implicitDefEqProofs [af34, hn2, show (2 : Int) ≤ n by omega]
                  · have := hL4 h4; subst this
                    by_cases h0 : k = 0
                    · subst h0
                      simp -implicitDefEqProofs [af34]
                    · simp -implicitDefEqProofs [af34, h0, h1, h2, h3, h4]
theorem w_ref2_Is (v : V) (hv : wfV v) : call A 14 [.agg (encV v)] [] = some (bv (isV v 0), []) := by
  refine call_body (af := af14) rfl fnT14 rfl ?_
  have h := w_ref2_is v hv 0 (by omega)
  rw [show ((0 : Nat) : Int) = 0 from rfl] at h
  cases v with
  | mk k b m s t l =>
    rw [encV_mk] at h ⊢
    simp -implicitDefEqProofs [af14, h]
end Go.Proofs.YtkmmfenknekcbaaGreat
