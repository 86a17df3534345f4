/-
  WALKS: dossierref6: least, Sum, many, one, mod, has, call.
-/
import Derived.Test.YtkmmfenknekcbaaGreatWRef6b
set_option linter.unusedSimpArgs false
set_option linter.unusedVariables false
set_option maxRecDepth 100000
namespace Go.Proofs.YtkmmfenknekcbaaGreat
open Go Go.Ae Go.Ds
theorem w_ref6_least (sign : Int) (hs : sign = 1 ∨ sign = -1) (l : List V) (hl : l.length ≤ 140737488351232) (hok : ∀ v ∈ l, isV v 0 = true) : call A 94 [.d (.sl (l.map encV)), iv sign] [] = some (.agg (encV (bestV sign l)), []) := by
  refine call_body (af := af94) rfl fnT94 rfl ?_
  cases l with
  | nil => simp -implicitDefEqProofs [af94, bestV, encV_mk]
  | cons x r =>
    have hx := hok x (by simp)
    have hlen : ¬ ((r.length : Int) + 1 = 0) := by omega
    obtain ⟨l, hl'⟩ : ∃ l, x :: r = l := ⟨_, rfl⟩
    have hpos : 0 < l.length := by rw [← hl']; simp
    have h0 : l[0]'hpos = x := by subst hl'; rfl
    have hne : l ≠ [] := by rw [← hl']; simp
    rw [hl'] at hl hok ⊢
    have hlen2 : ¬ ((l.length : Int) = 0) := by omega
    simp -implicitDefEqProofs [af94, hne, hpos, h0]
    refine loopW_inv (fun M st => ∃ i : Nat, 1 ≤ i ∧ i ≤ l.length ∧ M = l.length - i ∧ st.tm 0 = .d (.sl (l.map encV)) ∧ st.tm 1 = iv sign ∧ st.tm 4 = .ptr 0 0 ∧ (∃ o, st.tm 5 = .ptr o 0 ∧ 0 < o ∧ st.ob o = some ((encV (bestV sign (l.take i))).map .d)) ∧ st.tm 6 = iv i ∧
      st.ob 0 = some [iv 0, bv false, iv 0, iv 0, sv [], .nils]) ?_ (l.length - 1) _ ?_
    rotate_left
    · refine ⟨1, by omega, by omega, rfl, by simp, by simp, by simp, ⟨7, by simp, by omega, ?_⟩, by simp, by simp⟩
      subst hl'
      simp [bestV, leastV]
    rintro M st ⟨i, hi1, hi, rfl, q0, q1, q4, ⟨o, q5, ho, oo⟩, q6, o0⟩ L hL
    have ho0 : ¬ o = 0 := by omega
    obtain ⟨bst, hbst⟩ : ∃ b, bestV sign (l.take i) = b := ⟨_, rfl⟩
    rw [hbst] at oo
    by_cases h : i < l.length
    · have hb : isV bst 0 = true := by rw [← hbst]; exact bestV_ok _ fun v hv => hok v (List.mem_of_mem_take hv)
      have hv := hok _ (List.getElem_mem h)
      have hc := w_ref2_Cmp l[i] bst 0 hv hb
      have hrg := cmpV_range l[i] bst
      obtain ⟨N, hN⟩ : ∃ N, cmpV l[i] bst = N := ⟨_, rfl⟩
      rw [hN] at hc hrg
      have hnext : bestV sign (l.take (i + 1)) = if N * sign < 0 then l[i] else bst := by
        rw [List.take_succ_eq_append_getElem h, bestV_snoc _ _ _ (by intro e; have := congrArg List.length e; rw [List.length_take, List.length_nil] at this; omega), hbst, hN]
      have hw : -9223372036854775808 ≤ N * sign ∧ N * sign ≤ 9223372036854775807 := by rcases hs with rfl | rfl <;> omega
      have fin : ∀ (su' : St), su'.tm 0 = .d (.sl (l.map encV)) → su'.tm 1 = iv sign → su'.tm 4 = .ptr 0 0 → su'.tm 5 = .ptr o 0 → su'.ob o = some ((encV (if N * sign < 0 then l[i] else bst)).map .d) → su'.tm 6 = iv ((i : Int) + 1) →
          su'.ob 0 = some [iv 0, bv false, iv 0, iv 0, sv [], .nils] → L su' = some (.agg (encV (bestV sign l)), []) := by
        intro su' r0 r1 r4 r5 ro r6 rv
        exact hL (l.length - (i + 1)) su' (by omega) ⟨i + 1, by omega, by omega, rfl, r0, r1, r4, ⟨o, r5, ho, by rw [hnext]; exact ro⟩, by rw [r6]; rfl, rv⟩
      by_cases hlt : N * sign < 0
      · simp -implicitDefEqProofs [q0, q1, q4, q5, q6, o0, oo, h, ho0, hc, wrapI _ hw.1 hw.2, hlt]
        refine fin _ (by simp [q0]) (by simp [q1]) (by simp [q4]) (by simp [q5]) (by simp [hlt]) ?_ ?_
        · simp
          exact wrapI _ (by omega) (by omega)
        · simp [o0]
          omega
      · simp -implicitDefEqProofs [q0, q1, q4, q5, q6, o0, oo, h, ho0, hc, wrapI _ hw.1 hw.2, hlt]
        refine fin _ (by simp [q0]) (by simp [q1]) (by simp [q4]) (by simp [q5]) (by simp [hlt, oo]) ?_ ?_
        · simp
          exact wrapI _ (by omega) (by omega)
        · simp [o0]
    · rw [List.take_of_length_le (by omega)] at hbst
      simp -implicitDefEqProofs [q0, q1, q4, q5, q6, o0, oo, h, ho0, hbst]
theorem w_ref6_Sum (l : List V) (hl : l.length ≤ 140737488351232) (hok : ∀ v ∈ l, isV v 0 = true) : call A 95 [.d (.sl (l.map encV))] [] = some (encR (sumV 0 0 l), []) := by
  refine call_body (af := af95) rfl fnT95 rfl ?_
  simp -implicitDefEqProofs [af95]
  refine loopW_inv (fun M st => ∃ (i : Nat) (m s : Int), i ≤ l.length ∧ M = l.length - i ∧ isD m s = true ∧ st.tm 0 = .d (.sl (l.map encV)) ∧ st.tm 2 = .ptr 0 0 ∧ (∃ o, st.tm 4 = .ptr o 0 ∧ 0 < o ∧ o < st.no ∧ st.ob o = some [iv m, iv s]) ∧ st.tm 5 = iv i ∧
    st.ob 0 = some [iv 0, bv false, iv 0, iv 0, sv [], .nils] ∧ sumV m s (l.drop i) = sumV 0 0 l) ?_ l.length _ ?_
  rotate_left
  · refine ⟨0, 0, 0, by simp, by simp, isD_zero, by simp, by simp, ⟨3, by simp⟩, by simp⟩
  rintro M st ⟨i, m, s, hi, rfl, hd, q0, q2, ⟨o, q4, ho, hno, oo⟩, q5, o0, hr⟩ L hL
  have ho0 : ¬ o = 0 := by omega
  have ho1 : ¬ (o : Nat) = st.no + 4 + 10 := by omega
  have ho2 : ¬ st.no + 4 + 10 = (o : Nat) := by omega
  by_cases h : i < l.length
  · rw [List.drop_eq_getElem_cons h, sumV] at hr
    have hv := isV_D (hok _ (List.getElem_mem h))
    obtain ⟨v, hv'⟩ : ∃ v, l[i] = v := ⟨_, rfl⟩
    rw [hv'] at hr hv
    rcases v with ⟨k', b, m', s', t, l'⟩
    simp only [V.m, V.s] at hr hv
    have c := w_ref1_Add m s m' s' hd hv
    by_cases hz : (addP m s m' s').2 = 0
    · simp only [ne_eq, hz, not_true_eq_false, if_false] at hr
      have hd' : isD (addP m s m' s').1.1 (addP m s m' s').1.2 = true := by
        rcases addP_ok m s m' s' with h | h | h
        · exact h.2
        · rw [h] at hz; simp at hz
        · rw [h] at hz; simp at hz
      simp -implicitDefEqProofs [q0, q2, q4, q5, o0, oo, h, hv', encV_mk, ho0, ho1, ho2, c, hz]
      refine hL (l.length - (i + 1)) _ (by omega) ⟨i + 1, _, _, by omega, rfl, hd', ?_⟩
      simp -implicitDefEqProofs [q0, q2, q4, o0, ho0]
      exact ⟨by omega, wrapI _ (by omega) (by omega), by omega, hr⟩
    · simp only [ne_eq, hz, not_false_eq_true, if_true] at hr
      rw [← hr]
      simp -implicitDefEqProofs [q0, q2, q4, q5, o0, oo, h, hv', encV_mk, ho0, ho1, ho2, c, hz]
  · rw [List.drop_of_length_le (by omega), sumV] at hr
    rw [← hr]
    have cn := w_ref6_num m s 0
    simp -implicitDefEqProofs [q0, q2, q4, q5, o0, oo, h, ho0, cn, foundV]
theorem w_ref6_has (l : List V) (b : V) (hl : l.length ≤ 140737488351232) (hok : ∀ v ∈ l, isV v 0 = true) (hb : isV b 0 = true) : call A 65 [.d (.sl (l.map encV)), .agg (encV b)] [] = some (.agg (encV (truthV (l.any fun x => decide (cmpV x b = 0)))), []) := by
  refine call_body (af := af65) rfl fnT65 rfl ?_
  have hO := fun x => w_ref2_Of x
  simp -implicitDefEqProofs [af65]
  refine loopW_inv (fun M st => ∃ i : Nat, i ≤ l.length ∧ M = l.length - i ∧ st.tm 0 = .d (.sl (l.map encV)) ∧ st.tm 3 = .ptr 0 0 ∧ st.tm 4 = .ptr 1 0 ∧ st.tm 5 = iv i ∧
    st.ob 0 = some ((encV b).map .d) ∧ st.ob 1 = some [iv 0, bv false, iv 0, iv 0, sv [], .nils] ∧ ((l.drop i).any fun x => decide (cmpV x b = 0)) = l.any fun x => decide (cmpV x b = 0)) ?_ l.length _ ?_
  rotate_left
  · exact ⟨0, by simp⟩
  rintro M st ⟨i, hi, rfl, q0, q3, q4, q5, o0, o1, hr⟩ L hL'
  by_cases h : i < l.length
  · rw [List.drop_eq_getElem_cons h, List.any_cons] at hr
    have hc := w_ref2_Equal l[i] b 0 (hok _ (List.getElem_mem h)) hb
    by_cases hz : cmpV l[i] b = 0
    · have hrt : (l.any fun x => decide (cmpV x b = 0)) = true := by rw [← hr]; simp [hz]
      rw [hrt]
      simp -implicitDefEqProofs [q0, q3, q4, q5, o0, o1, h, hc, hz, hO]
    · simp -implicitDefEqProofs [q0, q3, q4, q5, o0, o1, h, hc, hz]
      refine hL' (l.length - (i + 1)) _ (by omega) ⟨i + 1, by omega, rfl, ?_⟩
      simp -implicitDefEqProofs [q0, q3, q4, o0, o1]
      refine ⟨wrapI _ (by omega) (by omega), ?_⟩
      simpa [hz] using hr
  · rw [List.drop_of_length_le (by omega), List.any_nil] at hr
    rw [← hr]
    simp -implicitDefEqProofs [q0, q3, q4, q5, o0, o1, h, hO]
theorem w_ref6_mod (m s m' s' : Int) (h : isD m s = true) (h' : isD m' s' = true) : call A 63 [.agg [.int .i64 m, .int .i64 s], .agg [.int .i64 m', .int .i64 s']] [] = some (.agg (encV (if s = 0 ∧ s' = 0 ∧ m' ≠ 0 then numV (modP m m') 0 else nullV)), []) := by
  refine call_body (af := af63) rfl fnT63 rfl ?_
  have d := isD_iff.1 h
  have d' := isD_iff.1 h'
  by_cases h1 : s = 0
  · subst h1
    by_cases h2 : s' = 0
    · subst h2
      by_cases h3 : m' = 0
      · subst h3
        simp -implicitDefEqProofs [af63, encV_mk]
      · have hr := tmod_range m m' h3
        unfold modP
        obtain ⟨r, hr'⟩ : ∃ r, m.tmod m' = r := ⟨_, rfl⟩
        rw [hr'] at hr
        by_cases h4 : r = 0
        · subst h4
          simp -implicitDefEqProofs [af63, h3, hr', w_ref6_whole]
        · by_cases h5 : r < 0
          · by_cases h6 : m' < 0
            · simp -implicitDefEqProofs [af63, h3, hr', h4, h5, h6, w_ref6_whole]
            · simp -implicitDefEqProofs [af63, h3, hr', h4, h5, h6, w_ref6_whole, wrapI (r + m') (by omega) (by omega)]
          · by_cases h6 : m' < 0
            · simp -implicitDefEqProofs [af63, h3, hr', h4, h5, h6, w_ref6_whole, wrapI (r + m') (by omega) (by omega)]
            · simp -implicitDefEqProofs [af63, h3, hr', h4, h5, h6, w_ref6_whole]
    · simp -implicitDefEqProofs [af63, h2, encV_mk]
  · simp -implicitDefEqProofs [af63, h1, encV_mk]
end Go.Proofs.YtkmmfenknekcbaaGreat
