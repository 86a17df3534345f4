/-
  WALKS: package eval: lists, calls.
-/
import Derived.Test.YtkmmfenknekcbaaGreatWEval1
import Derived.Test.YtkmmfenknekcbaaGreatDsEx
set_option linter.unusedSimpArgs false
set_option linter.unusedVariables false
set_option maxRecDepth 100000
namespace Go.Proofs.YtkmmfenknekcbaaGreat
open Go Go.Ae Go.Ds
/-- A value and an error, as they come back. -/
abbrev encR (r : V × Int) : AV := .tup [.agg (encV r.1), iv r.2]
theorem w_ev_joined (l : List V) (hl : l.length ≤ 140737488351232) (hok : ∀ v ∈ l, isV v 0 = true) : call A 83 [.d (.sl (l.map encV))] [] = some (encR (catV (catAll l)), []) := by
  refine call_body (af := af83) rfl fnT83 rfl ?_
  simp -implicitDefEqProofs [af83]
  refine loopW_inv (fun M st => ∃ (i : Nat) (s : Str), i ≤ l.length ∧ M = l.length - i ∧ st.tm 2 = .ptr 0 0 ∧ st.tm 4 = sv s ∧ st.tm 7 = .d (.sl (l.map encV)) ∧ st.tm 8 = iv l.length ∧ st.tm 9 = iv i ∧
    st.ob 0 = some [iv 0, bv false, iv 0, iv 0, sv [], .nils] ∧ s ++ catAll (l.drop i) = catAll l ∧ s.length ≤ 16 * i) ?_ l.length _ ?_
  rotate_left
  · exact ⟨0, [], by simp⟩
  rintro M st ⟨i, s, hi, rfl, q2, q4, q7, q8, q9, o0, hr, hs⟩ L hL
  by_cases h : i < l.length
  · rw [List.drop_eq_getElem_cons h, catAll] at hr
    have hT := isV_T (hok _ (List.getElem_mem h))
    obtain ⟨v, hv⟩ : ∃ v, l[i] = v := ⟨_, rfl⟩
    rw [hv] at hr hT
    rcases v with ⟨k', b, m, s', t, l'⟩
    have ht : t.length ≤ 16 := by
      simp only [isT, V.t, Bool.and_eq_true] at hT
      exact of_decide_eq_true hT.1
    have hsum : ¬ ((s.length : Int) + t.length > 9223372036854775807) := by omega
    simp -implicitDefEqProofs [q2, q4, q7, q8, q9, o0, h, hv, encV_mk, IntKind.max, IntKind.signed, IntKind.bits, hsum]
    refine hL (l.length - (i + 1)) _ (by omega) ⟨i + 1, s ++ t, by omega, rfl, ?_⟩
    simp -implicitDefEqProofs [q2, q7, q8, o0, List.append_assoc]
    exact ⟨wrapI _ (by omega) (by omega), hr, by omega⟩
  · rw [List.drop_of_length_le (by omega), catAll, List.append_nil] at hr
    subst hr
    unfold catV
    by_cases h16 : (catAll l).length > 16
    · simp -implicitDefEqProofs [q2, q4, q7, q8, q9, o0, h, h16, encV_mk, show ((catAll l).length : Int) > 16 by omega]
    · simp -implicitDefEqProofs [q2, q4, q7, q8, q9, o0, h, h16, encV_mk, show ¬ ((catAll l).length : Int) > 16 by omega]
theorem nestVs_app (l l' : List V) : nestVs (l ++ l') = max (nestVs l) (nestVs l') := by
  induction l with
  | nil => simp [nestVs]
  | cons v l ih => simp [nestVs, ih, Nat.max_assoc]
theorem nestVs_snoc {l : List V} {i : Nat} (h : i < l.length) : nestVs (l.take (i + 1)) = max (nestVs (l.take i)) (nestV l[i]) := by
  rw [List.take_succ_eq_append_getElem h, nestVs_app]
  simp [nestVs]
theorem nest_bound : ∀ (v : V) (n : Nat), isV v n = true → n ≤ 2 → nestV v + n ≤ 2 := by
  intro v
  induction v using V.ind with
  | h k b m s t l ih =>
    intro n h hn
    obtain ⟨_, _, _, _, h5, h6⟩ := isV_mk h
    rw [nestV]
    split
    · rename_i hk
      have hn2 : n < 2 := by rcases h5 with h | h | h | h | h <;> omega
      have : ∀ l : List V, (∀ v ∈ l, nestV v + (n + 1) ≤ 2) → nestVs l + (n + 1) ≤ 2 := by
        intro l
        induction l with
        | nil => intro _; simp [nestVs]; omega
        | cons v l ihl => intro h; rw [nestVs]; have h1 := h v (by simp); have h2 := ihl fun w hw => h w (by simp [hw]); omega
      have := this l fun v hv => ih v hv (n + 1) (h6 v hv) (by omega)
      omega
    · omega
theorem nestVs_bound {l : List V} (h : ∀ v ∈ l, nestV v ≤ 2) : nestVs l ≤ 2 := by
  induction l with
  | nil => simp [nestVs]
  | cons v l ih => rw [nestVs]; have h1 := h v (by simp); have h2 := ih fun w hw => h w (by simp [hw]); omega
theorem w_ev_nested : ∀ (v : V), wfV v → (∀ x ∈ v.l, isV x 0 = true) → call A 85 [.agg (encV v)] [] = some (iv (nestV v), []) := by
  intro v
  induction v using V.ind with
  | h k b m s t l ih =>
    rintro ⟨_, _, _, _, hl, hwl⟩ hx
    simp only [reach] at hl
    refine call_body (af := af85) rfl fnT85 rfl ?_
    rw [encV_mk, nestV]
    by_cases hk : k = 4
    · subst hk
      simp -implicitDefEqProofs [af85]
      refine loopW_inv (fun M st => ∃ i : Nat, i ≤ l.length ∧ M = l.length - i ∧ st.tm 1 = .ptr 0 0 ∧ st.tm 3 = iv (nestVs (l.take i)) ∧ st.tm 10 = .d (.sl (l.map encV)) ∧ st.tm 11 = iv l.length ∧ st.tm 12 = iv i) ?_ l.length _ ?_
      rotate_left
      · exact ⟨0, by simp [nestVs]⟩
      rintro M st ⟨i, hi, rfl, q1, q3, q10, q11, q12⟩ L hL
      have hle : nestVs (l.take i) ≤ 2 := nestVs_bound fun v hv => by have := nest_bound v 0 (hx v (List.mem_of_mem_take hv)) (by omega); omega
      by_cases h : i < l.length
      · have hm := List.getElem_mem h
        have hle2 := nest_bound _ 0 (hx _ hm) (by omega)
        have hc := ih _ hm (wfVs_iff.1 hwl _ hm) (isV_L (hx _ hm)).2
        simp -implicitDefEqProofs [q1, q3, q10, q11, q12, h, hc]
        refine hL (l.length - (i + 1)) _ (by omega) ⟨i + 1, by omega, rfl, ?_⟩
        simp -implicitDefEqProofs [q1, q10, q11]
        refine ⟨?_, wrapI _ (by omega) (by omega)⟩
        rw [nestVs_snoc h]
        split <;> omega
      · simp -implicitDefEqProofs [q1, q3, q10, q11, q12, h]
        rw [List.take_of_length_le (by omega)] at hle ⊢
        exact wrapI _ (by omega) (by omega)
    · simp -implicitDefEqProofs [af85, hk]
theorem w_ev_list (l : List V) (hl : l.length * 72 ≤ 140737488351232) (hok : ∀ v ∈ l, isV v 0 = true) : call A 50 [.d (.sl (l.map encV))] [] = some (encR (mklistV l), []) := by
  refine call_body (af := af50) rfl fnT50 rfl ?_
  have hw : wfV (listV l) := ⟨by omega, by omega, by omega, by simp [reach], by simpa [reach] using hl, wfVs_iff.2 fun v hv => isV_wf v 0 (hok v hv)⟩
  have hc := w_val_Copy (listV l) hw
  have hn := w_ev_nested (listV l) hw hok
  unfold mklistV
  obtain ⟨N, hN⟩ : ∃ N, nestV (listV l) = N := ⟨_, rfl⟩
  rw [hN] at hn ⊢
  rw [encV_mk] at hc hn
  by_cases h8 : l.length > 8
  · simp -implicitDefEqProofs [af50, hc, h8, show (l.length : Int) > 8 by omega, encV_mk]
  · by_cases h2 : N > 2
    · simp -implicitDefEqProofs [af50, hc, hn, h8, h2, show ¬ (l.length : Int) > 8 by omega, show (N : Int) > 2 by omega, encV_mk]
    · simp -implicitDefEqProofs [af50, hc, hn, h8, h2, show ¬ (l.length : Int) > 8 by omega, show ¬ (N : Int) > 2 by omega, encV_mk]
theorem w_ev_named (n : Str) (env : Ds.Env) (hl : env.length ≤ 140737488351232) (hok : okEnv env) : call A 47 [sv n, .d (.sl (env.map encB))] [] = some (.agg (encV (nameV n env)), []) := by
  refine call_body (af := af47) rfl fnT47 rfl ?_
  simp -implicitDefEqProofs [af47]
  refine loopW_inv (fun M st => ∃ i : Nat, i ≤ env.length ∧ M = env.length - i ∧ st.tm 0 = sv n ∧ st.tm 4 = .ptr 0 0 ∧ st.tm 7 = .d (.sl (env.map encB)) ∧ st.tm 8 = iv env.length ∧ st.tm 9 = iv i ∧
    st.ob 0 = some [iv 0, bv false, iv 0, iv 0, sv [], .nils] ∧ nameV n (env.drop i) = nameV n env) ?_ env.length _ ?_
  rotate_left
  · exact ⟨0, by simp⟩
  rintro M st ⟨i, hi, rfl, q0, q4, q7, q8, q9, o0, hr⟩ L hL
  by_cases h : i < env.length
  · rw [List.drop_eq_getElem_cons h] at hr
    have hv := hok _ (List.getElem_mem h)
    obtain ⟨x, hx⟩ : ∃ x, env[i] = x := ⟨_, rfl⟩
    rw [hx] at hr hv
    rcases x with ⟨s, v⟩
    have hc := w_val_Copy v (isV_wf v 0 hv)
    rcases v with ⟨k', b, m, s', t, l'⟩
    rw [encV_mk] at hc
    by_cases hs : s = n
    · subst hs
      rw [nameV, if_pos rfl] at hr
      rw [← hr]
      simp -implicitDefEqProofs [q0, q4, q7, q8, q9, o0, h, hx, encB, encV_mk, hc]
    · rw [nameV, if_neg hs] at hr
      simp -implicitDefEqProofs [q0, q4, q7, q8, q9, o0, h, hx, encB, encV_mk, hs]
      refine hL (env.length - (i + 1)) _ (by omega) ⟨i + 1, by omega, rfl, ?_⟩
      simp -implicitDefEqProofs [q0, q4, q7, q8, o0]
      exact ⟨wrapI _ (by omega) (by omega), hr⟩
  · rw [List.drop_of_length_le (by omega), nameV] at hr
    simp -implicitDefEqProofs [q0, q4, q7, q8, q9, o0, h, ← hr, encV_mk]
end Go.Proofs.YtkmmfenknekcbaaGreat
