/-
  WALKS: eval.Eval is evalS.
-/
import Derived.Test.YtkmmfenknekcbaaGreatWEval5
set_option linter.unusedSimpArgs false
set_option linter.unusedVariables false
set_option maxRecDepth 100000
namespace Go.Proofs.YtkmmfenknekcbaaGreat
open Go Go.Ae Go.Ds
@[simp] theorem takeN_dE (e : E) : takeN 8 ((encE e).map AV.d) = some ((encE e).map AV.d) := takeN_all (by rw [List.length_map, encE_len])
@[simp] theorem allD_dE (e : E) : allD ((encE e).map AV.d) = some (encE e) := allD_map _
@[simp] theorem over_dE (a b c d e f g h : AV) (x : E) : over [a, b, c, d, e, f, g, h] 0 ((encE x).map AV.d) = some ((encE x).map AV.d) := over_all (by rw [List.length_map, encE_len]; rfl)
theorem isLeaf_iff (k : Int) : (decide (1 ≤ k) && decide (k ≤ 5)) = decide (kidsN k = 0) := by
  rw [Bool.eq_iff_iff]
  simp only [Bool.and_eq_true, decide_eq_true_eq]
  unfold kidsN
  constructor
  · intro h; rw [if_pos (by omega)]
  · intro h
    split at h
    · omega
    · repeat' split at h
      all_goals omega
theorem kids_ok {k : Int} {m s : Int} {t : Str} {n : Nat} (h : mayE k m s t n = true) (h0 : kidsN k ≠ 0) (h8 : k ≠ 8) : (k = 6 ∧ n = 2) ∨ (k = 7 ∧ n = 1) ∨ k = 9 ∨ k = 10 ∨ (k = 11 ∧ n = 3) := by
  simp only [mayE, Bool.and_eq_true, Bool.or_eq_true, decide_eq_true_eq] at h
  obtain ⟨⟨⟨h1, h2⟩, _⟩, _⟩ := h
  unfold kidsN at h0 h1 h2
  by_cases a : k = 1 ∨ k = 2 ∨ k = 3 ∨ k = 4 ∨ k = 5
  · simp [a] at h0
  · by_cases b : k = 7
    · subst b; simp at h2; omega
    · by_cases c : k = 6
      · subst c; simp at h2; omega
      · by_cases d : k = 8 ∨ k = 11
        · have : k = 11 := by omega
          subst this; simp at h2; omega
        · by_cases e : k = 9 ∨ k = 10
          · omega
          · simp [a, b, c, d, e] at h1
theorem kids_8 {m s : Int} {t : Str} {n : Nat} (h : mayE 8 m s t n = true) : n = 3 := by
  simp only [mayE, Bool.and_eq_true, Bool.or_eq_true, decide_eq_true_eq] at h
  obtain ⟨⟨⟨_, h2⟩, _⟩, _⟩ := h
  simp [kidsN] at h2
  omega
theorem w_ev_choice (env : Ds.Env) (ev : DV) (b : Bool) (m s : Int) (t : Str) (lo hi : Bool) (x y z : E)
    (hx : call A 11 [.agg (encE x), .d ev] [] = some (encR (evalS env x), [])) (hy : call A 11 [.agg (encE y), .d ev] [] = some (encR (evalS env y), [])) (hz : call A 11 [.agg (encE z), .d ev] [] = some (encR (evalS env z), [])) :
    call A 23 [.agg (encE (.mk 8 b m s t lo hi [x, y, z])), .d ev] [] = some (encR (evalIf env [x, y, z]), []) := by
  refine call_body (af := af23) rfl fnT23 rfl ?_
  rw [encE_mk, evalIf]
  have ht := w_val_Truth (evalS env x).1
  by_cases he : (evalS env x).2 = 0
  · cases h1 : isTru (evalS env x).1 <;> rw [h1] at ht <;> simp -implicitDefEqProofs [af23, hx, hy, hz, he, ht]
  · simp -implicitDefEqProofs [af23, hx, he, encV_mk]
theorem w_ev_Eval (env : Ds.Env) (hl : env.length ≤ 140737488351232) (hok : okEnv env) : ∀ e : E, wfE e → call A 11 [.agg (encE e), .d (.sl (env.map encB))] [] = some (encR (evalS env e), []) := by
  intro e
  induction e using E.ind with
  | h k b m s t lo hi l ih =>
    rintro ⟨_, _, _, ht, hl', hwl⟩
    simp only [reach] at ht hl'
    have cm := w_ev_may k b m s t lo hi l ht
    refine call_body (af := af11) rfl fnT11 rfl ?_
    rw [evalS]
    cases hm : mayE k m s t l.length with
    | false =>
      rw [hm, encE_mk] at cm
      rw [encE_mk]
      simp -implicitDefEqProofs [af11, cm, encV_mk]
    | true =>
      rw [hm] at cm
      rw [if_neg (by simp)]
      by_cases h8 : k = 8
      · subst h8
        have h3 := kids_8 hm
        match l, h3, ih, hwl with
        | [x, y, z], _, ih, hwl =>
          have cc := w_ev_choice env _ b m s t lo hi x y z (ih x (by simp) hwl.1) (ih y (by simp) hwl.2.1) (ih z (by simp) hwl.2.2.1)
          simp only [encE_mk, List.map_cons, List.map_nil] at cc cm ⊢
          simp -implicitDefEqProofs [af11, cm, cc]
      · rw [if_neg h8]
        have cl := w_ev_isLeaf k
        rw [isLeaf_iff] at cl
        by_cases h0 : kidsN k = 0
        · rw [if_pos h0]
          have co := w_ev_of_leaf k b m s t lo hi l env hl hok h0
          rw [encE_mk] at co cm ⊢
          simp -implicitDefEqProofs [af11, cm, h8, cl, h0, co]
        · rw [if_neg h0]
          have hkids := kids_ok hm h0 h8
          have cof := fun (vs : List V) (h1 : vs.length * 72 ≤ 140737488351232) (h2 : ∀ v ∈ vs, isV v 0 = true) (h3 : vs.length = l.length) => w_ev_of k b m s t lo hi l vs (.sl (env.map encB)) h1 h2 (by rw [h3]; exact hkids)
          rw [encE_mk] at cm ⊢
          simp only [encE_mk] at cof
          obtain ⟨RES, hRES⟩ : ∃ R, (if (evalAll env l).2 ≠ 0 then (nullV, (evalAll env l).2) else ofV k t lo hi (evalAll env l).1) = R := ⟨_, rfl⟩
          rw [hRES]
          simp -implicitDefEqProofs [af11, cm, h8, cl, h0]
          refine loopW_inv (fun M st => ∃ (i : Nat) (vs : List V), i ≤ l.length ∧ M = l.length - i ∧ vs.length = i ∧ (∀ v ∈ vs, isV v 0 = true) ∧ st.tm 1 = .d (.sl (env.map encB)) ∧ st.tm 2 = .ptr 0 0 ∧ st.tm 4 = .ptr 1 0 ∧
            ((st.tm 6 = .nils ∧ vs = []) ∨ ∃ tk, st.tm 6 = .row tk 32 (vs.map encV) ∧ st.ow tk = true) ∧ st.tm 34 = .d (.sl (l.map encE)) ∧ st.tm 35 = iv l.length ∧ st.tm 36 = iv i ∧
            st.ob 0 = some [iv k, bv b, iv m, iv s, sv t, bv lo, bv hi, .d (.sl (l.map encE))] ∧ st.ob 1 = some [iv 0, bv false, iv 0, iv 0, sv [], .nils] ∧
            (evalAll env l).2 = (evalAll env (l.drop i)).2 ∧ ((evalAll env l).2 = 0 → (evalAll env l).1 = vs ++ (evalAll env (l.drop i)).1)) ?_ l.length _ ?_
          rotate_left
          · exact ⟨0, [], by simp, by simp, rfl, by simp, by simp, by simp, by simp, .inl ⟨by simp, rfl⟩, by simp, by simp, by simp, by simp, by simp, rfl, fun _ => rfl⟩
          rintro M st ⟨i, vs, hi', rfl, hlen, hvs, q1, q2, q4, q6, q34, q35, q36, o0, o1, r1, r2⟩ L hL
          by_cases h : i < l.length
          · have hmem := List.getElem_mem h
            have hc := ih _ hmem (wfEs_iff.1 hwl _ hmem)
            have hv := evalS_ok hok l[i]
            rw [List.drop_eq_getElem_cons h, evalAll] at r1 r2
            obtain ⟨R, hR⟩ : ∃ R, evalS env l[i] = R := ⟨_, rfl⟩
            rw [hR] at hc r1 r2 hv
            by_cases he : R.2 = 0
            · simp only [ne_eq, he, not_true_eq_false, if_false] at r1 r2
              have hfin : ∀ st' : St, st'.tm 1 = .d (.sl (env.map encB)) → st'.tm 2 = .ptr 0 0 → st'.tm 4 = .ptr 1 0 → (∃ tk, st'.tm 6 = .row tk 32 ((vs ++ [R.1]).map encV) ∧ st'.ow tk = true) → st'.tm 34 = .d (.sl (l.map encE)) →
                  st'.tm 35 = iv l.length → st'.tm 36 = iv ((i : Int) + 1) → st'.ob 0 = some [iv k, bv b, iv m, iv s, sv t, bv lo, bv hi, .d (.sl (l.map encE))] → st'.ob 1 = some [iv 0, bv false, iv 0, iv 0, sv [], .nils] →
                  L st' = some (encR RES, []) := by
                intro st' a1 a2 a4 a6 a34 a35 a36 b0 b1
                refine hL (l.length - (i + 1)) st' (by omega) ⟨i + 1, vs ++ [R.1], by omega, rfl, by simp [hlen], fun v hv' => ?_, a1, a2, a4, .inr a6, a34, a35, by rw [a36]; rfl, b0, b1, ?_, ?_⟩
                · rcases List.mem_append.1 hv' with hv' | hv'
                  · exact hvs v hv'
                  · rw [List.mem_singleton.1 hv']; exact hv
                · rw [r1]; split <;> simp_all
                · intro h0'
                  rw [r2 h0']
                  have : (evalAll env (l.drop (i + 1))).2 = 0 := by
                    rw [h0'] at r1
                    by_cases hz : (evalAll env (l.drop (i + 1))).2 = 0
                    · exact hz
                    · rw [if_pos hz] at r1; exact absurd r1.symm hz
                  simp [this]
              rcases q6 with ⟨q6, rfl⟩ | ⟨tk, q6, how⟩
              · simp -implicitDefEqProofs [q1, q2, q4, q6, q34, q35, q36, o0, o1, h, hc, he]
                exact hfin _ (by simp [q1]) (by simp [q2]) (by simp [q4]) ⟨st.nx + 1 + 4 + 9 + 2 + 3, by simp, by simp⟩ (by simp [q34]) (by simp [q35]) (by simp; exact wrapI _ (by omega) (by omega)) (by simp [o0]) (by simp [o1])
              · have z : (vs.length + 1) * 72 ≤ 140737488355328 := by omega
                have z1 : ∀ x ∈ vs, (encV x).length = 6 := fun x _ => encV_len x
                simp -implicitDefEqProofs [q1, q2, q4, q6, q34, q35, q36, o0, o1, h, hc, he, how, z]
                exact hfin _ (by simp [q1]) (by simp [q2]) (by simp [q4]) ⟨st.nx + 1 + 4 + 9 + 2 + 3, by simp, by simp⟩ (by simp [q34]) (by simp [q35]) (by simp; exact wrapI _ (by omega) (by omega)) (by simp [o0]) (by simp [o1])
            · simp only [ne_eq, he, not_false_eq_true, if_true] at r1 r2
              rw [r1, if_pos he] at hRES
              rw [← hRES]
              simp -implicitDefEqProofs [q1, q2, q4, q6, q34, q35, q36, o0, o1, h, hc, he, encV_mk]
          · rw [List.drop_of_length_le (by omega), evalAll] at r1 r2
            simp only at r1 r2
            have r3 := r2 r1
            rw [List.append_nil] at r3
            rw [r1, if_neg (by simp), r3] at hRES
            rw [← hRES]
            have cf := cof vs (by omega) hvs (by omega)
            rcases q6 with ⟨q6, rfl⟩ | ⟨tk, q6, how⟩
            · simp at cf
              simp -implicitDefEqProofs [q1, q2, q4, q6, q34, q35, q36, o0, o1, h, r1, r3, cf]
            · simp -implicitDefEqProofs [q1, q2, q4, q6, q34, q35, q36, o0, o1, h, r1, r3, cf]
end Go.Proofs.YtkmmfenknekcbaaGreat
