/-
  WALKS: dossierref6.Eval is evalS: the walk.
-/
import Derived.Test.YtkmmfenknekcbaaGreatWRef6f
set_option linter.unusedSimpArgs false
set_option linter.unusedVariables false
set_option maxRecDepth 100000
namespace Go.Proofs.YtkmmfenknekcbaaGreat
open Go Go.Ae Go.Ds
theorem may_guard {k m s : Int} {t : Str} {n : Nat} (h : kidsN k = -2 ∨ (0 < kidsN k ∧ ¬ kidsN k = n)) : mayE k m s t n = false := by
  unfold mayE
  rcases h with h | ⟨h1, h2⟩
  · simp [h]
  · simp [h2, show ¬ kidsN k ≤ 0 by omega]
theorem may_kids {k m s : Int} {t : Str} {n : Nat} (h : ¬ (kidsN k = -2 ∨ (0 < kidsN k ∧ ¬ kidsN k = n))) (h0 : kidsN k ≠ 0) : mayE k m s t n = true := by
  have h3 : k ≠ 3 := fun e => h0 (by rw [e]; rfl)
  have h4 : k ≠ 4 := fun e => h0 (by rw [e]; rfl)
  have h1 : kidsN k ≠ -2 := fun e => h (.inl e)
  have h2 : kidsN k ≤ 0 ∨ kidsN k = n := by
    by_cases a : kidsN k ≤ 0
    · exact .inl a
    · by_cases c : kidsN k = n
      · exact .inr c
      · exact absurd (.inr ⟨by omega, c⟩) h
  unfold mayE
  rcases h2 with h2 | h2 <;> simp [h1, h2, h3, h4]
set_option maxHeartbeats 1000000 in
theorem w_ref6_Eval (env : Ds.Env) (hl : env.length ≤ 140737488351232) (hok : okEnv env) : ∀ e : E, wfE e → call A 12 [.agg (encE e), .d (.sl (env.map encB))] [] = some (encR (evalS env e), []) := by
  intro e
  induction e using E.ind with
  | h k b m s t lo hi l ih =>
    rintro ⟨_, _, _, ht, hl', hwl⟩
    simp only [reach] at ht hl'
    have ck := w_ref5_Kids k
    refine call_body (af := af12) rfl fnT12 rfl ?_
    rw [evalS]
    by_cases g : kidsN k = -2 ∨ (0 < kidsN k ∧ ¬ kidsN k = l.length)
    · rw [may_guard g, encE_mk]
      rcases g with g | ⟨g1, g2⟩
      · rw [g] at ck
        simp -implicitDefEqProofs [af12, ck, encV_mk]
      · have g3 : ¬ kidsN k = -2 := by omega
        simp -implicitDefEqProofs [af12, ck, g1, g2, g3, encV_mk]
    · by_cases h0 : kidsN k = 0
      · have h8 : ¬ k = 8 := fun e => by rw [e] at h0; exact absurd h0 (by decide)
        have co := w_ref6_leaf k b m s t lo hi l env hl hok h0 ht
        rw [if_neg h8, if_pos h0]
        generalize (if mayE k m s t l.length = false then (nullV, 1) else (leafV env k b m s t, 0)) = R at co ⊢
        rw [h0] at ck
        rw [encE_mk] at co ⊢
        simp -implicitDefEqProofs [af12, ck, h8, co]
      · have hm := may_kids (m := m) (s := s) (t := t) g h0
        rw [hm, if_neg (by simp)]
        have hg : ¬ kidsN k = -2 := fun e => g (.inl e)
        have hg2 : 0 < kidsN k → kidsN k = l.length := fun p => Classical.byContradiction fun q => g (.inr ⟨p, q⟩)
        by_cases h8 : k = 8
        · subst h8
          have h3 := kids_8 hm
          match l, h3, ih, hwl with
          | [x, y, z], _, ih, hwl =>
            have cc := w_ref6_choose env _ b m s t lo hi x y z (ih x (by simp) hwl.1) (ih y (by simp) hwl.2.1) (ih z (by simp) hwl.2.2.1)
            simp only [encE_mk, List.map_cons, List.map_nil] at cc ⊢
            rw [show kidsN 8 = 3 from rfl] at ck
            simp -implicitDefEqProofs [af12, ck, cc]
        · rw [if_neg h8, if_neg h0]
          have hkids := kids_ok hm h0 h8
          rw [encE_mk]
          have lkind : (kidsN k = l.length ∧ 0 < kidsN k) ∨ kidsN k = -1 := by
            by_cases p : 0 < kidsN k
            · exact .inl ⟨hg2 p, p⟩
            · right
              rcases hkids with ⟨rfl, _⟩ | ⟨rfl, _⟩ | rfl | rfl | ⟨rfl, _⟩ <;> first | rfl | exact absurd (by decide) p
          obtain ⟨RES, hRES⟩ : ∃ R, (if (evalAll env l).2 ≠ 0 then (nullV, (evalAll env l).2) else ofV k t lo hi (evalAll env l).1) = R := ⟨_, rfl⟩
          rw [hRES]
          obtain ⟨N, hN⟩ : ∃ N, kidsN k = N := ⟨_, rfl⟩
          rw [hN] at ck lkind hg h0
          have hpk : ¬ (0 < N ∧ ¬ N = l.length) := by omega
          have hvs0 : (0 < N ∧ N = l.length) ∨ (¬ 0 < N) := by omega
          rcases hvs0 with ⟨hp, hNl⟩ | hp
          · rw [hNl] at ck hg h0 hp
            have hp' : 0 < l.length := by omega
            have hz : ¬ l = [] := fun e => by rw [e] at hp'; exact absurd hp' (by decide)
            simp -implicitDefEqProofs [af12, ck, h8, hg, h0, hp, hp', hz]
            refine loopW_inv (fun M st => ∃ (i : Nat) (vs : List V), i ≤ l.length ∧ M = l.length - i ∧ vs.length = i ∧ (∀ v ∈ vs, isV v 0 = true) ∧ st.tm 1 = .d (.sl (env.map encB)) ∧ st.tm 2 = .ptr 0 0 ∧ st.tm 4 = .ptr 1 0 ∧
              ((st.tm 7 = .nils ∧ vs = []) ∨ ∃ tk, st.tm 7 = .row tk 32 (vs.map encV) ∧ st.ow tk = true) ∧ st.tm 8 = iv i ∧ 2 ≤ st.no ∧
              st.ob 0 = some [iv k, bv b, iv m, iv s, sv t, bv lo, bv hi, .d (.sl (l.map encE))] ∧ st.ob 1 = some [iv 0, bv false, iv 0, iv 0, sv [], .nils] ∧
              (evalAll env l).2 = (evalAll env (l.drop i)).2 ∧ ((evalAll env l).2 = 0 → (evalAll env l).1 = vs ++ (evalAll env (l.drop i)).1)) ?_ l.length _ ?_
            rotate_left
            · exact ⟨0, [], by simp, by simp, rfl, by simp, by simp, by simp, by simp, .inl ⟨by simp, rfl⟩, by simp, by simp, by simp, by simp, rfl, fun _ => rfl⟩
            rintro M st ⟨i, vs, hi', rfl, hlen, hvs, q1, q2, q4, q7, q8, hno, o0, o1, r1, r2⟩ L hL
            by_cases h : i < l.length
            · have hmem := List.getElem_mem h
              have hc := ih _ hmem (wfEs_iff.1 hwl _ hmem)
              have hv := evalS_ok hok l[i]
              rw [List.drop_eq_getElem_cons h, evalAll] at r1 r2
              obtain ⟨R, hR⟩ : ∃ R, evalS env l[i] = R := ⟨_, rfl⟩
              rw [hR] at hc r1 r2 hv
              have n1 : ¬ 1 = st.no + 5 + 10 := by omega
              have n2 : ¬ st.no + 5 + 10 = 1 := by omega
              by_cases he : R.2 = 0
              · simp only [ne_eq, he, not_true_eq_false, if_false] at r1 r2
                have hfin : ∀ st' : St, st'.tm 1 = .d (.sl (env.map encB)) → st'.tm 2 = .ptr 0 0 → st'.tm 4 = .ptr 1 0 → (∃ tk, st'.tm 7 = .row tk 32 ((vs ++ [R.1]).map encV) ∧ st'.ow tk = true) →
                    st'.tm 8 = iv ((i : Int) + 1) → 2 ≤ st'.no → st'.ob 0 = some [iv k, bv b, iv m, iv s, sv t, bv lo, bv hi, .d (.sl (l.map encE))] → st'.ob 1 = some [iv 0, bv false, iv 0, iv 0, sv [], .nils] →
                    L st' = some (encR RES, []) := by
                  intro st' a1 a2 a4 a7 a8 an b0 b1
                  refine hL (l.length - (i + 1)) st' (by omega) ⟨i + 1, vs ++ [R.1], by omega, rfl, by simp [hlen], fun v hv' => ?_, a1, a2, a4, .inr a7, by rw [a8]; rfl, an, b0, b1, ?_, ?_⟩
                  · rcases List.mem_append.1 hv' with hv' | hv'
                    · exact hvs v hv'
                    · rw [List.mem_singleton.1 hv']; exact hv
                  · rw [r1]; split <;> simp_all
                  · intro h0'
                    rw [r2 h0']
                    have : (evalAll env (l.drop (i + 1))).2 = 0 := by
                      rw [h0'] at r1
                      by_cases hz : (evalAll env (l.drop (i + 1))).2 = 0
                      · exact hz
                      · rw [if_pos hz] at r1; exact absurd r1.symm hz
                    simp [this]
                rcases q7 with ⟨q7, rfl⟩ | ⟨tk, q7, how⟩
                · simp -implicitDefEqProofs [q1, q2, q4, q7, q8, o0, o1, h, hc, he, n1, n2]
                  exact hfin _ (by simp [q1]) (by simp [q2]) (by simp [q4]) ⟨st.nx + 5 + 13 + 2 + 3, by simp, by simp⟩ (by simp; exact wrapI _ (by omega) (by omega)) (by simp) (by simp [o0]) (by simp [o1, n1, n2])
                · have z : (vs.length + 1) * 72 ≤ 140737488355328 := by omega
                  have z1 : ∀ x ∈ vs, (encV x).length = 6 := fun x _ => encV_len x
                  simp -implicitDefEqProofs [q1, q2, q4, q7, q8, o0, o1, h, hc, he, how, z, n1, n2]
                  exact hfin _ (by simp [q1]) (by simp [q2]) (by simp [q4]) ⟨st.nx + 5 + 13 + 2 + 3, by simp, by simp⟩ (by simp; exact wrapI _ (by omega) (by omega)) (by simp) (by simp [o0]) (by simp [o1, n1, n2])
              · simp only [ne_eq, he, not_false_eq_true, if_true] at r1 r2
                rw [r1, if_pos he] at hRES
                rw [← hRES]
                simp -implicitDefEqProofs [q1, q2, q4, q7, q8, o0, o1, h, hc, he, encV_mk, n1, n2]
            · rw [List.drop_of_length_le (by omega), evalAll] at r1 r2
              simp only at r1 r2
              have r3 := r2 r1
              rw [List.append_nil] at r3
              rw [r1, if_neg (by simp), r3] at hRES
              rw [← hRES]
              have hvl : vs.length = l.length := by omega
              rw [← hvl] at hkids
              have cb := fun x y h1 h2 => w_ref6_bin t x y h1 h2
              have cl := w_ref6_list vs (by omega) hvs
              have cc := w_ref6_call t vs (by omega) hvs
              have cn := fun a b => w_ref6_num a b 0
              simp only [foundV, ne_eq, not_true_eq_false, if_false] at cn
              rcases q7 with ⟨q7, rfl⟩ | ⟨tk, q7, how⟩
              · simp only [List.map_nil] at cl cc
                rcases hkids with ⟨rfl, hn⟩ | ⟨rfl, hn⟩ | rfl | rfl | ⟨rfl, hn⟩
                · exact absurd hn (by simp)
                · exact absurd hn (by simp)
                · simp -implicitDefEqProofs [q1, q2, q4, q7, q8, o0, o1, h, ofV, cl]
                · simp -implicitDefEqProofs [q1, q2, q4, q7, q8, o0, o1, h, ofV, cc]
                · exact absurd hn (by simp)
              · rcases hkids with ⟨rfl, hn⟩ | ⟨rfl, hn⟩ | rfl | rfl | ⟨rfl, hn⟩
                · match vs, hn, hvs, q7 with
                  | [x, y], _, hvs, q7 =>
                    have c := w_ref6_bin t x y (hvs x (by simp)) (hvs y (by simp))
                    simp -implicitDefEqProofs [q1, q2, q4, q7, q8, o0, o1, h, ofV, c]
                · match vs, hn, hvs, q7 with
                  | [x], _, hvs, q7 =>
                    have hx := hvs x (by simp)
                    have e : ofV 7 t lo hi [x] = if x.k = 2 then (numV (-x.m) x.s, 0) else (nullV, 0) := by
                      rw [← neg_eq x hx]; rfl
                    rw [e]
                    have hD := isD_iff.1 (isV_D hx)
                    rcases x with ⟨k', b', m', s', t', l'⟩
                    simp only [V.m, V.s] at hD
                    simp only [V.k, V.m, V.s]
                    by_cases hk : k' = 2
                    · subst hk
                      simp -implicitDefEqProofs [q1, q2, q4, q7, q8, o0, o1, h, encV_mk, cn, wrapI (-m') (by omega) (by omega)]
                    · simp -implicitDefEqProofs [q1, q2, q4, q7, q8, o0, o1, h, encV_mk, hk]
                · simp -implicitDefEqProofs [q1, q2, q4, q7, q8, o0, o1, h, ofV, cl]
                · simp -implicitDefEqProofs [q1, q2, q4, q7, q8, o0, o1, h, ofV, cc]
                · match vs, hn, hvs, q7 with
                  | [x, y, z], _, hvs, q7 =>
                    have c := w_ref6_Between lo hi x y z (hvs x (by simp)) (hvs y (by simp)) (hvs z (by simp))
                    simp -implicitDefEqProofs [q1, q2, q4, q7, q8, o0, o1, h, ofV, c]
          · simp -implicitDefEqProofs [af12, ck, h8, hg, h0, hp]
            refine loopW_inv (fun M st => ∃ (i : Nat) (vs : List V), i ≤ l.length ∧ M = l.length - i ∧ vs.length = i ∧ (∀ v ∈ vs, isV v 0 = true) ∧ st.tm 1 = .d (.sl (env.map encB)) ∧ st.tm 2 = .ptr 0 0 ∧ st.tm 4 = .ptr 1 0 ∧
              ((st.tm 7 = .nils ∧ vs = []) ∨ ∃ tk, st.tm 7 = .row tk 32 (vs.map encV) ∧ st.ow tk = true) ∧ st.tm 8 = iv i ∧ 2 ≤ st.no ∧
              st.ob 0 = some [iv k, bv b, iv m, iv s, sv t, bv lo, bv hi, .d (.sl (l.map encE))] ∧ st.ob 1 = some [iv 0, bv false, iv 0, iv 0, sv [], .nils] ∧
              (evalAll env l).2 = (evalAll env (l.drop i)).2 ∧ ((evalAll env l).2 = 0 → (evalAll env l).1 = vs ++ (evalAll env (l.drop i)).1)) ?_ l.length _ ?_
            rotate_left
            · exact ⟨0, [], by simp, by simp, rfl, by simp, by simp, by simp, by simp, .inl ⟨by simp, rfl⟩, by simp, by simp, by simp, by simp, rfl, fun _ => rfl⟩
            rintro M st ⟨i, vs, hi', rfl, hlen, hvs, q1, q2, q4, q7, q8, hno, o0, o1, r1, r2⟩ L hL
            by_cases h : i < l.length
            · have hmem := List.getElem_mem h
              have hc := ih _ hmem (wfEs_iff.1 hwl _ hmem)
              have hv := evalS_ok hok l[i]
              rw [List.drop_eq_getElem_cons h, evalAll] at r1 r2
              obtain ⟨R, hR⟩ : ∃ R, evalS env l[i] = R := ⟨_, rfl⟩
              rw [hR] at hc r1 r2 hv
              have n1 : ¬ 1 = st.no + 5 + 10 := by omega
              have n2 : ¬ st.no + 5 + 10 = 1 := by omega
              by_cases he : R.2 = 0
              · simp only [ne_eq, he, not_true_eq_false, if_false] at r1 r2
                have hfin : ∀ st' : St, st'.tm 1 = .d (.sl (env.map encB)) → st'.tm 2 = .ptr 0 0 → st'.tm 4 = .ptr 1 0 → (∃ tk, st'.tm 7 = .row tk 32 ((vs ++ [R.1]).map encV) ∧ st'.ow tk = true) →
                    st'.tm 8 = iv ((i : Int) + 1) → 2 ≤ st'.no → st'.ob 0 = some [iv k, bv b, iv m, iv s, sv t, bv lo, bv hi, .d (.sl (l.map encE))] → st'.ob 1 = some [iv 0, bv false, iv 0, iv 0, sv [], .nils] →
                    L st' = some (encR RES, []) := by
                  intro st' a1 a2 a4 a7 a8 an b0 b1
                  refine hL (l.length - (i + 1)) st' (by omega) ⟨i + 1, vs ++ [R.1], by omega, rfl, by simp [hlen], fun v hv' => ?_, a1, a2, a4, .inr a7, by rw [a8]; rfl, an, b0, b1, ?_, ?_⟩
                  · rcases List.mem_append.1 hv' with hv' | hv'
                    · exact hvs v hv'
                    · rw [List.mem_singleton.1 hv']; exact hv
                  · rw [r1]; split <;> simp_all
                  · intro h0'
                    rw [r2 h0']
                    have : (evalAll env (l.drop (i + 1))).2 = 0 := by
                      rw [h0'] at r1
                      by_cases hz : (evalAll env (l.drop (i + 1))).2 = 0
                      · exact hz
                      · rw [if_pos hz] at r1; exact absurd r1.symm hz
                    simp [this]
                rcases q7 with ⟨q7, rfl⟩ | ⟨tk, q7, how⟩
                · simp -implicitDefEqProofs [q1, q2, q4, q7, q8, o0, o1, h, hc, he, n1, n2]
                  exact hfin _ (by simp [q1]) (by simp [q2]) (by simp [q4]) ⟨st.nx + 5 + 13 + 2 + 3, by simp, by simp⟩ (by simp; exact wrapI _ (by omega) (by omega)) (by simp) (by simp [o0]) (by simp [o1, n1, n2])
                · have z : (vs.length + 1) * 72 ≤ 140737488355328 := by omega
                  have z1 : ∀ x ∈ vs, (encV x).length = 6 := fun x _ => encV_len x
                  simp -implicitDefEqProofs [q1, q2, q4, q7, q8, o0, o1, h, hc, he, how, z, n1, n2]
                  exact hfin _ (by simp [q1]) (by simp [q2]) (by simp [q4]) ⟨st.nx + 5 + 13 + 2 + 3, by simp, by simp⟩ (by simp; exact wrapI _ (by omega) (by omega)) (by simp) (by simp [o0]) (by simp [o1, n1, n2])
              · simp only [ne_eq, he, not_false_eq_true, if_true] at r1 r2
                rw [r1, if_pos he] at hRES
                rw [← hRES]
                simp -implicitDefEqProofs [q1, q2, q4, q7, q8, o0, o1, h, hc, he, encV_mk, n1, n2]
            · rw [List.drop_of_length_le (by omega), evalAll] at r1 r2
              simp only at r1 r2
              have r3 := r2 r1
              rw [List.append_nil] at r3
              rw [r1, if_neg (by simp), r3] at hRES
              rw [← hRES]
              have hvl : vs.length = l.length := by omega
              rw [← hvl] at hkids
              have cb := fun x y h1 h2 => w_ref6_bin t x y h1 h2
              have cl := w_ref6_list vs (by omega) hvs
              have cc := w_ref6_call t vs (by omega) hvs
              have cn := fun a b => w_ref6_num a b 0
              simp only [foundV, ne_eq, not_true_eq_false, if_false] at cn
              rcases q7 with ⟨q7, rfl⟩ | ⟨tk, q7, how⟩
              · simp only [List.map_nil] at cl cc
                rcases hkids with ⟨rfl, hn⟩ | ⟨rfl, hn⟩ | rfl | rfl | ⟨rfl, hn⟩
                · exact absurd hn (by simp)
                · exact absurd hn (by simp)
                · simp -implicitDefEqProofs [q1, q2, q4, q7, q8, o0, o1, h, ofV, cl]
                · simp -implicitDefEqProofs [q1, q2, q4, q7, q8, o0, o1, h, ofV, cc]
                · exact absurd hn (by simp)
              · rcases hkids with ⟨rfl, hn⟩ | ⟨rfl, hn⟩ | rfl | rfl | ⟨rfl, hn⟩
                · match vs, hn, hvs, q7 with
                  | [x, y], _, hvs, q7 =>
                    have c := w_ref6_bin t x y (hvs x (by simp)) (hvs y (by simp))
                    simp -implicitDefEqProofs [q1, q2, q4, q7, q8, o0, o1, h, ofV, c]
                · match vs, hn, hvs, q7 with
                  | [x], _, hvs, q7 =>
                    have hx := hvs x (by simp)
                    have e : ofV 7 t lo hi [x] = if x.k = 2 then (numV (-x.m) x.s, 0) else (nullV, 0) := by
                      rw [← neg_eq x hx]; rfl
                    rw [e]
                    have hD := isD_iff.1 (isV_D hx)
                    rcases x with ⟨k', b', m', s', t', l'⟩
                    simp only [V.m, V.s] at hD
                    simp only [V.k, V.m, V.s]
                    by_cases hk : k' = 2
                    · subst hk
                      simp -implicitDefEqProofs [q1, q2, q4, q7, q8, o0, o1, h, encV_mk, cn, wrapI (-m') (by omega) (by omega)]
                    · simp -implicitDefEqProofs [q1, q2, q4, q7, q8, o0, o1, h, encV_mk, hk]
                · simp -implicitDefEqProofs [q1, q2, q4, q7, q8, o0, o1, h, ofV, cl]
                · simp -implicitDefEqProofs [q1, q2, q4, q7, q8, o0, o1, h, ofV, cc]
                · match vs, hn, hvs, q7 with
                  | [x, y, z], _, hvs, q7 =>
                    have c := w_ref6_Between lo hi x y z (hvs x (by simp)) (hvs y (by simp)) (hvs z (by simp))
                    simp -implicitDefEqProofs [q1, q2, q4, q7, q8, o0, o1, h, ofV, c]
end Go.Proofs.YtkmmfenknekcbaaGreat
