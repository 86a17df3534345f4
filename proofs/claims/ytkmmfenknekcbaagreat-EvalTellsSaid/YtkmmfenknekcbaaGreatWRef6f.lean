/-
  WALKS: dossierref6.Eval is evalS.
-/
import Derived.Test.YtkmmfenknekcbaaGreatWRef6e
set_option linter.unusedSimpArgs false
set_option linter.unusedVariables false
set_option maxRecDepth 100000
namespace Go.Proofs.YtkmmfenknekcbaaGreat
open Go Go.Ae Go.Ds
theorem w_ref6_leaf (k : Int) (b : Bool) (m s : Int) (t : Str) (lo hi : Bool) (l : List E) (env : Ds.Env) (hl : env.length ≤ 140737488351232) (hok : okEnv env) (hk : kidsN k = 0) (ht : t.length ≤ 140737488351232) :
    call A 28 [.agg (encE (.mk k b m s t lo hi l)), .d (.sl (env.map encB))] [] = some (encR (if mayE k m s t l.length = false then (nullV, 1) else (leafV env k b m s t, 0)), []) := by
  refine call_body (af := af28) rfl fnT28 rfl ?_
  have ct := w_ref2_Is (textV t) ⟨by omega, by omega, by omega, ht, by simp [reach], trivial⟩
  rw [show isV (textV t) 0 = isT t by simp [isV, isVs, bare], encV_mk] at ct
  simp only [List.map_nil] at ct
  have cd := w_ref1_Is m s
  have cn := fun a b => w_ref6_num a b 0
  simp only [foundV, ne_eq, not_true_eq_false, if_false] at cn
  rw [encE_mk]
  have hk' : k = 1 ∨ k = 2 ∨ k = 3 ∨ k = 4 ∨ k = 5 := by
    unfold kidsN at hk
    split at hk
    · assumption
    · repeat' split at hk
      all_goals omega
  rcases hk' with rfl | rfl | rfl | rfl | rfl
  · simp -implicitDefEqProofs [af28, mayE, kidsN, leafV, encV_mk]
  · simp -implicitDefEqProofs [af28, mayE, kidsN, leafV, w_ref2_Of]
  · cases hD : isD m s <;> rw [hD] at cd <;> simp -implicitDefEqProofs [af28, mayE, kidsN, leafV, hD, cd, cn, encV_mk]
  · cases hT : isT t <;> rw [hT] at ct <;> simp -implicitDefEqProofs [af28, mayE, kidsN, leafV, hT, ct, encV_mk]
  · have e : (if mayE 5 m s t l.length = false then (nullV, 1) else (leafV env 5 b m s t, 0)) = (nameV t env, (0 : Int)) := by simp [mayE, kidsN, leafV]
    rw [e]
    simp -implicitDefEqProofs [af28]
    refine loopW_inv (fun M st => ∃ i : Nat, i ≤ env.length ∧ M = env.length - i ∧ st.tm 1 = .d (.sl (env.map encB)) ∧ st.tm 2 = .ptr 0 0 ∧ st.tm 4 = .ptr 1 0 ∧ st.tm 6 = iv i ∧
      st.ob 0 = some [iv 5, bv b, iv m, iv s, sv t, bv lo, bv hi, .d (.sl (l.map encE))] ∧ st.ob 1 = some [iv 0, bv false, iv 0, iv 0, sv [], .nils] ∧ nameV t (env.drop i) = nameV t env) ?_ env.length _ ?_
    rotate_left
    · exact ⟨0, by simp⟩
    rintro M st ⟨i, hi', rfl, q1, q2, q4, q6, o0, o1, hr⟩ L hL
    by_cases h : i < env.length
    · rw [List.drop_eq_getElem_cons h] at hr
      obtain ⟨x, hx⟩ : ∃ x, env[i] = x := ⟨_, rfl⟩
      rw [hx] at hr
      rcases x with ⟨s', v⟩
      by_cases hs : s' = t
      · subst hs
        rw [nameV, if_pos rfl] at hr
        rw [← hr]
        simp -implicitDefEqProofs [q1, q2, q4, q6, o0, o1, h, hx, encB, encV_mk]
      · rw [nameV, if_neg hs] at hr
        rcases v with ⟨k', b', m', s2, t', l'⟩
        simp -implicitDefEqProofs [q1, q2, q4, q6, o0, o1, h, hx, encB, encV_mk, hs]
        refine hL (env.length - (i + 1)) _ (by omega) ⟨i + 1, by omega, rfl, ?_⟩
        simp -implicitDefEqProofs [q1, q2, q4, o0, o1]
        exact ⟨wrapI _ (by omega) (by omega), hr⟩
    · rw [List.drop_of_length_le (by omega), nameV] at hr
      simp -implicitDefEqProofs [q1, q2, q4, q6, o0, o1, h, ← hr, encV_mk]
theorem w_ref6_choose (env : Ds.Env) (ev : DV) (b : Bool) (m s : Int) (t : Str) (lo hi : Bool) (x y z : E)
    (hx : call A 12 [.agg (encE x), .d ev] [] = some (encR (evalS env x), [])) (hy : call A 12 [.agg (encE y), .d ev] [] = some (encR (evalS env y), [])) (hz : call A 12 [.agg (encE z), .d ev] [] = some (encR (evalS env z), [])) :
    call A 27 [.agg (encE (.mk 8 b m s t lo hi [x, y, z])), .d ev] [] = some (encR (evalIf env [x, y, z]), []) := by
  refine call_body (af := af27) rfl fnT27 rfl ?_
  rw [encE_mk, evalIf]
  have ht := w_ref2_Truth (evalS env x).1
  by_cases he : (evalS env x).2 = 0
  · cases h1 : isTru (evalS env x).1 <;> rw [h1] at ht <;> simp -implicitDefEqProofs [af27, hx, hy, hz, he, ht]
  · simp -implicitDefEqProofs [af27, hx, he, encV_mk]
theorem addP_neg {m s : Int} (h : isD m s = true) : addP 0 0 (-m) s = ((-m, s), 0) := by
  obtain ⟨hm, hs, h10⟩ := isD_iff.1 h
  obtain ⟨n, rfl⟩ : ∃ n : Nat, s = n := ⟨s.toNat, by omega⟩
  unfold addP
  have e := fitP_scale (-m) n (by omega) (by omega)
  rw [Int.zero_mul, Int.zero_add, show (4 - (n : Int)).toNat = 4 - n by omega, e]
  unfold fitP
  rw [if_neg (by omega)]
  have hf : fits9 (-m) := ⟨by omega, by omega⟩
  have hn : min (n : Int).toNat 4 = n := by omega
  rw [hn]
  simp only [Int.toNat_natCast]
  cases n with
  | zero => simp [fitN, hr_one, hf, bareN]
  | succ j =>
    have : (-m) % 10 ≠ 0 := by omega
    simp [fitN, hr_one, hf, bareN, this]
theorem neg_eq (v : V) (hv : isV v 0 = true) : binV wMinus (numV 0 0) v = if v.k = 2 then (numV (-v.m) v.s, 0) else (nullV, 0) := by
  have h := addP_neg (isV_D hv)
  rcases v with ⟨k, b, m, s, t, l⟩
  simp only [V.m, V.s] at h
  unfold binV arithV
  by_cases hk : k = 2 <;> simp [V.k, V.m, V.s, h, foundV, hk]
end Go.Proofs.YtkmmfenknekcbaaGreat
