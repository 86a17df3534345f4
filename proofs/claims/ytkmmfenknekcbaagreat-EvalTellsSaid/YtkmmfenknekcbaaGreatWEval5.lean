/-
  WALKS: package eval: calls, expressions: eval.Eval is evalS.
-/
import Derived.Test.YtkmmfenknekcbaaGreatWEval4
set_option linter.unusedSimpArgs false
set_option linter.unusedVariables false
set_option maxRecDepth 100000
namespace Go.Proofs.YtkmmfenknekcbaaGreat
open Go Go.Ae Go.Ds
theorem manyV_eq (n : Str) {l : List V} (he : l ≠ []) : (if allK 2 (elemsV l) then (if n = wSum then sumV 0 0 (elemsV l) else (bestV (if n = wMin then 1 else -1) (elemsV l), 0)) else (nullV, 0)) = manyV n l := by
  unfold manyV
  by_cases hk : allK 2 (elemsV l) = true
  · by_cases hs : n = wSum
    · simp [hk, hs, he]
    · simp only [hk, if_true, hs, if_false]
      cases elemsV l <;> rfl
  · simp [hk]
theorem w_ev_many (n : Str) (hn : n = wMin ∨ n = wMax ∨ n = wSum) (l : List V) (hl : l.length ≤ 140737488351232) (hok : ∀ v ∈ l, isV v 0 = true) :
    call A 86 [sv n, .d (.sl (l.map encV))] [] = some (encR (manyV n l), []) := by
  refine call_body (af := af86) rfl fnT86 rfl ?_
  by_cases he : l = []
  · subst he
    have e : manyV n [] = (nullV, 0) := by rcases hn with rfl | rfl | rfl <;> simp [manyV, elemsV, allK]
    rw [e]
    simp -implicitDefEqProofs [af86, encV_mk]
  · have hE := elems_ok hok
    have hc : ∃ R0 B0, af86.code = .seq R0 (.seq B0 manyRest) := ⟨_, _, rfl⟩
    have hEl : (elemsV l).length ≤ 140737488351232 := by
      unfold elemsV
      split
      · rename_i v
        have := (isV_L (hok v (by simp))).1
        split
        · omega
        · simp
      · exact hl
    rw [← manyV_eq n he]
    have hr := w_manyRest n hn (elemsV l) hEl hE
    have hcode : af86.code = .seq (match af86.code with | .seq a _ => a | _ => .skip) (.seq (match af86.code with | .seq _ (.seq b _) => b | _ => .skip) manyRest) := rfl
    rw [hcode]
    generalize manyRest = rest at hr
    have hres : af86.res = [.c 4 (some 6), .t 5] := rfl
    rw [hres]
    generalize (if allK 2 (elemsV l) then (if n = wSum then sumV 0 0 (elemsV l) else (bestV (if n = wMin then 1 else -1) (elemsV l), 0)) else (nullV, 0)) = R at hr ⊢
    by_cases h1 : ∃ v, l = [v]
    · obtain ⟨v, rfl⟩ := h1
      rcases v with ⟨k, b, m, s, t, l'⟩
      by_cases hk : k = 4
      · subst hk
        simp only [elemsV, V.k, if_true, V.l] at hr
        simp -implicitDefEqProofs [af86, encV_mk]
        exact hr _ (by simp) (by simp) (by simp) (by simp)
      · simp only [elemsV, V.k, hk, if_false] at hr
        simp -implicitDefEqProofs [af86, encV_mk, hk]
        exact hr _ (by simp) (by simp [encV_mk]) (by simp) (by simp)
    · have hlen : l.length ≠ 1 := fun e => h1 (List.length_eq_one_iff.1 e)
      have hlen' : ¬ (l.length : Int) = 1 := by omega
      have hel : elemsV l = l := by
        unfold elemsV
        split
        · rename_i v; exact absurd ⟨v, rfl⟩ h1
        · rfl
      rw [hel] at hr
      simp -implicitDefEqProofs [af86, he, hlen, hlen']
      exact hr _ (by simp) (by simp) (by simp) (by simp)
theorem w_ev_call (n : Str) (l : List V) (hl : l.length ≤ 140737488351232) (hok : ∀ v ∈ l, isV v 0 = true) : call A 52 [sv n, .d (.sl (l.map encV))] [] = some (encR (callV n l), []) := by
  refine call_body (af := af52) rfl fnT52 rfl ?_
  unfold callV
  by_cases h1 : n = wMin ∨ n = wMax ∨ n = wSum
  · have c := w_ev_many n h1 l hl hok
    rw [if_pos h1]
    rcases h1 with rfl | rfl | rfl <;> simp -implicitDefEqProofs [af52, c]
  · rw [if_neg h1]
    simp only [not_or] at h1
    by_cases h2 : n = wCat
    · subst h2
      have ca := w_ev_areAll 3 l hl
      have cj := w_ev_joined l hl hok
      by_cases he : l = []
      · subst he
        simp -implicitDefEqProofs [af52, encV_mk]
      · cases hk : allK 3 l <;> rw [hk] at ca <;> simp -implicitDefEqProofs [af52, he, ca, cj, encV_mk]
    · match l, hl, hok with
      | [], _, _ => simp -implicitDefEqProofs [af52, h1, h2, encV_mk]
      | [v], _, hok =>
        have c := w_ev_one n v (hok v (by simp))
        simp -implicitDefEqProofs [af52, h1, h2, c]
      | [a, b], _, hok =>
        have c := w_ev_two n a b (hok a (by simp)) (hok b (by simp))
        simp -implicitDefEqProofs [af52, h1, h2, c]
      | a :: b :: d :: l, hl, _ =>
        simp -implicitDefEqProofs [af52, h1, h2, encV_mk, show ¬ (l.length : Int) + 1 + 1 + 1 = 1 by omega, show ¬ (l.length : Int) + 1 + 1 + 1 = 2 by omega]
theorem w_ev_may (k : Int) (b : Bool) (m s : Int) (t : Str) (lo hi : Bool) (l : List E) (ht : t.length ≤ 140737488351232) : call A 22 [.agg (encE (.mk k b m s t lo hi l))] [] = some (bv (mayE k m s t l.length), []) := by
  refine call_body (af := af22) rfl fnT22 rfl ?_
  have ct := w_val_Is_text t ht
  rw [encV_mk] at ct
  simp only [List.map_nil] at ct
  rw [encE_mk]
  unfold mayE
  by_cases h3 : k = 3
  · subst h3; simp -implicitDefEqProofs [af22, w_dec_Is, kidsN]
  by_cases h4 : k = 4
  · subst h4; simp -implicitDefEqProofs [af22, ct, kidsN]
  by_cases h1 : k = 1
  · subst h1; simp -implicitDefEqProofs [af22, kidsN]
  by_cases h2 : k = 2
  · subst h2; simp -implicitDefEqProofs [af22, kidsN]
  by_cases h5 : k = 5
  · subst h5; simp -implicitDefEqProofs [af22, kidsN]
  by_cases h9 : k = 9
  · subst h9; simp -implicitDefEqProofs [af22, kidsN]
  by_cases h10 : k = 10
  · subst h10; simp -implicitDefEqProofs [af22, kidsN]
  by_cases h7 : k = 7
  · subst h7
    by_cases hn : l.length = 1
    · simp -implicitDefEqProofs [af22, kidsN, hn]
    · simp -implicitDefEqProofs [af22, kidsN, hn, show ¬ (l.length : Int) = 1 by omega, show ¬ (1 : Int) = l.length by omega]
  by_cases h6 : k = 6
  · subst h6
    by_cases hn : l.length = 2
    · simp -implicitDefEqProofs [af22, kidsN, hn]
    · simp -implicitDefEqProofs [af22, kidsN, hn, show ¬ (l.length : Int) = 2 by omega, show ¬ (2 : Int) = l.length by omega]
  by_cases h8 : k = 8
  · subst h8
    by_cases hn : l.length = 3
    · simp -implicitDefEqProofs [af22, kidsN, hn]
    · simp -implicitDefEqProofs [af22, kidsN, hn, show ¬ (l.length : Int) = 3 by omega, show ¬ (3 : Int) = l.length by omega]
  by_cases h11 : k = 11
  · subst h11
    by_cases hn : l.length = 3
    · simp -implicitDefEqProofs [af22, kidsN, hn]
    · simp -implicitDefEqProofs [af22, kidsN, hn, show ¬ (l.length : Int) = 3 by omega, show ¬ (3 : Int) = l.length by omega]
  simp -implicitDefEqProofs [af22, kidsN, h1, h2, h3, h4, h5, h6, h7, h8, h9, h10, h11]
/-- What a leaf is. -/
theorem w_ev_of_leaf (k : Int) (b : Bool) (m s : Int) (t : Str) (lo hi : Bool) (l : List E) (env : Ds.Env) (hl : env.length ≤ 140737488351232) (hok : okEnv env) (hk : kidsN k = 0) :
    call A 25 [.agg (encE (.mk k b m s t lo hi l)), .d (.sl []), .d (.sl (env.map encB))] [] = some (encR (leafV env k b m s t, 0), []) := by
  refine call_body (af := af25) rfl fnT25 rfl ?_
  have cn := w_ev_named t env hl hok
  rw [encE_mk]
  unfold leafV
  have hk' : k = 1 ∨ k = 2 ∨ k = 3 ∨ k = 4 ∨ k = 5 := by
    unfold kidsN at hk
    split at hk
    · assumption
    · repeat' split at hk
      all_goals omega
  rcases hk' with rfl | rfl | rfl | rfl | rfl
  · simp -implicitDefEqProofs [af25, encV_mk]
  · simp -implicitDefEqProofs [af25, w_ev_truth]
  · simp -implicitDefEqProofs [af25, w_ev_num]
  · simp -implicitDefEqProofs [af25, encV_mk]
  · simp -implicitDefEqProofs [af25, cn]
/-- What an expression with kids is. -/
theorem w_ev_of (k : Int) (b : Bool) (m s : Int) (t : Str) (lo hi : Bool) (l : List E) (vs : List V) (ev : DV) (hl : vs.length * 72 ≤ 140737488351232) (hok : ∀ v ∈ vs, isV v 0 = true)
    (hk : (k = 6 ∧ vs.length = 2) ∨ (k = 7 ∧ vs.length = 1) ∨ k = 9 ∨ k = 10 ∨ (k = 11 ∧ vs.length = 3)) :
    call A 25 [.agg (encE (.mk k b m s t lo hi l)), .d (.sl (vs.map encV)), .d ev] [] = some (encR (ofV k t lo hi vs), []) := by
  refine call_body (af := af25) rfl fnT25 rfl ?_
  unfold ofV
  rcases hk with ⟨rfl, hn⟩ | ⟨rfl, hn⟩ | rfl | rfl | ⟨rfl, hn⟩
  · match vs, hn, hok with
    | [x, y], _, hok =>
      have c := w_ev_bin t x y (hok x (by simp)) (hok y (by simp))
      rw [encE_mk]
      simp -implicitDefEqProofs [af25, c]
  · match vs, hn, hok with
    | [x], _, hok =>
      have c := w_ev_bin wMinus (numV 0 0) x (isV_num isD_zero 0) (hok x (by simp))
      have cw := w_ev_whole 0
      rw [encE_mk]
      simp -implicitDefEqProofs [af25, c, cw]
  · have c := w_ev_list vs hl hok
    rw [encE_mk]
    simp -implicitDefEqProofs [af25, c]
  · have c := w_ev_call t vs (by omega) hok
    rw [encE_mk]
    simp -implicitDefEqProofs [af25, c]
  · match vs, hn, hok with
    | [x, y, z], _, hok =>
      have c := w_ev_within 11 b m s t lo hi l x y z (hok x (by simp)) (hok y (by simp)) (hok z (by simp))
      rw [encE_mk] at c ⊢
      simp -implicitDefEqProofs [af25, c]
end Go.Proofs.YtkmmfenknekcbaaGreat
