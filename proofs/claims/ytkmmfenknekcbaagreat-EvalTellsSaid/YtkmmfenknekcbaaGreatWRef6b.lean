/-
  WALKS: dossierref6: what has no loop over expressions.
-/
import Derived.Test.YtkmmfenknekcbaaGreatWRef6a
set_option linter.unusedSimpArgs false
set_option linter.unusedVariables false
set_option maxRecDepth 100000
namespace Go.Proofs.YtkmmfenknekcbaaGreat
open Go Go.Ae Go.Ds
theorem w_ref6_num (m s e : Int) : call A 30 [.agg [.int .i64 m, .int .i64 s], iv e] [] = some (encR (foundV ((m, s), e)), []) := by
  refine call_body (af := af30) rfl fnT30 rfl ?_
  unfold foundV
  by_cases h : e = 0 <;> simp -implicitDefEqProofs [af30, h, encV_mk]
theorem w_ref6_num' (r : (Int × Int) × Int) : call A 30 [.agg [.int .i64 r.1.1, .int .i64 r.1.2], iv r.2] [] = some (encR (foundV r), []) := w_ref6_num r.1.1 r.1.2 r.2
theorem w_ref6_whole (n : Int) : call A 64 [iv n] [] = some (.agg (encV (numV n 0)), []) := by
  refine call_body (af := af64) rfl fnT64 rfl ?_
  simp -implicitDefEqProofs [af64, encV_mk]
theorem w_ref6_text (t : Str) : call A 57 [sv t] [] = some (encR (catV t), []) := by
  refine call_body (af := af57) rfl fnT57 rfl ?_
  unfold catV
  by_cases h : t.length > 16
  · simp -implicitDefEqProofs [af57, h, show (t.length : Int) > 16 by omega, encV_mk]
  · simp -implicitDefEqProofs [af57, h, show ¬ (t.length : Int) > 16 by omega, encV_mk]
theorem w_ref6_arith (op : Str) (m s m' s' : Int) (h : isD m s = true) (h' : isD m' s' = true) (ho : op = wPlus ∨ op = wMinus ∨ op = wTimes ∨ op = wBy) :
    call A 56 [sv op, .agg [.int .i64 m, .int .i64 s], .agg [.int .i64 m', .int .i64 s']] [] =
      some (encR (if op = wPlus then foundV (addP m s m' s') else if op = wMinus then foundV (addP m s (-m') s') else if op = wTimes then foundV (mulP m s m' s') else if m' = 0 then (nullV, 0) else foundV (divP m s m' s')), []) := by
  refine call_body (af := af56) rfl fnT56 rfl ?_
  have c0 := w_ref1_Add m s m' s' h h'
  have c1 := w_ref1_Sub m s m' s' h h'
  have c2 := w_ref1_Mul m s m' s' h h'
  unfold subP at c1
  rcases ho with rfl | rfl | rfl | rfl
  · simp -implicitDefEqProofs [af56, c0, w_ref6_num']
  · simp -implicitDefEqProofs [af56, c1, w_ref6_num']
  · simp -implicitDefEqProofs [af56, c2, w_ref6_num']
  · by_cases h3 : m' = 0
    · simp -implicitDefEqProofs [af56, h3, encV_mk]
    · have c3 := w_ref1_Div m s m' s' h h' h3
      simp -implicitDefEqProofs [af56, h3, c3, w_ref6_num']
theorem w_ref6_bin (op : Str) (a b : V) (ha : isV a 0 = true) (hb : isV b 0 = true) : call A 29 [sv op, .agg (encV a), .agg (encV b)] [] = some (encR (binV op a b), []) := by
  refine call_body (af := af29) rfl fnT29 rfl ?_
  have cA := w_ref2_And a b
  have cO := w_ref2_Or a b
  have cR := w_ref6_Rel op a b ha hb
  have dA := isV_D ha
  have dB := isV_D hb
  have tA := isV_T ha
  have tB := isV_T hb
  rcases a with ⟨k, ba, m, s, t, l⟩
  rcases b with ⟨k', bb, m', s', t', l'⟩
  have c2 := fun ho => w_ref6_arith op m s m' s' dA dB ho
  simp only [V.t] at tA tB
  have lA : t.length ≤ 16 := by simp only [isT, Bool.and_eq_true] at tA; exact of_decide_eq_true tA.1
  have lB : t'.length ≤ 16 := by simp only [isT, Bool.and_eq_true] at tB; exact of_decide_eq_true tB.1
  have hcat : ¬ ((t.length : Int) + t'.length > 9223372036854775807) := by omega
  have hmax : IntKind.i64.max = 9223372036854775807 := by decide
  have ct := w_ref6_text (t ++ t')
  unfold binV arithV
  by_cases h1 : op = [97, 110, 100]
  · subst h1
    simp -implicitDefEqProofs [af29, cA]
  by_cases h2 : op = [111, 114]
  · subst h2
    simp -implicitDefEqProofs [af29, cO]
  by_cases ho : op = wPlus ∨ op = wMinus ∨ op = wTimes ∨ op = wBy
  · have c2 := c2 ho
    rw [encV_mk, encV_mk]
    by_cases hk : k = 2
    · subst hk
      by_cases hk' : k' = 2
      · subst hk'
        rcases ho with rfl | rfl | rfl | rfl <;> simp -implicitDefEqProofs [af29, c2, V.k, V.m, V.s]
        by_cases h0 : m' = 0 <;> simp [h0]
      · rcases ho with rfl | rfl | rfl | rfl <;> simp -implicitDefEqProofs [af29, hk', encV_mk, V.k, V.m, V.s, V.t]
    · by_cases hk3 : k = 3
      · subst hk3
        by_cases hk' : k' = 3
        · subst hk'
          rcases ho with rfl | rfl | rfl | rfl <;> simp -implicitDefEqProofs [af29, hmax, hcat, ct, encV_mk, V.k, V.m, V.s, V.t]
        · rcases ho with rfl | rfl | rfl | rfl <;> simp -implicitDefEqProofs [af29, hk', encV_mk, V.k, V.m, V.s, V.t]
      · rcases ho with rfl | rfl | rfl | rfl <;> simp -implicitDefEqProofs [af29, hk, hk3, encV_mk, V.k, V.m, V.s, V.t]
  · simp only [not_or] at ho
    simp -implicitDefEqProofs [af29, h1, h2, ho, cR]
theorem w_ref6_nest : ∀ (v : V), wfV v → (∀ x ∈ v.l, isV x 0 = true) → call A 58 [.agg (encV v)] [] = some (iv (nestV v), []) := by
  intro v
  induction v using V.ind with
  | h k b m s t l ih =>
    rintro ⟨_, _, _, _, hl, hwl⟩ hx
    simp only [reach] at hl
    refine call_body (af := af58) rfl fnT58 rfl ?_
    rw [encV_mk, nestV]
    by_cases hk : k = 4
    · subst hk
      simp -implicitDefEqProofs [af58]
      refine loopW_inv (fun M st => ∃ i : Nat, i ≤ l.length ∧ M = l.length - i ∧ st.tm 1 = .ptr 0 0 ∧ st.tm 3 = iv (nestVs (l.take i)) ∧ st.tm 4 = iv i ∧ st.ob 0 = some [iv 4, bv b, iv m, iv s, sv t, .d (.sl (l.map encV))]) ?_ l.length _ ?_
      rotate_left
      · exact ⟨0, by simp [nestVs]⟩
      rintro M st ⟨i, hi, rfl, q1, q3, q4, o0⟩ L hL
      have hle : nestVs (l.take i) ≤ 2 := nestVs_bound fun v hv => by have := nest_bound v 0 (hx v (List.mem_of_mem_take hv)) (by omega); omega
      by_cases h : i < l.length
      · have hm := List.getElem_mem h
        have hle2 := nest_bound _ 0 (hx _ hm) (by omega)
        have hc := ih _ hm (wfVs_iff.1 hwl _ hm) (isV_L (hx _ hm)).2
        simp -implicitDefEqProofs [q1, q3, q4, o0, h, hc]
        refine hL (l.length - (i + 1)) _ (by omega) ⟨i + 1, by omega, rfl, ?_⟩
        simp -implicitDefEqProofs [q1, o0]
        refine ⟨?_, wrapI _ (by omega) (by omega)⟩
        rw [nestVs_snoc h]
        split <;> omega
      · simp -implicitDefEqProofs [q1, q3, q4, o0, h]
        rw [List.take_of_length_le (by omega)] at hle ⊢
        exact wrapI _ (by omega) (by omega)
    · simp -implicitDefEqProofs [af58, hk]
theorem w_ref6_list (l : List V) (hl : l.length * 72 ≤ 140737488351232) (hok : ∀ v ∈ l, isV v 0 = true) : call A 31 [.d (.sl (l.map encV))] [] = some (encR (mklistV l), []) := by
  refine call_body (af := af31) rfl fnT31 rfl ?_
  have hw : wfV (listV l) := ⟨by omega, by omega, by omega, by simp [reach], by simpa [reach] using hl, wfVs_iff.2 fun v hv => isV_wf v 0 (hok v hv)⟩
  have hn := w_ref6_nest (listV l) hw hok
  unfold mklistV
  obtain ⟨N, hN⟩ : ∃ N, nestV (listV l) = N := ⟨_, rfl⟩
  rw [hN] at hn ⊢
  rw [encV_mk] at hn
  by_cases h8 : l.length > 8
  · simp -implicitDefEqProofs [af31, h8, show (l.length : Int) > 8 by omega, encV_mk]
  · by_cases h2 : N > 2
    · simp -implicitDefEqProofs [af31, hn, h8, h2, show ¬ (l.length : Int) > 8 by omega, show (N : Int) > 2 by omega, encV_mk]
    · simp -implicitDefEqProofs [af31, hn, h8, h2, show ¬ (l.length : Int) > 8 by omega, show ¬ (N : Int) > 2 by omega, encV_mk]
theorem w_ref6_all (k : Int) (l : List V) (hl : l.length ≤ 140737488351232) : call A 62 [.d (.sl (l.map encV)), iv k] [] = some (bv (allK k l), []) := by
  refine call_body (af := af62) rfl fnT62 rfl ?_
  simp -implicitDefEqProofs [af62]
  refine loopW_inv (fun M st => ∃ i : Nat, i ≤ l.length ∧ M = l.length - i ∧ st.tm 0 = .d (.sl (l.map encV)) ∧ st.tm 1 = iv k ∧ st.tm 5 = iv i ∧ allK k (l.drop i) = allK k l) ?_ l.length _ ?_
  rotate_left
  · exact ⟨0, by simp⟩
  rintro M st ⟨i, hi, rfl, q0, q1, q5, hr⟩ L hL
  by_cases h : i < l.length
  · rw [List.drop_eq_getElem_cons h] at hr
    simp only [allK, List.all_cons] at hr
    obtain ⟨v, hv⟩ : ∃ v, l[i] = v := ⟨_, rfl⟩
    rw [hv] at hr
    rcases v with ⟨k', b, m, s, t, l'⟩
    by_cases hk : k' = k
    · simp -implicitDefEqProofs [q0, q1, q5, h, hv, encV_mk, hk]
      refine hL (l.length - (i + 1)) _ (by omega) ⟨i + 1, by omega, rfl, by simp [q0], by simp [q1], ?_, by simpa [allK, V.k, hk] using hr⟩
      simp -implicitDefEqProofs
      exact wrapI _ (by omega) (by omega)
    · have hf : allK k l = false := by
        simp only [allK]
        rw [← hr]
        simp [V.k, hk]
      simp -implicitDefEqProofs [q0, q1, q5, h, hv, encV_mk, hk, hf]
  · simp -implicitDefEqProofs [q0, q1, q5, h]
    rw [List.drop_of_length_le (by omega)] at hr
    simpa [allK] using hr
end Go.Proofs.YtkmmfenknekcbaaGreat
