/-
  WALKS: dossierref6: many, one, call, leaf, Eval: it is evalS too.
-/
import Derived.Test.YtkmmfenknekcbaaGreatWRef6c
set_option linter.unusedSimpArgs false
set_option linter.unusedVariables false
set_option maxRecDepth 100000
namespace Go.Proofs.YtkmmfenknekcbaaGreat
open Go Go.Ae Go.Ds
theorem w_ref6_cat (l : List V) (hl : l.length ≤ 140737488351232) (hok : ∀ v ∈ l, isV v 0 = true) : call A 59 [sv wCat, .d (.sl (l.map encV))] [] = some (encR (if l = [] ∨ allK 3 l = false then (nullV, 0) else catV (catAll l)), []) := by
  refine call_body (af := af59) rfl fnT59 rfl ?_
  have ca := w_ref6_all 3 l hl
  have ct := w_ref6_text (catAll l)
  have hmax : IntKind.i64.max = 9223372036854775807 := by decide
  simp -implicitDefEqProofs [af59]
  refine loopW_inv (fun M st => ∃ (i : Nat) (s : Str), i ≤ l.length ∧ M = l.length - i ∧ st.tm 1 = .d (.sl (l.map encV)) ∧ st.tm 4 = .ptr 0 0 ∧ st.tm 6 = sv s ∧ st.tm 7 = iv i ∧
    st.ob 0 = some [iv 0, bv false, iv 0, iv 0, sv [], .nils] ∧ s ++ catAll (l.drop i) = catAll l ∧ s.length ≤ 16 * i) ?_ l.length _ ?_
  rotate_left
  · exact ⟨0, [], by simp⟩
  rintro M st ⟨i, s, hi, rfl, q1, q4, q6, q7, o0, hr, hs⟩ L hL
  by_cases h : i < l.length
  · rw [List.drop_eq_getElem_cons h, catAll] at hr
    have hT := isV_T (hok _ (List.getElem_mem h))
    obtain ⟨v, hv⟩ : ∃ v, l[i] = v := ⟨_, rfl⟩
    rw [hv] at hr hT
    rcases v with ⟨k', b, m, s', t, l'⟩
    have ht : t.length ≤ 16 := by
      simp only [isT, V.t, Bool.and_eq_true] at hT
      exact of_decide_eq_true hT.1
    have hsum : ¬ ((s.length : Int) + t.length > 9223372036854775807) := by omega
    simp -implicitDefEqProofs [q1, q4, q6, q7, o0, h, hv, encV_mk, hmax, hsum]
    refine hL (l.length - (i + 1)) _ (by omega) ⟨i + 1, s ++ t, by omega, rfl, ?_⟩
    simp -implicitDefEqProofs [q1, q4, o0, List.append_assoc]
    exact ⟨wrapI _ (by omega) (by omega), hr, by omega⟩
  · rw [List.drop_of_length_le (by omega), catAll, List.append_nil] at hr
    subst hr
    by_cases he : l = []
    · subst he
      simp -implicitDefEqProofs [q1, q4, q6, q7, o0, h, encV_mk]
    · cases hk : allK 3 l <;> rw [hk] at ca <;> simp -implicitDefEqProofs [q1, q4, q6, q7, o0, h, he, ca, ct, encV_mk]
theorem w_ref6_many (n : Str) (hn : n = wMin ∨ n = wMax ∨ n = wSum) (l : List V) (hl : l.length ≤ 140737488351232) (hok : ∀ v ∈ l, isV v 0 = true) :
    call A 59 [sv n, .d (.sl (l.map encV))] [] = some (encR (manyV n l), []) := by
  refine call_body (af := af59) rfl fnT59 rfl ?_
  by_cases he : l = []
  · subst he
    have e : manyV n [] = (nullV, 0) := by rcases hn with rfl | rfl | rfl <;> simp [manyV, elemsV, allK]
    rw [e]
    rcases hn with rfl | rfl | rfl <;> simp -implicitDefEqProofs [af59, encV_mk]
  · have hE := elems_ok hok
    have hEl : (elemsV l).length ≤ 140737488351232 := by
      unfold elemsV
      split
      · rename_i v
        have := (isV_L (hok v (by simp))).1
        split
        · omega
        · simp
      · exact hl
    rw [← manyV_eq n he]
    have ca := w_ref6_all 2 (elemsV l) hEl
    have cs := w_ref6_Sum (elemsV l) hEl hE
    have c1 := w_ref6_least 1 (.inl rfl) (elemsV l) hEl hE
    have c2 := w_ref6_least (-1) (.inr rfl) (elemsV l) hEl hE
    by_cases h1 : ∃ v, l = [v]
    · obtain ⟨v, rfl⟩ := h1
      rcases v with ⟨k, b, m, s, t, l'⟩
      by_cases hk : k = 4
      · subst hk
        simp only [elemsV, V.k, if_true, V.l] at ca cs c1 c2 ⊢
        cases hA : allK 2 l' <;> rw [hA] at ca <;> rcases hn with rfl | rfl | rfl <;> simp -implicitDefEqProofs [af59, ca, cs, c1, c2, encV_mk]
      · simp only [elemsV, V.k, hk, if_false] at ca cs c1 c2 ⊢
        simp only [List.map_cons, List.map_nil, encV_mk] at ca cs c1 c2 ⊢
        cases hA : allK 2 [V.mk k b m s t l'] <;> rw [hA] at ca <;> rcases hn with rfl | rfl | rfl <;> simp -implicitDefEqProofs [af59, hk, ca, cs, c1, c2, encV_mk]
    · have hlen : l.length ≠ 1 := fun e => h1 (List.length_eq_one_iff.1 e)
      have hlen' : ¬ (l.length : Int) = 1 := by omega
      have hel : elemsV l = l := by
        unfold elemsV
        split
        · rename_i v; exact absurd ⟨v, rfl⟩ h1
        · rfl
      rw [hel] at ca cs c1 c2 ⊢
      cases hA : allK 2 l <;> rw [hA] at ca <;> rcases hn with rfl | rfl | rfl <;> simp -implicitDefEqProofs [af59, he, hlen, hlen', ca, cs, c1, c2, encV_mk]
theorem w_ref6_one (n : Str) (hn : n = wAbs ∨ n = wFloor ∨ n = wCeil) (m s : Int) (hD : isD m s = true) :
    call A 60 [sv n, .agg [.int .i64 m, .int .i64 s]] [] = some (encR (oneV n (numV m s), 0), []) := by
  refine call_body (af := af60) rfl fnT60 rfl ?_
  have d := isD_iff.1 hD
  have c1 := w_ref1_Floor m s hD
  have c2 := w_ref1_Ceil m s hD
  have cn := fun a b => w_ref6_num a b 0
  simp only [foundV, ne_eq, not_true_eq_false, if_false] at cn
  unfold oneV
  simp only [V.k, V.b, V.m, V.s, V.t, V.l]
  rcases hn with rfl | rfl | rfl
  · by_cases hm : m < 0
    · simp -implicitDefEqProofs [af60, hm, wrapI (-m) (by omega) (by omega), cn]
    · simp -implicitDefEqProofs [af60, hm, cn]
  · simp -implicitDefEqProofs [af60, c1, cn]
  · simp -implicitDefEqProofs [af60, c2, cn]
end Go.Proofs.YtkmmfenknekcbaaGreat
