/-
  WALKS: package eval: has, mod, sum, least, greatest; calls.
-/
import Derived.Test.YtkmmfenknekcbaaGreatWEval3
set_option linter.unusedSimpArgs false
set_option linter.unusedVariables false
set_option maxRecDepth 100000
namespace Go.Proofs.YtkmmfenknekcbaaGreat
open Go Go.Ae Go.Ds
theorem w_ev_two (n : Str) (a b : V) (ha : isV a 0 = true) (hb : isV b 0 = true) : call A 88 [sv n, .agg (encV a), .agg (encV b)] [] = some (.agg (encV (twoV n a b)), []) := by
  refine call_body (af := af88) rfl fnT88 rfl ?_
  have a2 := w_ev_areAll2 2 a b
  have hL := isV_L ha
  have dA := isD_iff.1 (isV_D ha)
  have dB := isD_iff.1 (isV_D hb)
  have and_f : ∀ {p q : Prop} [Decidable p] [Decidable q], ¬ (p ∧ q) → (decide p && decide q) = false := fun h => by
    rw [Bool.eq_false_iff]; intro h'; simp at h'; exact h h'
  have f2 : ¬ (a.k = 2 ∧ b.k = 2) → call A 39 [iv 2, .d (.sl [encV a, encV b])] [] = some (bv false, []) := fun h => by rw [a2, and_f h]
  have t2 : (a.k = 2 ∧ b.k = 2) → call A 39 [iv 2, .d (.sl [encV a, encV b])] [] = some (bv true, []) := fun h => by rw [a2]; simp [h.1, h.2]
  clear a2
  unfold twoV
  by_cases hh : n = wHas ∧ a.k = 4
  · obtain ⟨rfl, hk⟩ := hh
    have hE := fun x hx => w_val_Equal x b (isV_wf x 0 (hL.2 x hx)) (isV_wf b 0 hb) 0 (hL.2 x hx) hb
    clear f2 t2
    rcases a with ⟨k, ba, m, s, t, l⟩
    simp only [V.k] at hk
    subst hk
    simp only [V.k, V.l] at hL hE ⊢
    rw [encV_mk]
    simp -implicitDefEqProofs [af88]
    refine loopW_inv (fun M st => ∃ i : Nat, i ≤ l.length ∧ M = l.length - i ∧ st.tm 5 = .ptr 1 0 ∧ st.tm 6 = .ptr 2 0 ∧ st.tm 18 = .d (.sl (l.map encV)) ∧ st.tm 19 = iv l.length ∧ st.tm 20 = iv i ∧
      st.ob 1 = some ((encV b).map .d) ∧ st.ob 2 = some [iv 0, bv false, iv 0, iv 0, sv [], .nils] ∧ ((l.drop i).any fun x => decide (cmpV x b = 0)) = l.any fun x => decide (cmpV x b = 0)) ?_ l.length _ ?_
    rotate_left
    · exact ⟨0, by simp⟩
    rintro M st ⟨i, hi, rfl, q5, q6, q18, q19, q20, o1, o2, hr⟩ L hL'
    by_cases h : i < l.length
    · rw [List.drop_eq_getElem_cons h, List.any_cons] at hr
      have hc := hE _ (List.getElem_mem h)
      by_cases hz : cmpV l[i] b = 0
      · have hrt : (l.any fun x => decide (cmpV x b = 0)) = true := by rw [← hr]; simp [hz]
        rw [hrt]
        simp -implicitDefEqProofs [q5, q6, q18, q19, q20, o1, o2, h, hc, hz, w_ev_truth]
      · simp -implicitDefEqProofs [q5, q6, q18, q19, q20, o1, o2, h, hc, hz]
        refine hL' (l.length - (i + 1)) _ (by omega) ⟨i + 1, by omega, rfl, ?_⟩
        simp -implicitDefEqProofs [q5, q6, q18, q19, o1, o2]
        refine ⟨wrapI _ (by omega) (by omega), ?_⟩
        simpa [hz] using hr
    · rw [List.drop_of_length_le (by omega), List.any_nil] at hr
      rw [← hr]
      simp -implicitDefEqProofs [q5, q6, q18, q19, q20, o1, o2, h, w_ev_truth]
  · rw [if_neg hh]
    by_cases hm : n = wMod
    · subst hm
      by_cases h2 : a.k = 2 ∧ b.k = 2
      · have c := t2 h2
        clear f2 t2
        rcases a with ⟨k, ba, m, s, t, l⟩
        rcases b with ⟨k', bb, m', s', t', l'⟩
        simp only [V.k, V.m, V.s] at h2 dA dB ⊢
        obtain ⟨rfl, rfl⟩ := h2
        rw [encV_mk, encV_mk] at c ⊢
        by_cases h3 : s = 0
        · subst h3
          by_cases h4 : s' = 0
          · subst h4
            by_cases h5 : m' = 0
            · subst h5
              simp -implicitDefEqProofs [af88, c, encV_mk]
            · have cm := w_ev_mod m m' h5 dA.1 dB.1
              simp -implicitDefEqProofs [af88, c, h5, cm, w_ev_whole]
          · simp -implicitDefEqProofs [af88, c, h4, encV_mk]
        · simp -implicitDefEqProofs [af88, c, h3, encV_mk]
      · have c := f2 h2
        rw [if_neg (fun h => h2 ⟨h.2.1, h.2.2.1⟩)]
        simp -implicitDefEqProofs [af88, c, encV_mk]
    · rw [if_neg (fun h => hm h.1)]
      by_cases hs : n = wHas
      · subst hs
        have hk : a.k ≠ 4 := fun h => hh ⟨rfl, h⟩
        clear f2 t2
        rcases a with ⟨k, ba, m, s, t, l⟩
        simp only [V.k] at hk
        rw [encV_mk]
        simp -implicitDefEqProofs [af88, hk, encV_mk]
      · simp -implicitDefEqProofs [af88, hm, hs, encV_mk]
theorem w_ev_sum (l : List V) (hl : l.length ≤ 140737488351232) (hok : ∀ v ∈ l, isV v 0 = true) : call A 122 [.d (.sl (l.map encV))] [] = some (encR (sumV 0 0 l), []) := by
  refine call_body (af := af122) rfl fnT122 rfl ?_
  simp -implicitDefEqProofs [af122]
  refine loopW_inv (fun M st => ∃ (i : Nat) (m s : Int), i ≤ l.length ∧ M = l.length - i ∧ isD m s = true ∧ st.tm 2 = .ptr 0 0 ∧ (∃ o, st.tm 4 = .ptr o 0 ∧ 0 < o ∧ o < st.no ∧ st.ob o = some [iv m, iv s]) ∧ st.tm 10 = .d (.sl (l.map encV)) ∧ st.tm 11 = iv l.length ∧ st.tm 12 = iv i ∧
    st.ob 0 = some [iv 0, bv false, iv 0, iv 0, sv [], .nils] ∧ sumV m s (l.drop i) = sumV 0 0 l) ?_ l.length _ ?_
  rotate_left
  · refine ⟨0, 0, 0, by simp, by simp, isD_zero, by simp, ⟨3, by simp⟩, by simp⟩
  rintro M st ⟨i, m, s, hi, rfl, hd, q2, ⟨o, q4, ho, hno, oo⟩, q10, q11, q12, o0, hr⟩ L hL
  have ho0 : ¬ o = 0 := by omega
  have ho1 : ¬ (o : Nat) = st.no + 1 + 2 := by omega
  have ho2 : ¬ (o : Nat) = st.no + 1 + 4 + 7 := by omega
  by_cases h : i < l.length
  · rw [List.drop_eq_getElem_cons h, sumV] at hr
    have hv := isV_D (hok _ (List.getElem_mem h))
    obtain ⟨v, hv'⟩ : ∃ v, l[i] = v := ⟨_, rfl⟩
    rw [hv'] at hr hv
    rcases v with ⟨k', b, m', s', t, l'⟩
    simp only [V.m, V.s] at hr hv
    have c := w_dec_Add m s m' s' hd hv
    by_cases hz : (addP m s m' s').2 = 0
    · simp only [ne_eq, hz, not_true_eq_false, if_false] at hr
      have hd' : isD (addP m s m' s').1.1 (addP m s m' s').1.2 = true := by
        rcases addP_ok m s m' s' with h | h | h
        · exact h.2
        · rw [h] at hz; simp at hz
        · rw [h] at hz; simp at hz
      simp -implicitDefEqProofs [q2, q4, q10, q11, q12, o0, oo, h, hv', encV_mk, ho0, ho1, ho2, c, hz]
      refine hL (l.length - (i + 1)) _ (by omega) ⟨i + 1, _, _, by omega, rfl, hd', ?_⟩
      simp -implicitDefEqProofs [q2, q4, q10, q11, o0, ho0]
      exact ⟨by omega, wrapI _ (by omega) (by omega), by omega, hr⟩
    · simp only [ne_eq, hz, not_false_eq_true, if_true] at hr
      rw [← hr]
      simp -implicitDefEqProofs [q2, q4, q10, q11, q12, o0, oo, h, hv', encV_mk, ho0, ho1, ho2, c, hz]
  · rw [List.drop_of_length_le (by omega), sumV] at hr
    rw [← hr]
    simp -implicitDefEqProofs [q2, q4, q10, q11, q12, o0, oo, h, ho0, w_ev_num]
theorem w_pre_min : call A 123 [sv wMin, sv [109, 105, 110]] [] = some (bv true, []) := call_iff.2 ⟨20, by kernel_rfl⟩
theorem w_pre_max : call A 123 [sv wMax, sv [109, 105, 110]] [] = some (bv false, []) := call_iff.2 ⟨20, by kernel_rfl⟩
/-- The first of all is the first; then one by one. -/
def bestV (sign : Int) : List V → V
  | [] => nullV
  | x :: r => leastV sign x r
theorem bestV_snoc (sign : Int) (l : List V) (v : V) (h : l ≠ []) : bestV sign (l ++ [v]) = if cmpV v (bestV sign l) * sign < 0 then v else bestV sign l := by
  cases l with
  | nil => exact absurd rfl h
  | cons x r =>
    have : ∀ (r : List V) (x : V), leastV sign x (r ++ [v]) = if cmpV v (leastV sign x r) * sign < 0 then v else leastV sign x r := by
      intro r
      induction r with
      | nil => intro x; rfl
      | cons y r ih => intro x; exact ih _
    exact this r x
theorem bestV_ok (sign : Int) {l : List V} (h : ∀ v ∈ l, isV v 0 = true) : isV (bestV sign l) 0 = true := by
  cases l with
  | nil => exact isV_null 0
  | cons x r =>
    rcases leastV_mem sign r x with e | e
    · rw [bestV, e]; exact h x (by simp)
    · exact h _ (List.mem_cons_of_mem _ e)
@[simp] theorem over_dV2 (a b : V) : over ((encV a).map AV.d) 0 ((encV b).map AV.d) = some ((encV b).map AV.d) := over_all (by simp)
/-- What stands behind the choice of the elements. -/
noncomputable def manyRest : ACode := match af86.code with | .seq _ (.seq _ r) => r | _ => .skip
theorem w_manyRest (n : Str) (hn : n = wMin ∨ n = wMax ∨ n = wSum) (l : List V) (hl : l.length ≤ 140737488351232) (hok : ∀ v ∈ l, isV v 0 = true) (st : St)
    (h0 : st.tm 0 = sv n) (h1 : st.tm 1 = .d (.sl (l.map encV))) (h4 : st.tm 4 = .ptr 0 0) (o0 : st.ob 0 = some [iv 0, bv false, iv 0, iv 0, sv [], .nils]) :
    evW (call A) manyRest (finalK [.c 4 (some 6), .t 5] 0) st = some (encR (if allK 2 l then (if n = wSum then sumV 0 0 l else (bestV (if n = wMin then 1 else -1) l, 0)) else (nullV, 0)), []) := by
  have ca := w_ev_areAll 2 l hl
  have cs := w_ev_sum l hl hok
  cases hk : allK 2 l with
  | false =>
    rw [hk] at ca
    simp -implicitDefEqProofs [manyRest, af86, h0, h1, h4, o0, ca, encV_mk]
  | true =>
    rw [hk] at ca
    by_cases hs : n = wSum
    · subst hs
      simp -implicitDefEqProofs [manyRest, af86, h0, h1, h4, o0, ca, cs]
    · have hp : call A 123 [sv n, sv [109, 105, 110]] [] = some (bv (decide (n = wMin)), []) := by
        rcases hn with rfl | rfl | rfl
        · exact w_pre_min
        · exact w_pre_max
        · exact absurd rfl hs
      simp -implicitDefEqProofs [manyRest, af86, h0, h1, h4, o0, ca, hs]
      refine loopW_inv (fun M su => ∃ i : Nat, i ≤ l.length ∧ M = l.length - i ∧ su.tm 0 = sv n ∧ su.tm 4 = .ptr 0 0 ∧ (∃ o, su.tm 6 = .ptr o 0 ∧ 0 < o ∧ o < su.no ∧ su.ob o = some ((encV (bestV (if n = wMin then 1 else -1) (l.take i))).map .d)) ∧ su.tm 41 = .d (.sl (l.map encV)) ∧
        su.tm 42 = iv l.length ∧ su.tm 43 = iv i ∧ su.ob 0 = some [iv 0, bv false, iv 0, iv 0, sv [], .nils]) ?_ l.length _ ?_
      rotate_left
      · exact ⟨0, by simp, by simp, by simp [h0], by simp [h4], ⟨st.no + 2 + 2 + 1 + 1, by simp [bestV, encV_mk]⟩, by simp, by simp, by simp, by simp [o0]⟩
      rintro M su ⟨i, hi, rfl, q0, q4, ⟨o, q6, ho, hno, oo⟩, q41, q42, q43, v0⟩ L hL
      have ho0 : ¬ o = 0 := by omega
      have ho1 : ¬ (o : Nat) = su.no + 1 + 3 := by omega
      obtain ⟨bst, hbst⟩ : ∃ b, bestV (if n = wMin then 1 else -1) (l.take i) = b := ⟨_, rfl⟩
      rw [hbst] at oo
      by_cases h : i < l.length
      · have hb : isV bst 0 = true := by rw [← hbst]; exact bestV_ok _ fun v hv => hok v (List.mem_of_mem_take hv)
        have hv := hok _ (List.getElem_mem h)
        have hc := w_val_Cmp l[i] bst (isV_wf _ 0 hv) (isV_wf _ 0 hb) 0 hv hb
        have hrg := cmpV_range l[i] bst
        obtain ⟨N, hN⟩ : ∃ N, cmpV l[i] bst = N := ⟨_, rfl⟩
        rw [hN] at hc hrg
        have hnext : bestV (if n = wMin then 1 else -1) (l.take (i + 1)) = if i = 0 ∨ N * (if n = wMin then 1 else -1) < 0 then l[i] else bst := by
          rw [List.take_succ_eq_append_getElem h]
          by_cases hi0 : i = 0
          · subst hi0; simp [bestV, leastV]
          · rw [bestV_snoc _ _ _ (by intro e; have := congrArg List.length e; rw [List.length_take, List.length_nil] at this; omega), hbst, hN]
            simp [hi0]
        have fin : ∀ (su' : St), su'.tm 0 = sv n → su'.tm 4 = .ptr 0 0 → su'.tm 6 = .ptr o 0 → su.no ≤ su'.no → su'.ob o = some ((encV (if i = 0 ∨ N * (if n = wMin then 1 else -1) < 0 then l[i] else bst)).map .d) → su'.tm 41 = .d (.sl (l.map encV)) →
            su'.tm 42 = iv l.length → su'.tm 43 = iv ((i : Int) + 1) → su'.ob 0 = some [iv 0, bv false, iv 0, iv 0, sv [], .nils] → L su' = some (encR (bestV (if n = wMin then 1 else -1) l, 0), []) := by
          intro su' r0 r4 r6 rn ro r41 r42 r43 rv
          exact hL (l.length - (i + 1)) su' (by omega) ⟨i + 1, by omega, rfl, r0, r4, ⟨o, r6, ho, by omega, by rw [hnext]; exact ro⟩, r41, r42, by rw [r43]; rfl, rv⟩
        by_cases hm : n = wMin
        · subst hm
          simp only [decide_true] at hp
          by_cases hi0 : i = 0
          · subst hi0
            simp -implicitDefEqProofs [q0, q4, q6, q41, q42, q43, v0, oo, h, ho0, ho1, hc, hp, wrapI (-N) (by omega) (by omega)]
            refine fin _ (by simp [q0]) (by simp [q4]) (by simp [q6]) (by simp; omega) (by simp) (by simp [q41]) (by simp [q42]) ?_ ?_
            · simp
              exact wrapI _ (by omega) (by omega)
            · simp [v0]
              omega
          · by_cases hlt : N < 0
            · simp -implicitDefEqProofs [q0, q4, q6, q41, q42, q43, v0, oo, h, ho0, ho1, hc, hp, hi0, hlt, wrapI (-N) (by omega) (by omega)]
              refine fin _ (by simp [q0]) (by simp [q4]) (by simp [q6]) (by simp; omega) (by simp [hlt]) (by simp [q41]) (by simp [q42]) ?_ ?_
              · simp
                exact wrapI _ (by omega) (by omega)
              · simp [v0]
                omega
            · simp -implicitDefEqProofs [q0, q4, q6, q41, q42, q43, v0, oo, h, ho0, ho1, hc, hp, hi0, hlt, wrapI (-N) (by omega) (by omega)]
              refine fin _ (by simp [q0]) (by simp [q4]) (by simp [q6]) (by simp; omega) (by simp [hi0, hlt, ho1, oo]) (by simp [q41]) (by simp [q42]) ?_ ?_
              · simp
                exact wrapI _ (by omega) (by omega)
              · simp [v0]
        · have hp' : call A 123 [sv n, sv [109, 105, 110]] [] = some (bv false, []) := by rw [hp]; simp [hm]
          by_cases hi0 : i = 0
          · subst hi0
            simp -implicitDefEqProofs [q0, q4, q6, q41, q42, q43, v0, oo, h, ho0, ho1, hc, hp']
            refine fin _ (by simp [q0]) (by simp [q4]) (by simp [q6]) (by simp; omega) (by simp) (by simp [q41]) (by simp [q42]) ?_ ?_
            · simp
              exact wrapI _ (by omega) (by omega)
            · simp [v0]
              omega
          · by_cases hlt : N > 0
            · simp -implicitDefEqProofs [q0, q4, q6, q41, q42, q43, v0, oo, h, ho0, ho1, hc, hp', hi0, hlt]
              refine fin _ (by simp [q0]) (by simp [q4]) (by simp [q6]) (by simp; omega) (by simp [hm, hlt, show -N < 0 by omega]) (by simp [q41]) (by simp [q42]) ?_ ?_
              · simp
                exact wrapI _ (by omega) (by omega)
              · simp [v0]
                omega
            · simp -implicitDefEqProofs [q0, q4, q6, q41, q42, q43, v0, oo, h, ho0, ho1, hc, hp', hi0, hlt]
              refine fin _ (by simp [q0]) (by simp [q4]) (by simp [q6]) (by simp; omega) (by simp [hm, hi0, hlt, ho1, oo, show ¬ -N < 0 by omega]) (by simp [q41]) (by simp [q42]) ?_ ?_
              · simp
                exact wrapI _ (by omega) (by omega)
              · simp [v0]
      · rw [List.take_of_length_le (by omega)] at hbst
        simp -implicitDefEqProofs [q0, q4, q6, q41, q42, q43, v0, oo, h, ho0, hbst]
end Go.Proofs.YtkmmfenknekcbaaGreat
