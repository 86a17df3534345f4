/-
  WALKS: package eval: operators, calls.
-/
import Derived.Test.YtkmmfenknekcbaaGreatWEval2
set_option linter.unusedSimpArgs false
set_option linter.unusedVariables false
set_option maxRecDepth 100000
namespace Go.Proofs.YtkmmfenknekcbaaGreat
open Go Go.Ae Go.Ds
theorem w_ev_found' (r : (Int × Int) × Int) : call A 81 [.agg [.int .i64 r.1.1, .int .i64 r.1.2], iv r.2] [] = some (encR (foundV r), []) := w_ev_found r.1.1 r.1.2 r.2
theorem w_ev_reckon (op : Str) (m s m' s' : Int) (h : isD m s = true) (h' : isD m' s' = true) :
    call A 84 [sv op, .agg [.int .i64 m, .int .i64 s], .agg [.int .i64 m', .int .i64 s']] [] =
      some (encR (if op = wMinus then foundV (addP m s (-m') s') else if op = wTimes then foundV (mulP m s m' s') else if m' = 0 then (nullV, 0) else foundV (divP m s m' s')), []) := by
  refine call_body (af := af84) rfl fnT84 rfl ?_
  have c1 := w_dec_Sub m s m' s' h h'
  have c2 := w_dec_Mul m s m' s' h h'
  unfold subP at c1
  by_cases h1 : op = [45]
  · subst h1
    simp -implicitDefEqProofs [af84, c1, w_ev_found']
  · by_cases h2 : op = [42]
    · subst h2
      simp -implicitDefEqProofs [af84, c2, w_ev_found']
    · by_cases h3 : m' = 0
      · simp -implicitDefEqProofs [af84, h1, h2, h3, encV_mk]
      · have c3 := w_dec_Div m s m' s' h h' h3
        simp -implicitDefEqProofs [af84, h1, h2, h3, c3, w_ev_found']
theorem w_ev_bin (op : Str) (a b : V) (ha : isV a 0 = true) (hb : isV b 0 = true) : call A 48 [sv op, .agg (encV a), .agg (encV b)] [] = some (encR (binV op a b), []) := by
  refine call_body (af := af48) rfl fnT48 rfl ?_
  have a2 := w_ev_areAll2 2 a b
  have a3 := w_ev_areAll2 3 a b
  have cA := w_val_And a b
  have cO := w_val_Or a b
  have cR := w_ev_Rel op a b ha hb
  have dA := isV_D ha
  have dB := isV_D hb
  have c1 := w_dec_Add _ _ _ _ dA dB
  have c2 := w_ev_reckon op _ _ _ _ dA dB
  have cj := w_ev_joined [a, b] (by simp) (by simp [ha, hb])
  simp only [List.map_cons, List.map_nil, catAll, List.append_nil] at cj
  have and_f : ∀ {p q : Prop} [Decidable p] [Decidable q], ¬ (p ∧ q) → (decide p && decide q) = false := fun h => by
    rw [Bool.eq_false_iff]; intro h'; simp at h'; exact h h'
  have f2 : ¬ (a.k = 2 ∧ b.k = 2) → call A 39 [iv 2, .d (.sl [encV a, encV b])] [] = some (bv false, []) := fun h => by rw [a2, and_f h]
  have f3 : ¬ (a.k = 3 ∧ b.k = 3) → call A 39 [iv 3, .d (.sl [encV a, encV b])] [] = some (bv false, []) := fun h => by rw [a3, and_f h]
  rcases a with ⟨k, ba, m, s, t, l⟩
  rcases b with ⟨k', bb, m', s', t', l'⟩
  simp only [V.k, V.m, V.s, V.t] at a2 a3 c1 c2 cj f2 f3
  unfold binV arithV
  by_cases h1 : op = [97, 110, 100]
  · subst h1
    simp -implicitDefEqProofs [af48, a2, cA]
  · by_cases h2 : op = [111, 114]
    · subst h2
      simp -implicitDefEqProofs [af48, a2, cO]
    · by_cases hn : k = 2 ∧ k' = 2
      · obtain ⟨rfl, rfl⟩ := hn
        rw [encV_mk, encV_mk] at *
        by_cases h3 : op = [43]
        · subst h3
          simp -implicitDefEqProofs [af48, a2, c1, w_ev_found', V.k, V.m, V.s]
        · by_cases h4 : op = [45]
          · subst h4
            simp -implicitDefEqProofs [af48, a2, c2, V.k, V.m, V.s]
          · by_cases h5 : op = [42]
            · subst h5
              simp -implicitDefEqProofs [af48, a2, c2, V.k, V.m, V.s]
            · by_cases h6 : op = [47]
              · subst h6
                simp -implicitDefEqProofs [af48, a2, c2, V.k, V.m, V.s]
              · simp -implicitDefEqProofs [af48, a2, cR, h1, h2, h3, h4, h5, h6, V.k, V.m, V.s]
      · have a2 := f2 hn
        by_cases h3 : op = [43]
        · subst h3
          by_cases ht : k = 3 ∧ k' = 3
          · obtain ⟨rfl, rfl⟩ := ht
            simp -implicitDefEqProofs [af48, a2, a3, cj, V.k, V.m, V.s, V.t]
          · have a3 := f3 ht
            rw [encV_mk, encV_mk] at a2 a3
            simp -implicitDefEqProofs [af48, a2, a3, V.k, V.m, V.s, hn, ht, encV_mk]
        · by_cases h4 : op = [45] ∨ op = [42] ∨ op = [47]
          · rw [encV_mk, encV_mk] at a2
            rcases h4 with rfl | rfl | rfl <;> simp -implicitDefEqProofs [af48, a2, V.k, V.m, V.s, hn, encV_mk]
          · simp only [not_or] at h4
            simp -implicitDefEqProofs [af48, a2, cR, h1, h2, h3, h4, V.k, V.m, V.s]
theorem w_ev_within (k : Int) (b : Bool) (m s : Int) (t : Str) (lo hi : Bool) (l : List E) (v a b' : V) (hv : isV v 0 = true) (ha : isV a 0 = true) (hb : isV b' 0 = true) :
    call A 51 [.agg (encE (.mk k b m s t lo hi l)), .d (.sl [encV v, encV a, encV b'])] [] = some (.agg (encV (withinV lo hi v a b')), []) := by
  refine call_body (af := af51) rfl fnT51 rfl ?_
  rw [encE_mk]
  unfold withinV
  have r1 := w_ev_Rel wGe v a hv ha
  have r2 := w_ev_Rel wGt v a hv ha
  have r3 := w_ev_Rel wLe v b' hv hb
  have r4 := w_ev_Rel wLt v b' hv hb
  cases lo <;> cases hi <;> simp -implicitDefEqProofs [af51, r1, r2, r3, r4, w_val_And]
theorem tmod_up (R B : Int) (hB : 0 < B) (h : -B < R ∧ R < B) : (R + B).tmod B = if R < 0 then R + B else R := by
  rw [Int.tmod_eq_emod_of_nonneg (by omega), Int.add_emod_right]
  split
  · rw [← Int.add_emod_right, Int.emod_eq_of_lt (by omega) (by omega)]
  · rw [Int.emod_eq_of_lt (by omega) (by omega)]
theorem modP_eq (a b : Int) (hb : b ≠ 0) : (a.tmod b + b).tmod b = modP a b := by
  have h := tmod_range a b hb
  unfold modP
  simp only [ne_eq, decide_eq_decide]
  generalize a.tmod b = r at *
  by_cases h0 : 0 < b
  · rw [tmod_up r b h0 (by omega)]
    split <;> split <;> omega
  · have e : r + b = -(-r + -b) := by omega
    rw [e, Int.neg_tmod, ← Int.tmod_neg, tmod_up (-r) (-b) (by omega) (by omega)]
    split <;> split <;> omega
theorem w_ev_mod (a b : Int) (hb : b ≠ 0) (ha : -1000000000 ≤ a ∧ a ≤ 1000000000) (hb' : -1000000000 ≤ b ∧ b ≤ 1000000000) : call A 126 [iv a, iv b] [] = some (iv (modP a b), []) := by
  refine call_body (af := af126) rfl fnT126 rfl ?_
  have h := tmod_range a b hb
  simp -implicitDefEqProofs [af126, hb, wrapI (a.tmod b + b) (by omega) (by omega), modP_eq a b hb]
theorem w_ev_one (n : Str) (v : V) (hv : isV v 0 = true) : call A 87 [sv n, .agg (encV v)] [] = some (.agg (encV (oneV n v)), []) := by
  refine call_body (af := af87) rfl fnT87 rfl ?_
  have cn := w_val_Not v
  have hD := isV_D hv
  have hT := (isV_wf v 0 hv)
  rcases v with ⟨k, b, m, s, t, l⟩
  obtain ⟨_, _, _, ht, hl, _⟩ := hT
  simp only [reach] at ht hl
  simp only [V.m, V.s] at hD
  have d := isD_iff.1 hD
  have c1 := w_dec_Floor m s hD
  have c2 := w_dec_Ceil m s hD
  unfold oneV
  simp only [V.k, V.b, V.m, V.s, V.t, V.l]
  by_cases h1 : n = [110, 111, 116]
  · subst h1
    simp -implicitDefEqProofs [af87, cn]
  · rw [encV_mk]
    by_cases h2 : n = [108, 101, 110]
    · subst h2
      by_cases hk : k = 3
      · subst hk
        simp -implicitDefEqProofs [af87, w_ev_whole]
      · by_cases hk2 : k = 2
        · subst hk2
          simp -implicitDefEqProofs [af87, encV_mk]
        · simp -implicitDefEqProofs [af87, hk, hk2, encV_mk]
    · by_cases h3 : n = [99, 111, 117, 110, 116]
      · subst h3
        by_cases hk : k = 4
        · subst hk
          simp -implicitDefEqProofs [af87, w_ev_whole]
        · by_cases hk2 : k = 2
          · subst hk2
            simp -implicitDefEqProofs [af87, encV_mk]
          · simp -implicitDefEqProofs [af87, hk, hk2, encV_mk]
      · by_cases hk2 : k = 2
        · subst hk2
          by_cases h4 : n = [97, 98, 115]
          · subst h4
            by_cases hm : m < 0
            · simp -implicitDefEqProofs [af87, wrapI (-m) (by omega) (by omega), hm, show m < -m by omega, w_ev_num]
            · simp -implicitDefEqProofs [af87, wrapI (-m) (by omega) (by omega), hm, show ¬ m < -m by omega, w_ev_num]
          · by_cases h5 : n = [102, 108, 111, 111, 114]
            · subst h5
              simp -implicitDefEqProofs [af87, c1, w_ev_num]
            · by_cases h6 : n = [99, 101, 105, 108]
              · subst h6
                simp -implicitDefEqProofs [af87, c2, w_ev_num]
              · simp -implicitDefEqProofs [af87, h1, h2, h3, h4, h5, h6, encV_mk]
        · simp -implicitDefEqProofs [af87, h1, h2, h3, hk2, encV_mk]
end Go.Proofs.YtkmmfenknekcbaaGreat
