/-
  WALKS: package dossierref1: power, half, Fit, Add, Sub, Mul, Div, Cmp, Floor, Ceil.
-/
import Derived.Test.YtkmmfenknekcbaaGreatWDec2
set_option linter.unusedSimpArgs false
set_option linter.unusedVariables false
set_option maxRecDepth 100000
namespace Go.Proofs.YtkmmfenknekcbaaGreat
open Go Go.Ae Go.Ds
theorem w_ref1_power (n : Nat) (hn : n ≤ 18) : call A 109 [iv n] [] = some (iv (10 ^ n), []) := by
  refine call_body (af := af109) rfl fnT109 rfl ?_
  simp -implicitDefEqProofs [af109]
  refine loopW_inv (fun m st => ∃ i : Nat, i ≤ n ∧ m = n - i ∧ st.tm 0 = iv n ∧ st.tm 4 = iv i ∧ st.tm 3 = iv (10 ^ i)) ?_ n _ ⟨0, by simp⟩
  rintro m st ⟨i, hi, rfl, h0, h4, h3⟩ L hL
  by_cases h : i < n
  · have hp : (10 : Int) ^ i ≤ 10 ^ 17 := by exact_mod_cast Nat.pow_le_pow_right (by omega : 0 < 10) (by omega : i ≤ 17)
    have hp0 : (0 : Int) < 10 ^ i := Int.pow_pos (by omega)
    simp -implicitDefEqProofs [h0, h4, h3, h]
    refine hL (n - (i + 1)) _ (by omega) ⟨i + 1, by omega, rfl, ?_⟩
    simp -implicitDefEqProofs [h0]
    refine ⟨wrapI _ (by omega) (by omega), ?_⟩
    rw [wrapI _ (by omega) (by omega), Int.pow_succ]
  · simp -implicitDefEqProofs [h0, h4, h3, h]
    rw [show i = n by omega]
theorem and_one (q : Int) : IntKind.wrap .i64 (((q % 2 ^ IntKind.i64.bits).toNat &&& 1 % 2 ^ IntKind.i64.bits : Nat) : Int) = q % 2 := by
  have e : IntKind.i64.bits = 64 := rfl
  rw [e, show 1 % 2 ^ 64 = 1 from rfl, Nat.and_one_is_mod, wrapI _ (by omega) (by omega)]
  omega
theorem w_ref1_half (a b : Int) (hb : 0 < b) (ha : -8000000000000000000 ≤ a ∧ a ≤ 8000000000000000000) (hb' : b ≤ 8000000000000000000) : call A 128 [iv a, iv b] [] = some (iv (hr a b), []) := by
  refine call_body (af := af128) rfl fnT128 rfl ?_
  obtain ⟨t1, t2⟩ := t_floor a b hb
  have qb := q_bound a b hb 8000000000000000000 ha (by omega)
  have r0 := Int.emod_nonneg a (show b ≠ 0 by omega)
  have r1 := Int.emod_lt_of_pos a hb
  have hb0 : b ≠ 0 := by omega
  obtain ⟨q, hq⟩ : ∃ q, a / b = q := ⟨_, rfl⟩
  obtain ⟨r, hr'⟩ : ∃ r, a % b = r := ⟨_, rfl⟩
  unfold hr
  simp only [hq, hr'] at t1 t2 qb r0 r1 ⊢
  have a1 := and_one q
  by_cases h : a.tmod b < 0
  · obtain ⟨e1, e2⟩ := t1 h
    have e3 : a.tdiv b = q + 1 := by omega
    have e4 : a.tmod b = r - b := by omega
    rw [e4] at h
    have e5 : q + 1 - 1 = q := by omega
    have e6 : r - b + b = r := by omega
    by_cases h1 : r > b - r
    · simp -implicitDefEqProofs [af128, hb0, e3, e4, h, e5, e6, wrapI q (by omega) (by omega), wrapI r (by omega) (by omega), wrapI (b - r) (by omega) (by omega), wrapI (q + 1) (by omega) (by omega), h1]
    · by_cases h2 : r = b - r
      · by_cases h3 : q % 2 = 1
        · simp -implicitDefEqProofs [af128, hb0, e3, e4, h, e5, e6, wrapI q (by omega) (by omega), wrapI r (by omega) (by omega), wrapI (q + 1) (by omega) (by omega), h1, ← h2, h3, a1]
        · simp -implicitDefEqProofs [af128, hb0, e3, e4, h, e5, e6, wrapI q (by omega) (by omega), wrapI r (by omega) (by omega), wrapI (q + 1) (by omega) (by omega), h1, ← h2, h3, a1]
          omega
      · have h2' : (r == b - r) = false := by simpa using h2
        simp -implicitDefEqProofs [af128, hb0, e3, e4, h, e5, e6, wrapI q (by omega) (by omega), wrapI r (by omega) (by omega), wrapI (b - r) (by omega) (by omega), wrapI (q + 1) (by omega) (by omega), h1, h2, h2']
  · obtain ⟨e1, e2⟩ := t2 h
    rw [e2] at h
    by_cases h1 : r > b - r
    · simp -implicitDefEqProofs [af128, hb0, e1, e2, h, wrapI q (by omega) (by omega), wrapI (b - r) (by omega) (by omega), wrapI (q + 1) (by omega) (by omega), h1]
    · by_cases h2 : r = b - r
      · by_cases h3 : q % 2 = 1
        · simp -implicitDefEqProofs [af128, hb0, e1, e2, h, wrapI q (by omega) (by omega), wrapI r (by omega) (by omega), wrapI (q + 1) (by omega) (by omega), h1, ← h2, h3, a1]
        · simp -implicitDefEqProofs [af128, hb0, e1, e2, h, wrapI q (by omega) (by omega), wrapI r (by omega) (by omega), wrapI (q + 1) (by omega) (by omega), h1, ← h2, h3, a1]
          omega
      · have h2' : (r == b - r) = false := by simpa using h2
        simp -implicitDefEqProofs [af128, hb0, e1, e2, h, wrapI q (by omega) (by omega), wrapI (b - r) (by omega) (by omega), wrapI (q + 1) (by omega) (by omega), h1, h2, h2']
theorem w_ref1_Fit (m s : Int) : call A 127 [iv m, iv s] [] = some (.tup [.agg [.int .i64 (fitP m s).1.1, .int .i64 (fitP m s).1.2], iv (fitP m s).2], []) := by
  refine call_body (af := af127) rfl fnT127 rfl ?_
  unfold fitP
  by_cases h1 : m < -1000000000000000000
  · simp -implicitDefEqProofs [af127, h1]
  · by_cases h2 : m > 1000000000000000000
    · simp -implicitDefEqProofs [af127, h1, h2]
    · by_cases h3 : s < 0
      · simp -implicitDefEqProofs [af127, h1, h2, h3]
      · by_cases h4 : s > 8
        · simp -implicitDefEqProofs [af127, h1, h2, h3, h4]
        · rw [if_neg (by omega)]
          obtain ⟨n, rfl⟩ : ∃ n : Nat, s = n := ⟨s.toNat, by omega⟩
          simp only [Int.toNat_natCast]
          have hmin : (if (4 : Int) < n then (4 : Int) else n) = ((min n 4 : Nat) : Int) := by split <;> omega
          simp -implicitDefEqProofs [af127, h1, h2, h3, h4, hmin]
          refine loopW_inv (fun M st => st.tm 0 = iv m ∧ st.tm 1 = iv n ∧ st.tm 4 = .ptr 0 0 ∧ st.ob 0 = some [iv 0, iv 0] ∧
            ((∃ t : Nat, t ≤ min n 4 ∧ M = t + 1 ∧ st.tm 6 = iv t ∧ fitN m n t = fitN m n (min n 4)) ∨ (M = 0 ∧ st.tm 6 = iv (-1) ∧ fitN m n (min n 4) = ((0, 0), 3)))) ?_ (min n 4 + 1) _ ?_
          rotate_left
          · exact ⟨by simp, by simp, by simp, by simp, .inl ⟨min n 4, Nat.le_refl _, rfl, by simp, rfl⟩⟩
          rintro M st ⟨q0, q1, q4, o0, ⟨t, ht, rfl, q6, hF⟩ | ⟨rfl, q6, hF⟩⟩ L hL
          · have hk := hr_range m (n - t) (by omega)
            have hp := w_ref1_power (n - t) (by omega)
            have p1 := pow_le (n - t) 8 (by omega)
            have p0 := pow10_pos (n - t)
            have hc := w_ref1_half m (10 ^ (n - t)) p0 (by omega) (by omega)
            obtain ⟨k, hk'⟩ : ∃ k, hr m (10 ^ (n - t)) = k := ⟨_, rfl⟩
            rw [hk'] at hc hk
            have hf : fitN m n t = if fits9 k then (bareN t k, 0) else (match t with | 0 => ((0, 0), 3) | t + 1 => fitN m n t) := by
              cases t with
              | zero => rw [fitN, show n = n - 0 by omega, hk']
              | succ t => rw [fitN, hk']
            have hsub : (n : Int) - (t : Int) = ((n - t : Nat) : Int) := by omega
            rw [hf] at hF
            by_cases k1 : -1000000000 ≤ k
            · by_cases k2 : k ≤ 1000000000
              · rw [if_pos ⟨k1, k2⟩] at hF
                simp -implicitDefEqProofs [q0, q1, q4, q6, o0, hsub, wrapI ((n - t : Nat) : Int) (by omega) (by omega), hp, hc, k1, k2]
                refine loopW_inv (fun N su => ∃ k' : Int, N ≤ 100 ∧ (-9000000000000000000 ≤ k' ∧ k' ≤ 9000000000000000000) ∧ su.tm 4 = .ptr 0 0 ∧ su.ob 0 = some [iv 0, iv 0] ∧ su.tm 6 = iv N ∧ su.tm 7 = iv k' ∧ bareN N k' = bareN t k) ?_ t _ ?_
                rotate_left
                · exact ⟨k, by omega, by omega, by simp [q4], by simp [o0], by simp [q6], by simp, rfl⟩
                rintro N su ⟨k', hN, hk2, u4, v0, u6, u7, hB⟩ L2 hL2
                have ht := tmod_zero k' 10
                cases N with
                | zero =>
                  simp -implicitDefEqProofs [u4, v0, u6, u7]
                  rw [← hF, ← hB]
                  simp [bareN]
                | succ N =>
                  have hpos : (0 : Int) < N + 1 := by omega
                  by_cases h10 : k'.tmod 10 = 0
                  · have h10' := ht.1 h10
                    have e := tdiv_exact h10'
                    rw [bareN, if_pos h10'] at hB
                    simp -implicitDefEqProofs [u4, v0, u6, u7, h10, hpos, e]
                    refine hL2 N _ (by omega) ⟨k' / 10, by omega, by omega, ?_⟩
                    simp -implicitDefEqProofs [u4, v0, wrapI (k' / 10) (by omega) (by omega), wrapI (N : Int) (by omega) (by omega)]
                    exact hB
                  · have h10' := mt ht.2 h10
                    rw [bareN, if_neg h10'] at hB
                    simp -implicitDefEqProofs [u4, v0, u6, u7, h10, hpos]
                    rw [← hF, ← hB]
                    simp
              · rw [if_neg (fun h => k2 h.2)] at hF
                simp -implicitDefEqProofs [q0, q1, q4, q6, o0, hsub, wrapI ((n - t : Nat) : Int) (by omega) (by omega), hp, hc, k1, k2, wrapI ((t : Int) - 1) (by omega) (by omega)]
                cases t with
                | zero => exact hL 0 _ (by omega) ⟨by simp [q0], by simp [q1], by simp [q4], by simp [o0], .inr ⟨rfl, by simp, hF.symm⟩⟩
                | succ t => exact hL (t + 1) _ (by omega) ⟨by simp [q0], by simp [q1], by simp [q4], by simp [o0], .inl ⟨t, by omega, rfl, by simp, hF⟩⟩
            · rw [if_neg (fun h => k1 h.1)] at hF
              simp -implicitDefEqProofs [q0, q1, q4, q6, o0, hsub, wrapI ((n - t : Nat) : Int) (by omega) (by omega), hp, hc, k1, wrapI ((t : Int) - 1) (by omega) (by omega)]
              cases t with
              | zero => exact hL 0 _ (by omega) ⟨by simp [q0], by simp [q1], by simp [q4], by simp [o0], .inr ⟨rfl, by simp, hF.symm⟩⟩
              | succ t => exact hL (t + 1) _ (by omega) ⟨by simp [q0], by simp [q1], by simp [q4], by simp [o0], .inl ⟨t, by omega, rfl, by simp, hF⟩⟩
          · simp -implicitDefEqProofs [q0, q1, q4, q6, o0, hF]
theorem w_ref1_Add (m s m' s' : Int) (h : isD m s = true) (h' : isD m' s' = true) : call A 90 [.agg [.int .i64 m, .int .i64 s], .agg [.int .i64 m', .int .i64 s']] [] = some (encF (addP m s m' s'), []) := by
  refine call_body (af := af90) rfl fnT90 rfl ?_
  have d := isD_iff.1 h
  have d' := isD_iff.1 h'
  obtain ⟨i, hi⟩ : ∃ i : Nat, 4 - s = i := ⟨(4 - s).toNat, by omega⟩
  obtain ⟨j, hj⟩ : ∃ j : Nat, 4 - s' = j := ⟨(4 - s').toNat, by omega⟩
  have ci := w_ref1_power i (by omega)
  have cj := w_ref1_power j (by omega)
  have bi := mul_pow_bound (n := i) (k := 4) d.1 (by omega) (by omega)
  have bj := mul_pow_bound (n := j) (k := 4) d'.1 (by omega) (by omega)
  unfold addP
  rw [hi, hj]
  simp only [Int.toNat_natCast]
  obtain ⟨x, hx⟩ : ∃ x, m * 10 ^ i = x := ⟨_, rfl⟩
  obtain ⟨y, hy⟩ : ∃ y, m' * 10 ^ j = y := ⟨_, rfl⟩
  rw [hx] at bi ⊢
  rw [hy] at bj ⊢
  simp -implicitDefEqProofs [af90, hi, hj, wrapI (i : Int) (by omega) (by omega), wrapI (j : Int) (by omega) (by omega), ci, cj, hx, hy, wrapI x (by omega) (by omega), wrapI y (by omega) (by omega), wrapI (x + y) (by omega) (by omega), w_ref1_Fit]
theorem w_ref1_Sub (m s m' s' : Int) (h : isD m s = true) (h' : isD m' s' = true) : call A 91 [.agg [.int .i64 m, .int .i64 s], .agg [.int .i64 m', .int .i64 s']] [] = some (encF (subP m s m' s'), []) := by
  refine call_body (af := af91) rfl fnT91 rfl ?_
  have d' := isD_iff.1 h'
  have c := w_ref1_Add m s (-m') s' h (isD_neg h')
  simp -implicitDefEqProofs [af91, wrapI (-m') (by omega) (by omega), c, subP]
theorem w_ref1_Mul (m s m' s' : Int) (h : isD m s = true) (h' : isD m' s' = true) : call A 92 [.agg [.int .i64 m, .int .i64 s], .agg [.int .i64 m', .int .i64 s']] [] = some (encF (mulP m s m' s'), []) := by
  refine call_body (af := af92) rfl fnT92 rfl ?_
  have d := isD_iff.1 h
  have d' := isD_iff.1 h'
  have b := mul_bound d.1 d'.1
  have c := w_ref1_Fit (m * m') (s + s')
  simp -implicitDefEqProofs [af92, wrapI (m * m') (by omega) (by omega), wrapI (s + s') (by omega) (by omega), c, mulP]
theorem w_ref1_Div (m s m' s' : Int) (h : isD m s = true) (h' : isD m' s' = true) (h0 : m' ≠ 0) : call A 93 [.agg [.int .i64 m, .int .i64 s], .agg [.int .i64 m', .int .i64 s']] [] = some (encF (divP m s m' s'), []) := by
  refine call_body (af := af93) rfl fnT93 rfl ?_
  have d := isD_iff.1 h
  have d' := isD_iff.1 h'
  obtain ⟨i, hi⟩ : ∃ i : Nat, s' + 4 = i := ⟨(s' + 4).toNat, by omega⟩
  obtain ⟨j, rfl⟩ : ∃ j : Nat, s = j := ⟨s.toNat, by omega⟩
  have ci := w_ref1_power i (by omega)
  have cj := w_ref1_power j (by omega)
  have bi := mul_pow_bound (n := i) (k := 8) d.1 (by omega) (by omega)
  have bj := mul_pow_bound (n := j) (k := 4) d'.1 (by omega) (by omega)
  have pj := pow10_pos j
  unfold divP
  rw [hi]
  simp only [Int.toNat_natCast]
  have y0 : m' * 10 ^ j ≠ 0 := Int.mul_ne_zero h0 (by omega)
  have yn : m' * 10 ^ j < 0 ↔ m' < 0 := by
    constructor
    · intro hlt
      by_cases hm : m' < 0
      · exact hm
      · have := Int.mul_nonneg (show 0 ≤ m' by omega) (show (0 : Int) ≤ 10 ^ j by omega); omega
    · exact fun hm => Int.mul_neg_of_neg_of_pos hm pj
  obtain ⟨x, hx⟩ : ∃ x, m * 10 ^ i = x := ⟨_, rfl⟩
  obtain ⟨y, hy⟩ : ∃ y, m' * 10 ^ j = y := ⟨_, rfl⟩
  rw [hx] at bi ⊢
  rw [hy] at bj y0 yn ⊢
  by_cases hn : m' < 0
  · have hy' := yn.2 hn
    have c1 := w_ref1_half (-x) (-y) (by omega) (by omega) (by omega)
    simp -implicitDefEqProofs [af93, h0, hi, wrapI (i : Int) (by omega) (by omega), ci, cj, hx, hy, wrapI x (by omega) (by omega), wrapI y (by omega) (by omega), hn, hy',
      wrapI (-x) (by omega) (by omega), wrapI (-y) (by omega) (by omega), c1, w_ref1_Fit]
  · have hy' := mt yn.1 hn
    have c1 := w_ref1_half x y (by omega) (by omega) (by omega)
    simp -implicitDefEqProofs [af93, h0, hi, wrapI (i : Int) (by omega) (by omega), ci, cj, hx, hy, wrapI x (by omega) (by omega), wrapI y (by omega) (by omega), hn, hy', c1, w_ref1_Fit]
theorem w_ref1_Cmp (m s m' s' : Int) (h : isD m s = true) (h' : isD m' s' = true) : call A 76 [.agg [.int .i64 m, .int .i64 s], .agg [.int .i64 m', .int .i64 s']] [] = some (iv (ord (tt m s) (tt m' s')), []) := by
  refine call_body (af := af76) rfl fnT76 rfl ?_
  have d := isD_iff.1 h
  have d' := isD_iff.1 h'
  obtain ⟨i, hi⟩ : ∃ i : Nat, 4 - s = i := ⟨(4 - s).toNat, by omega⟩
  obtain ⟨j, hj⟩ : ∃ j : Nat, 4 - s' = j := ⟨(4 - s').toNat, by omega⟩
  have ci := w_ref1_power i (by omega)
  have cj := w_ref1_power j (by omega)
  have bi := mul_pow_bound (n := i) (k := 4) d.1 (by omega) (by omega)
  have bj := mul_pow_bound (n := j) (k := 4) d'.1 (by omega) (by omega)
  unfold tt ord
  rw [hi, hj]
  simp only [Int.toNat_natCast]
  obtain ⟨x, hx⟩ : ∃ x, m * 10 ^ i = x := ⟨_, rfl⟩
  obtain ⟨y, hy⟩ : ∃ y, m' * 10 ^ j = y := ⟨_, rfl⟩
  simp only [hx, hy] at bi bj ⊢
  by_cases h1 : x < y
  · simp -implicitDefEqProofs [af76, hi, hj, wrapI (i : Int) (by omega) (by omega), wrapI (j : Int) (by omega) (by omega), ci, cj, hx, hy, wrapI x (by omega) (by omega), wrapI y (by omega) (by omega), h1]
  · by_cases h2 : y < x
    · simp -implicitDefEqProofs [af76, hi, hj, wrapI (i : Int) (by omega) (by omega), wrapI (j : Int) (by omega) (by omega), ci, cj, hx, hy, wrapI x (by omega) (by omega), wrapI y (by omega) (by omega), h1, h2]
    · simp -implicitDefEqProofs [af76, hi, hj, wrapI (i : Int) (by omega) (by omega), wrapI (j : Int) (by omega) (by omega), ci, cj, hx, hy, wrapI x (by omega) (by omega), wrapI y (by omega) (by omega), h1, h2]
theorem w_ref1_Floor (m s : Int) (h : isD m s = true) : call A 96 [.agg [.int .i64 m, .int .i64 s]] [] = some (.agg [.int .i64 (m / 10 ^ s.toNat), .int .i64 0], []) := by
  refine call_body (af := af96) rfl fnT96 rfl ?_
  have d := isD_iff.1 h
  obtain ⟨n, rfl⟩ : ∃ n : Nat, s = n := ⟨s.toNat, by omega⟩
  have p := pow10_pos n
  have c := w_ref1_power n (by omega)
  have qb := q_bound m (10 ^ n) p 1000000000 d.1 (by omega)
  have pz : (10 : Int) ^ n ≠ 0 := by omega
  obtain ⟨t1, t2⟩ := t_floor m (10 ^ n) p
  simp only [Int.toNat_natCast]
  obtain ⟨P, hP⟩ : ∃ P, (10 : Int) ^ n = P := ⟨_, rfl⟩
  simp only [hP] at p c qb pz t1 t2 ⊢
  by_cases h : m.tmod P < 0
  · obtain ⟨e1, e2⟩ := t1 h
    have e3 : m.tdiv P = m / P + 1 := by omega
    simp -implicitDefEqProofs [af96, c, pz, h, e3, wrapI (m / P + 1) (by omega) (by omega)]
    have e5 : m / P + 1 - 1 = m / P := by omega
    rw [wrapI _ (by omega) (by omega)]
  · obtain ⟨e1, e2⟩ := t2 h
    simp -implicitDefEqProofs [af96, c, pz, h, e1, wrapI (m / P) (by omega) (by omega)]
theorem w_ref1_Ceil (m s : Int) (h : isD m s = true) : call A 97 [.agg [.int .i64 m, .int .i64 s]] [] = some (.agg [.int .i64 (-(-m / 10 ^ s.toNat)), .int .i64 0], []) := by
  refine call_body (af := af97) rfl fnT97 rfl ?_
  have d := isD_iff.1 h
  have c := w_ref1_Floor (-m) s (isD_neg h)
  have b := q_bound (-m) (10 ^ s.toNat) (pow10_pos _) 1000000000 (by omega) (by omega)
  simp -implicitDefEqProofs [af97, c, wrapI (-m) (by omega) (by omega)]
  exact wrapI _ (by omega) (by omega)
end Go.Proofs.YtkmmfenknekcbaaGreat
