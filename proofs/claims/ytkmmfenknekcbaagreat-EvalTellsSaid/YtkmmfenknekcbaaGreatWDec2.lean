/-
  WALKS: package dec: floor, round, bare, Fit, Add, Sub, Mul, Div, Floor, Ceil.
-/
import Derived.Test.YtkmmfenknekcbaaGreatWDec1
import Derived.Test.YtkmmfenknekcbaaGreatDsDec
set_option linter.unusedSimpArgs false
set_option linter.unusedVariables false
set_option maxRecDepth 100000
namespace Go.Proofs.YtkmmfenknekcbaaGreat
open Go Go.Ae Go.Ds
theorem w_dec_floor (a b : Int) (hb : 0 < b) (ha : -9000000000000000000 ≤ a ∧ a ≤ 9000000000000000000) (hb' : b ≤ 9000000000000000000) : call A 139 [iv a, iv b] [] = some (.tup [iv (a / b), iv (a % b)], []) := by
  refine call_body (af := af139) rfl fnT139 rfl ?_
  obtain ⟨t1, t2⟩ := t_floor a b hb
  have qb := q_bound a b hb 9000000000000000000 ha (by omega)
  have r0 := Int.emod_nonneg a (show b ≠ 0 by omega)
  have r1 := Int.emod_lt_of_pos a hb
  have hb0 : b ≠ 0 := by omega
  by_cases h : a.tmod b < 0
  · obtain ⟨e1, e2⟩ := t1 h
    have e3 : a.tdiv b = a / b + 1 := by omega
    have e4 : a.tmod b = a % b - b := by omega
    rw [e4] at h
    simp -implicitDefEqProofs [af139, hb0, e3, e4, h]
    rw [wrapI (a / b + 1) (by omega) (by omega), wrapI _ (by omega) (by omega), wrapI _ (by omega) (by omega)]
    exact ⟨by omega, by omega⟩
  · obtain ⟨e1, e2⟩ := t2 h
    rw [e2] at h
    simp -implicitDefEqProofs [af139, hb0, e1, e2, h]
    exact wrapI _ (by omega) (by omega)
theorem w_dec_round (a b : Int) (hb : 0 < b) (ha : -8000000000000000000 ≤ a ∧ a ≤ 8000000000000000000) (hb' : b ≤ 8000000000000000000) : call A 136 [iv a, iv b] [] = some (iv (hr a b), []) := by
  refine call_body (af := af136) rfl fnT136 rfl ?_
  have hf := w_dec_floor a b hb (by omega) (by omega)
  have qb := q_bound a b hb 8000000000000000000 ha (by omega)
  have r0 := Int.emod_nonneg a (show b ≠ 0 by omega)
  have r1 := Int.emod_lt_of_pos a hb
  obtain ⟨q, hq⟩ : ∃ q, a / b = q := ⟨_, rfl⟩
  obtain ⟨r, hr'⟩ : ∃ r, a % b = r := ⟨_, rfl⟩
  unfold hr
  rw [hq, hr'] at hf ⊢
  rw [hq] at qb
  rw [hr'] at r0 r1
  have ht := tmod_zero q 2
  by_cases h1 : r > b - r
  · simp -implicitDefEqProofs [af136, hf, wrapI (b - r) (by omega) (by omega), wrapI (q + 1) (by omega) (by omega), h1]
  · by_cases h2 : r = b - r
    · by_cases h3 : q.tmod 2 = 0
      · have h4 := ht.1 h3
        simp -implicitDefEqProofs [af136, hf, wrapI (b - r) (by omega) (by omega), wrapI r (by omega) (by omega), h1, ← h2, h3, h4]
      · have h4 : q % 2 = 1 := by have := mt ht.2 h3; omega
        simp -implicitDefEqProofs [af136, hf, wrapI (b - r) (by omega) (by omega), wrapI (q + 1) (by omega) (by omega), wrapI r (by omega) (by omega), h1, ← h2, h3, h4]
    · have h2' : (r == b - r) = false := by simpa using h2
      simp -implicitDefEqProofs [af136, hf, wrapI (b - r) (by omega) (by omega), h1, h2, h2']
theorem w_dec_bare (m : Int) (n : Nat) (hm : -9000000000000000000 ≤ m ∧ m ≤ 9000000000000000000) (hn : n ≤ 100) : call A 137 [.agg [.int .i64 m, .int .i64 n]] [] = some (.agg [.int .i64 (bareN n m).1, .int .i64 (bareN n m).2], []) := by
  refine call_body (af := af137) rfl fnT137 rfl ?_
  simp -implicitDefEqProofs [af137]
  refine loopW_inv (fun M st => ∃ (m' : Int), M ≤ 100 ∧ (-9000000000000000000 ≤ m' ∧ m' ≤ 9000000000000000000) ∧ st.tm 1 = .ptr 0 0 ∧ st.tm 2 = .ptr 1 0 ∧ st.ob 0 = some [iv m', iv M] ∧ st.ob 1 = some [iv 0, iv 0] ∧ bareN M m' = bareN n m) ?_ n _ ?_
  rotate_left
  · exact ⟨m, by simp; omega⟩
  rintro M st ⟨m', hM, hm', q1, q2, o0, o1, hr⟩ L hL
  have ht := tmod_zero m' 10
  cases M with
  | zero =>
    simp -implicitDefEqProofs [q1, q2, o0, o1]
    rw [← hr]
    simp [bareN]
  | succ M =>
    have hpos : (0 : Int) < M + 1 := by omega
    by_cases h10 : m'.tmod 10 = 0
    · have h10' := ht.1 h10
      have e := tdiv_exact h10'
      rw [bareN, if_pos h10'] at hr
      simp -implicitDefEqProofs [q1, q2, o0, o1, h10, hpos, e]
      refine hL M _ (by omega) ⟨m' / 10, by omega, by omega, ?_⟩
      simp -implicitDefEqProofs [q1, q2, o1, wrapI (m' / 10) (by omega) (by omega), wrapI (M : Int) (by omega) (by omega)]
      exact hr
    · have h10' := mt ht.2 h10
      rw [bareN, if_neg h10'] at hr
      simp -implicitDefEqProofs [q1, q2, o0, o1, h10, hpos]
      rw [← hr]
      simp
theorem hr_range (m : Int) (n : Nat) (hm : -1000000000000000000 ≤ m ∧ m ≤ 1000000000000000000) : -1000000000000000000 ≤ hr m (10 ^ n) ∧ hr m (10 ^ n) ≤ 1000000000000000000 := by
  have p := pow10_pos n
  have h1 : (1000000000000000000 : Int) * 1 ≤ 1000000000000000000 * 10 ^ n := Int.mul_le_mul_of_nonneg_left (by omega) (by omega)
  exact hr_bound m _ 1000000000000000000 p (by omega) (by omega)
theorem w_dec_Fit (m s : Int) : call A 118 [iv m, iv s] [] = some (.tup [.agg [.int .i64 (fitP m s).1.1, .int .i64 (fitP m s).1.2], iv (fitP m s).2], []) := by
  refine call_body (af := af118) rfl fnT118 rfl ?_
  unfold fitP
  by_cases h1 : m < -1000000000000000000
  · simp -implicitDefEqProofs [af118, h1]
  · by_cases h2 : m > 1000000000000000000
    · simp -implicitDefEqProofs [af118, h1, h2]
    · by_cases h3 : s < 0
      · simp -implicitDefEqProofs [af118, h1, h2, h3]
      · by_cases h4 : s > 8
        · simp -implicitDefEqProofs [af118, h1, h2, h3, h4]
        · rw [if_neg (by omega)]
          obtain ⟨n, rfl⟩ : ∃ n : Nat, s = n := ⟨s.toNat, by omega⟩
          simp only [Int.toNat_natCast]
          have hmin : (if (4 : Int) < n then (4 : Int) else n) = ((min n 4 : Nat) : Int) := by split <;> omega
          simp -implicitDefEqProofs [af118, h1, h2, h3, h4, hmin]
          refine loopW_inv (fun M st => st.tm 0 = iv m ∧ st.tm 1 = iv n ∧ st.tm 4 = .ptr 0 0 ∧ st.ob 0 = some [iv 0, iv 0] ∧
            ((∃ t : Nat, t ≤ min n 4 ∧ M = t + 1 ∧ st.tm 6 = iv t ∧ fitN m n t = fitN m n (min n 4)) ∨ (M = 0 ∧ st.tm 6 = iv (-1) ∧ fitN m n (min n 4) = ((0, 0), 3)))) ?_ (min n 4 + 1) _ ?_
          rotate_left
          · exact ⟨by simp, by simp, by simp, by simp, .inl ⟨min n 4, Nat.le_refl _, rfl, by simp, rfl⟩⟩
          rintro M st ⟨q0, q1, q4, o0, ⟨t, ht, rfl, q6, hF⟩ | ⟨rfl, q6, hF⟩⟩ L hL
          · have hk := hr_range m (n - t) (by omega)
            have hp := w_dec_power (n - t) (by omega)
            have p1 := pow_le (n - t) 8 (by omega)
            have p0 := pow10_pos (n - t)
            have hc := w_dec_round m (10 ^ (n - t)) p0 (by omega) (by omega)
            obtain ⟨k, hk'⟩ : ∃ k, hr m (10 ^ (n - t)) = k := ⟨_, rfl⟩
            rw [hk'] at hc hk
            have hf : fitN m n t = if fits9 k then (bareN t k, 0) else (match t with | 0 => ((0, 0), 3) | t + 1 => fitN m n t) := by
              cases t with
              | zero => rw [fitN, show n = n - 0 by omega, hk']
              | succ t => rw [fitN, hk']
            have hsub : (n : Int) - (t : Int) = ((n - t : Nat) : Int) := by omega
            rw [hf] at hF
            by_cases k1 : -1000000000 ≤ k
            · by_cases k2 : k ≤ 1000000000
              · rw [if_pos ⟨k1, k2⟩] at hF
                have hb := w_dec_bare k t (by omega) (by omega)
                simp -implicitDefEqProofs [q0, q1, q4, q6, o0, hsub, wrapI ((n - t : Nat) : Int) (by omega) (by omega), hp, hc, k1, k2, hb]
                rw [← hF]
                simp
              · rw [if_neg (fun h => k2 h.2)] at hF
                simp -implicitDefEqProofs [q0, q1, q4, q6, o0, hsub, wrapI ((n - t : Nat) : Int) (by omega) (by omega), hp, hc, k1, k2, wrapI ((t : Int) - 1) (by omega) (by omega)]
                cases t with
                | zero => exact hL 0 _ (by omega) ⟨by simp [q0], by simp [q1], by simp [q4], by simp [o0], .inr ⟨rfl, by simp, hF.symm⟩⟩
                | succ t => exact hL (t + 1) _ (by omega) ⟨by simp [q0], by simp [q1], by simp [q4], by simp [o0], .inl ⟨t, by omega, rfl, by simp, hF⟩⟩
            · rw [if_neg (fun h => k1 h.1)] at hF
              simp -implicitDefEqProofs [q0, q1, q4, q6, o0, hsub, wrapI ((n - t : Nat) : Int) (by omega) (by omega), hp, hc, k1, wrapI ((t : Int) - 1) (by omega) (by omega)]
              cases t with
              | zero => exact hL 0 _ (by omega) ⟨by simp [q0], by simp [q1], by simp [q4], by simp [o0], .inr ⟨rfl, by simp, hF.symm⟩⟩
              | succ t => exact hL (t + 1) _ (by omega) ⟨by simp [q0], by simp [q1], by simp [q4], by simp [o0], .inl ⟨t, by omega, rfl, by simp, hF⟩⟩
          · simp -implicitDefEqProofs [q0, q1, q4, q6, o0, hF]
/-- A decimal and an error, as they come back. -/
abbrev encF (r : (Int × Int) × Int) : AV := .tup [.agg [.int .i64 r.1.1, .int .i64 r.1.2], iv r.2]
theorem w_dec_Add (m s m' s' : Int) (h : isD m s = true) (h' : isD m' s' = true) : call A 82 [.agg [.int .i64 m, .int .i64 s], .agg [.int .i64 m', .int .i64 s']] [] = some (encF (addP m s m' s'), []) := by
  refine call_body (af := af82) rfl fnT82 rfl ?_
  have d := isD_iff.1 h
  have d' := isD_iff.1 h'
  obtain ⟨S, hS⟩ : ∃ S : Nat, (if s' > s then s' else s) = S := ⟨(if s' > s then s' else s).toNat, by split <;> omega⟩
  have hS1 : s ≤ S := by rw [← hS]; split <;> omega
  have hS2 : s' ≤ S := by rw [← hS]; split <;> omega
  have hS4 : S ≤ 4 := by have : (S : Int) ≤ 4 := by rw [← hS]; split <;> omega
                         omega
  have c1 := w_dec_scaled m s S d.1 ⟨d.2.1.1, hS1⟩ (by omega)
  have c2 := w_dec_scaled m' s' S d'.1 ⟨d'.2.1.1, hS2⟩ (by omega)
  have e := addP_max h h' S hS1 hS2 hS4
  have b1 := mul_pow_bound (n := ((S : Int) - s).toNat) (k := 4) d.1 (by omega) (by omega)
  have b2 := mul_pow_bound (n := ((S : Int) - s').toNat) (k := 4) d'.1 (by omega) (by omega)
  generalize m * 10 ^ ((S : Int) - s).toNat = x at *
  generalize m' * 10 ^ ((S : Int) - s').toNat = y at *
  have c3 := w_dec_Fit (x + y) S
  rw [e] at c3
  simp only [gt_iff_lt] at hS
  simp -implicitDefEqProofs [af82, hS, c1, c2, wrapI (x + y) (by omega) (by omega), c3]
theorem isD_neg {m s : Int} (h : isD m s = true) : isD (-m) s = true := by
  rw [isD_iff] at h ⊢
  refine ⟨by omega, h.2.1, h.2.2.imp id fun h => by omega⟩
def subP (m s m' s' : Int) : (Int × Int) × Int := addP m s (-m') s'
theorem w_dec_Sub (m s m' s' : Int) (h : isD m s = true) (h' : isD m' s' = true) : call A 119 [.agg [.int .i64 m, .int .i64 s], .agg [.int .i64 m', .int .i64 s']] [] = some (encF (subP m s m' s'), []) := by
  refine call_body (af := af119) rfl fnT119 rfl ?_
  have d' := isD_iff.1 h'
  have c := w_dec_Add m s (-m') s' h (isD_neg h')
  simp -implicitDefEqProofs [af119, wrapI (-m') (by omega) (by omega), c, subP]
theorem mul_bound {a b c d : Int} (ha : -c ≤ a ∧ a ≤ c) (hb : -d ≤ b ∧ b ≤ d) : -(c * d) ≤ a * b ∧ a * b ≤ c * d := by
  have hc : 0 ≤ c := by omega
  have hd : 0 ≤ d := by omega
  by_cases h0 : 0 ≤ b
  · have h1 : a * b ≤ c * b := Int.mul_le_mul_of_nonneg_right ha.2 h0
    have h2 : -c * b ≤ a * b := Int.mul_le_mul_of_nonneg_right ha.1 h0
    have h3 : c * b ≤ c * d := Int.mul_le_mul_of_nonneg_left hb.2 hc
    rw [Int.neg_mul] at h2
    omega
  · have h1 : a * -b ≤ c * -b := Int.mul_le_mul_of_nonneg_right ha.2 (by omega)
    have h2 : -c * -b ≤ a * -b := Int.mul_le_mul_of_nonneg_right ha.1 (by omega)
    have h3 : c * -b ≤ c * d := Int.mul_le_mul_of_nonneg_left (by omega) hc
    have e1 : a * -b = -(a * b) := Int.mul_neg ..
    have e2 : c * -b = -(c * b) := Int.mul_neg ..
    rw [Int.neg_mul, e1, e2] at h2
    rw [e1, e2] at h1
    rw [e2] at h3
    omega
theorem w_dec_Mul (m s m' s' : Int) (h : isD m s = true) (h' : isD m' s' = true) : call A 120 [.agg [.int .i64 m, .int .i64 s], .agg [.int .i64 m', .int .i64 s']] [] = some (encF (mulP m s m' s'), []) := by
  refine call_body (af := af120) rfl fnT120 rfl ?_
  have d := isD_iff.1 h
  have d' := isD_iff.1 h'
  have b := mul_bound d.1 d'.1
  have c := w_dec_Fit (m * m') (s + s')
  simp -implicitDefEqProofs [af120, wrapI (m * m') (by omega) (by omega), wrapI (s + s') (by omega) (by omega), c, mulP]
theorem w_dec_Div (m s m' s' : Int) (h : isD m s = true) (h' : isD m' s' = true) (h0 : m' ≠ 0) : call A 121 [.agg [.int .i64 m, .int .i64 s], .agg [.int .i64 m', .int .i64 s']] [] = some (encF (divP m s m' s'), []) := by
  refine call_body (af := af121) rfl fnT121 rfl ?_
  have d := isD_iff.1 h
  have d' := isD_iff.1 h'
  obtain ⟨k, hk⟩ : ∃ k : Int, (if s' < s then s' else s) = k := ⟨_, rfl⟩
  have k0 : 0 ≤ k := by rw [← hk]; split <;> omega
  have k1 : k ≤ s := by rw [← hk]; split <;> omega
  have k2 : k ≤ s' := by rw [← hk]; split <;> omega
  have e := divP_min h h' k k0 k1 k2 h0
  obtain ⟨i, hi⟩ : ∃ i : Nat, 4 + s' - k = i := ⟨(4 + s' - k).toNat, by omega⟩
  obtain ⟨j, hj⟩ : ∃ j : Nat, s - k = j := ⟨(s - k).toNat, by omega⟩
  have ci := w_dec_power i (by omega)
  have cj := w_dec_power j (by omega)
  have bi := mul_pow_bound (n := i) (k := 8) d.1 (by omega) (by omega)
  have bj := mul_pow_bound (n := j) (k := 4) d'.1 (by omega) (by omega)
  rw [hi, hj] at e
  simp only [Int.toNat_natCast] at e
  have pj := pow10_pos j
  have q1 := pow_le i 8 (by omega)
  have q2 := pow_le j 4 (by omega)
  have y0 : m' * 10 ^ j ≠ 0 := Int.mul_ne_zero h0 (by omega)
  obtain ⟨x, hx⟩ : ∃ x, m * 10 ^ i = x := ⟨_, rfl⟩
  obtain ⟨y, hy⟩ : ∃ y, m' * 10 ^ j = y := ⟨_, rfl⟩
  rw [hx] at e bi
  rw [hy] at e bj y0
  by_cases hn : y < 0
  · rw [if_pos hn] at e
    have c1 := w_dec_round (-x) (-y) (by omega) (by omega) (by omega)
    have c2 := w_dec_Fit (hr (-x) (-y)) 4
    rw [e] at c2
    simp -implicitDefEqProofs [af121, h0, hk, wrapI (4 + s') (by omega) (by omega), hi, hj, wrapI (i : Int) (by omega) (by omega), wrapI (j : Int) (by omega) (by omega), ci, cj, hx, hy, wrapI x (by omega) (by omega), wrapI y (by omega) (by omega), hn,
      wrapI (-x) (by omega) (by omega), wrapI (-y) (by omega) (by omega), c1, c2]
  · rw [if_neg hn] at e
    have c1 := w_dec_round x y (by omega) (by omega) (by omega)
    have c2 := w_dec_Fit (hr x y) 4
    rw [e] at c2
    simp -implicitDefEqProofs [af121, h0, hk, wrapI (4 + s') (by omega) (by omega), hi, hj, wrapI (i : Int) (by omega) (by omega), wrapI (j : Int) (by omega) (by omega), ci, cj, hx, hy, wrapI x (by omega) (by omega), wrapI y (by omega) (by omega), hn, c1, c2]
theorem w_dec_Floor (m s : Int) (h : isD m s = true) : call A 124 [.agg [.int .i64 m, .int .i64 s]] [] = some (.agg [.int .i64 (m / 10 ^ s.toNat), .int .i64 0], []) := by
  refine call_body (af := af124) rfl fnT124 rfl ?_
  have d := isD_iff.1 h
  obtain ⟨n, rfl⟩ : ∃ n : Nat, s = n := ⟨s.toNat, by omega⟩
  have p := pow10_pos n
  have p1 := pow_le n 4 (by omega)
  have c := w_dec_power n (by omega)
  have c2 := w_dec_floor m (10 ^ n) p (by omega) (by omega)
  simp -implicitDefEqProofs [af124, c, c2]
theorem w_dec_Ceil (m s : Int) (h : isD m s = true) : call A 125 [.agg [.int .i64 m, .int .i64 s]] [] = some (.agg [.int .i64 (-(-m / 10 ^ s.toNat)), .int .i64 0], []) := by
  refine call_body (af := af125) rfl fnT125 rfl ?_
  have d := isD_iff.1 h
  obtain ⟨n, rfl⟩ : ∃ n : Nat, s = n := ⟨s.toNat, by omega⟩
  have p := pow10_pos n
  have p1 := pow_le n 4 (by omega)
  have c := w_dec_power n (by omega)
  have c2 := w_dec_floor (-m) (10 ^ n) p (by omega) (by omega)
  have b := q_bound (-m) (10 ^ n) p 1000000000 (by omega) (by omega)
  simp -implicitDefEqProofs [af125, c, c2, wrapI (-m) (by omega) (by omega)]
  exact wrapI _ (by omega) (by omega)
end Go.Proofs.YtkmmfenknekcbaaGreat
