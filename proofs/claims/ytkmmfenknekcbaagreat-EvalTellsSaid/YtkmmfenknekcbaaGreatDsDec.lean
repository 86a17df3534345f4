/-
  DECIMALS, WITHOUT A PROGRAM: rounding, fitting, adding, dividing; plain laws.
-/
import Derived.Test.YtkmmfenknekcbaaGreatDsDat
set_option linter.unusedSimpArgs false
set_option linter.unusedVariables false
namespace Go.Ds
open Go.Ae
/-- n by d, above nought, half to even. -/
def hr (n d : Int) : Int := if n % d > d - n % d ∨ (n % d = d - n % d ∧ n / d % 2 ≠ 0) then n / d + 1 else n / d
/-- Without noughts at its end. -/
def bareN : Nat → Int → Int × Int
  | 0, m => (m, 0)
  | n + 1, m => if m % 10 = 0 then bareN n (m / 10) else (m, ((n + 1 : Nat) : Int))
def fits9 (n : Int) : Prop := -1000000000 ≤ n ∧ n ≤ 1000000000
instance (n : Int) : Decidable (fits9 n) := by unfold fits9; infer_instance
/-- The first scale, from t downwards, at which it fits. -/
def fitN (m : Int) (s : Nat) : Nat → (Int × Int) × Int
  | 0 => if fits9 (hr m (10 ^ s)) then (bareN 0 (hr m (10 ^ s)), 0) else ((0, 0), 3)
  | t + 1 => if fits9 (hr m (10 ^ (s - (t + 1)))) then (bareN (t + 1) (hr m (10 ^ (s - (t + 1)))), 0) else fitN m s t
def fitP (m s : Int) : (Int × Int) × Int := if m < -1000000000000000000 ∨ m > 1000000000000000000 ∨ s < 0 ∨ s > 8 then ((0, 0), 1) else fitN m s.toNat (min s.toNat 4)

theorem hr_one (n : Int) : hr n 1 = n := by unfold hr; simp
theorem emod_scale (n d c : Int) (hc : 0 < c) : n * c % (d * c) = n % d * c := by
  rw [Int.mul_comm n c, Int.mul_comm d c, Int.mul_emod_mul_of_pos _ _ hc, Int.mul_comm]
theorem ediv_scale (n d c : Int) (hc : 0 < c) : n * c / (d * c) = n / d := by
  rw [Int.mul_comm n c, Int.mul_comm d c, Int.mul_ediv_mul_of_pos _ _ hc]
theorem hr_scale (n d c : Int) (hd : 0 < d) (hc : 0 < c) : hr (n * c) (d * c) = hr n d := by
  have h1 := ediv_scale n d c hc
  have h2 := emod_scale n d c hc
  have e1 : (n % d * c > d * c - n % d * c) ↔ (n % d > d - n % d) := by
    rw [← Int.sub_mul]
    exact Int.mul_lt_mul_right hc
  have e2 : (n % d * c = d * c - n % d * c) ↔ (n % d = d - n % d) := by
    rw [← Int.sub_mul]
    exact Int.mul_eq_mul_right_iff (by omega)
  unfold hr
  rw [h1, h2]
  simp only [e1, e2]
/-- What is a multiple is not rounded. -/
theorem hr_exact (n d : Int) (hd : 0 < d) : hr (n * d) d = n := by
  have := hr_scale n 1 d (by omega) hd
  rw [Int.one_mul] at this
  rw [this, hr_one]
theorem hr_bound (n d b : Int) (hd : 0 < d) (h : -(b * d) ≤ n) (h' : n ≤ b * d) : -b ≤ hr n d ∧ hr n d ≤ b := by
  have e := Int.mul_ediv_add_emod n d
  have r0 := Int.emod_nonneg n (show d ≠ 0 by omega)
  have r1 := Int.emod_lt_of_pos n hd
  have q0 : -b ≤ n / d := by
    rw [Int.le_ediv_iff_mul_le hd]
    rw [Int.neg_mul]; exact h
  have q1 : n / d ≤ b := by
    have : n / d ≤ b * d / d := Int.ediv_le_ediv hd h'
    rwa [Int.mul_ediv_cancel _ (by omega)] at this
  unfold hr
  split
  · rename_i hc
    refine ⟨by omega, ?_⟩
    by_cases hq : n / d = b
    · exfalso
      have : d * (n / d) = b * d := by rw [hq, Int.mul_comm]
      omega
    · omega
  · exact ⟨q0, q1⟩
theorem bareN_scale : ∀ (j t : Nat) (m : Int), bareN (t + j) (m * 10 ^ j) = bareN t m
  | 0, t, m => by simp
  | j + 1, t, m => by
    have h : m * 10 ^ (j + 1) = m * 10 ^ j * 10 := by rw [Int.pow_succ, Int.mul_assoc]
    rw [h, ← Nat.add_assoc, bareN, if_pos (Int.mul_emod_left _ _), Int.mul_ediv_cancel _ (by omega)]
    exact bareN_scale j t m
theorem bareN_zero : ∀ t : Nat, bareN t 0 = (0, 0)
  | 0 => rfl
  | t + 1 => by rw [bareN, if_pos (by rfl)]; exact bareN_zero t
theorem pow10_pos (n : Nat) : (0 : Int) < 10 ^ n := Int.pow_pos (by omega)
theorem pow10_add (a b : Nat) : (10 : Int) ^ (a + b) = 10 ^ a * 10 ^ b := Int.pow_add ..
/-- Noughts more at the end change nothing of what it fits to. -/
theorem fitN_down (m : Int) (s j : Nat) : ∀ t : Nat, t ≤ s → fitN (m * 10 ^ j) (s + j) t = fitN m s t
  | 0, _ => by
    have := hr_scale m (10 ^ s) (10 ^ j) (pow10_pos s) (pow10_pos j)
    rw [fitN, fitN, pow10_add, this]
  | t + 1, h => by
    have := hr_scale m (10 ^ (s - (t + 1))) (10 ^ j) (pow10_pos _) (pow10_pos j)
    have e : s + j - (t + 1) = s - (t + 1) + j := by omega
    rw [fitN, fitN, e, pow10_add, this, fitN_down m s j t (by omega)]
theorem fitN_pow (m : Int) (s j k : Nat) (hk : k ≤ j) : fitN (m * 10 ^ j) (s + j) (s + k) = fitN m s s := by
  induction k with
  | zero => exact fitN_down m s j s (Nat.le_refl _)
  | succ k ih =>
    rw [show s + (k + 1) = s + k + 1 by omega, fitN]
    have e : m * 10 ^ j = m * 10 ^ (k + 1) * 10 ^ (j - (k + 1)) := by rw [Int.mul_assoc, ← pow10_add, show k + 1 + (j - (k + 1)) = j by omega]
    have h1 : hr (m * 10 ^ j) (10 ^ (s + j - (s + k + 1))) = m * 10 ^ (k + 1) := by
      rw [show s + j - (s + k + 1) = j - (k + 1) by omega, e]
      exact hr_exact _ _ (pow10_pos _)
    rw [h1]
    split
    · rename_i hf
      have hp := pow10_pos (k + 1)
      have hm : fits9 m := by
        unfold fits9 at hf ⊢
        have h10 : (1 : Int) ≤ 10 ^ (k + 1) := by omega
        constructor
        · by_cases h0 : 0 ≤ m
          · omega
          · have : m * 10 ^ (k + 1) ≤ m * 1 := Int.mul_le_mul_of_nonpos_left (by omega) h10
            omega
        · by_cases h0 : m ≤ 0
          · omega
          · have : m * 1 ≤ m * 10 ^ (k + 1) := Int.mul_le_mul_of_nonneg_left h10 (by omega)
            omega
      rw [show s + k + 1 = s + (k + 1) by omega, bareN_scale]
      cases s with
      | zero => rw [fitN]; simp [hr_one, hm]
      | succ s => rw [fitN]; simp [hr_one, hm]
    · exact ih (by omega)
/-- At scale 4 as at its own. -/
theorem fitP_scale (m : Int) (s : Nat) (hs : s ≤ 4) (hm : -100000000000000 ≤ m ∧ m ≤ 100000000000000) : fitP (m * 10 ^ (4 - s)) 4 = fitP m s := by
  have hp : (10 : Int) ^ (4 - s) ≤ 10000 := by
    have : (10 : Int) ^ (4 - s) ≤ 10 ^ 4 := by exact_mod_cast Nat.pow_le_pow_right (by omega : 0 < 10) (by omega : 4 - s ≤ 4)
    omega
  have hp0 := pow10_pos (4 - s)
  have h1 : m * 10 ^ (4 - s) ≤ 100000000000000 * 10000 := by
    have h2 : m * 10 ^ (4 - s) ≤ 100000000000000 * 10 ^ (4 - s) := Int.mul_le_mul_of_nonneg_right hm.2 (by omega)
    omega
  have h2 : -(100000000000000 * 10000) ≤ m * 10 ^ (4 - s) := by
    have h2 : -100000000000000 * 10 ^ (4 - s) ≤ m * 10 ^ (4 - s) := Int.mul_le_mul_of_nonneg_right hm.1 (by omega)
    omega
  unfold fitP
  rw [if_neg (by omega), if_neg (by omega)]
  have := fitN_pow m s (4 - s) (4 - s) (Nat.le_refl _)
  rw [show s + (4 - s) = 4 by omega] at this
  simp only [show (4 : Int).toNat = 4 from rfl, Nat.min_self, Int.toNat_natCast, Nat.min_eq_left hs]
  exact this
def addP (m s m' s' : Int) : (Int × Int) × Int := fitP (m * 10 ^ (4 - s).toNat + m' * 10 ^ (4 - s').toNat) 4
def mulP (m s m' s' : Int) : (Int × Int) × Int := fitP (m * m') (s + s')
/-- The quotient, m' other than nought. -/
def divP (m s m' s' : Int) : (Int × Int) × Int := if m' < 0 then fitP (hr (-(m * 10 ^ (s' + 4).toNat)) (-(m' * 10 ^ s.toNat))) 4 else fitP (hr (m * 10 ^ (s' + 4).toNat) (m' * 10 ^ s.toNat)) 4
/-- Go's quotient and rest, by the greatest whole number. -/
theorem t_floor (a b : Int) (hb : 0 < b) : (a.tmod b < 0 → a.tdiv b - 1 = a / b ∧ a.tmod b + b = a % b) ∧ (¬ a.tmod b < 0 → a.tdiv b = a / b ∧ a.tmod b = a % b) := by
  have e := Int.mul_tdiv_add_tmod a b
  have h1 : a.tmod b < b := Int.tmod_lt_of_pos a hb
  have h2 : -b < a.tmod b := by
    have := Int.lt_tmod_of_pos a hb
    omega
  constructor
  · intro h
    have := (Int.ediv_emod_unique (a := a) (b := b) (r := a.tmod b + b) (q := a.tdiv b - 1) hb).2 ⟨by rw [Int.mul_sub]; omega, by omega, by omega⟩
    exact ⟨this.1.symm, this.2.symm⟩
  · intro h
    have := (Int.ediv_emod_unique (a := a) (b := b) (r := a.tmod b) (q := a.tdiv b) hb).2 ⟨by omega, by omega, by omega⟩
    exact ⟨this.1.symm, this.2.symm⟩
theorem tmod_zero (a b : Int) : a.tmod b = 0 ↔ a % b = 0 := by
  rw [← Int.dvd_iff_tmod_eq_zero, ← Int.dvd_iff_emod_eq_zero]
theorem tdiv_exact {a b : Int} (h : a % b = 0) : a.tdiv b = a / b := Int.tdiv_eq_ediv_of_dvd (Int.dvd_of_emod_eq_zero h)
theorem q_bound (a b : Int) (hb : 0 < b) (c : Int) (h : -c ≤ a ∧ a ≤ c) (hc : 0 ≤ c) : -c ≤ a / b ∧ a / b ≤ c := by
  have e := Int.mul_ediv_add_emod a b
  have r0 := Int.emod_nonneg a (show b ≠ 0 by omega)
  have r1 := Int.emod_lt_of_pos a hb
  constructor
  · rw [Int.le_ediv_iff_mul_le hb]
    have : -c * b ≤ -c * 1 := Int.mul_le_mul_of_nonpos_left (by omega) (by omega)
    omega
  · rw [Int.ediv_le_iff_le_mul hb]
    have : c * 1 ≤ c * b := Int.mul_le_mul_of_nonneg_left (by omega) hc
    omega
theorem pow_le (n m : Nat) (h : n ≤ m) : (10 : Int) ^ n ≤ 10 ^ m := by exact_mod_cast Nat.pow_le_pow_right (by omega : 0 < 10) h
theorem mul_pow_bound {m b : Int} {n k : Nat} (hm : -b ≤ m ∧ m ≤ b) (hb : 0 ≤ b) (hn : n ≤ k) : -(b * 10 ^ k) ≤ m * 10 ^ n ∧ m * 10 ^ n ≤ b * 10 ^ k := by
  have p1 := pow_le n k hn
  have p0 := pow10_pos n
  have h1 : m * 10 ^ n ≤ b * 10 ^ n := Int.mul_le_mul_of_nonneg_right hm.2 (by omega)
  have h2 : -b * 10 ^ n ≤ m * 10 ^ n := Int.mul_le_mul_of_nonneg_right hm.1 (by omega)
  have h3 : b * 10 ^ n ≤ b * 10 ^ k := Int.mul_le_mul_of_nonneg_left p1 hb
  rw [Int.neg_mul] at h2
  omega
theorem isD_iff {m s : Int} : isD m s = true ↔ (-1000000000 ≤ m ∧ m ≤ 1000000000) ∧ (0 ≤ s ∧ s ≤ 4) ∧ (s = 0 ∨ m % 10 ≠ 0) := by
  have := tmod_zero m 10
  simp only [isD, Bool.and_eq_true, Bool.or_eq_true, decide_eq_true_eq, ne_eq, this]
  constructor
  · rintro ⟨⟨⟨⟨a, b⟩, c⟩, d⟩, e⟩; exact ⟨⟨a, b⟩, ⟨c, d⟩, e⟩
  · rintro ⟨⟨a, b⟩, ⟨c, d⟩, e⟩; exact ⟨⟨⟨⟨a, b⟩, c⟩, d⟩, e⟩
/-- What is fit may be. -/
theorem bareN_isD : ∀ (t : Nat) (m : Int), t ≤ 4 → fits9 m → isD (bareN t m).1 (bareN t m).2 = true
  | 0, m, _, h => isD_iff.2 ⟨h, by simp [bareN], .inl rfl⟩
  | t + 1, m, ht, h => by
    rw [bareN]
    split
    · exact bareN_isD t _ (by omega) (by unfold fits9 at h ⊢; omega)
    · rename_i h10
      exact isD_iff.2 ⟨h, ⟨by simp only; omega, by simp only; omega⟩, .inr h10⟩
theorem fitN_isD (m : Int) (s : Nat) : ∀ t : Nat, t ≤ 4 → (fitN m s t).2 = 0 ∧ isD (fitN m s t).1.1 (fitN m s t).1.2 = true ∨ (fitN m s t) = ((0, 0), 3)
  | 0, _ => by
    rw [fitN]
    split
    · rename_i h; exact .inl ⟨rfl, bareN_isD 0 _ (by omega) h⟩
    · exact .inr rfl
  | t + 1, ht => by
    rw [fitN]
    split
    · rename_i h; exact .inl ⟨rfl, bareN_isD (t + 1) _ ht h⟩
    · exact fitN_isD m s t (by omega)
theorem fitP_isD (m s : Int) : ((fitP m s).2 = 0 ∧ isD (fitP m s).1.1 (fitP m s).1.2 = true) ∨ fitP m s = ((0, 0), 3) ∨ fitP m s = ((0, 0), 1) := by
  unfold fitP
  split
  · exact .inr (.inr rfl)
  · exact (fitN_isD m s.toNat _ (Nat.min_le_right _ _)).imp id .inl
theorem isD_zero : isD 0 0 = true := by decide
/-- A sum at the greater scale of the two. -/
theorem addP_max {m s m' s' : Int} (h : isD m s = true) (h' : isD m' s' = true) (S : Nat) (hS : s ≤ S) (hS' : s' ≤ S) (h4 : S ≤ 4) : fitP (m * 10 ^ ((S : Int) - s).toNat + m' * 10 ^ ((S : Int) - s').toNat) S = addP m s m' s' := by
  rw [isD_iff] at h h'
  have e : ∀ t : Int, 0 ≤ t → t ≤ S → (4 - t).toNat = ((S : Int) - t).toNat + (4 - S) := fun t _ _ => by omega
  unfold addP
  rw [e s h.2.1.1 hS, e s' h'.2.1.1 hS', pow10_add, pow10_add, ← Int.mul_assoc, ← Int.mul_assoc, ← Int.add_mul]
  have b1 := mul_pow_bound (n := ((S : Int) - s).toNat) (k := 4) h.1 (by omega) (by omega)
  have b2 := mul_pow_bound (n := ((S : Int) - s').toNat) (k := 4) h'.1 (by omega) (by omega)
  exact (fitP_scale _ S h4 (by omega)).symm
/-- A quotient, by what both scales have in common. -/
theorem divP_min {m s m' s' : Int} (h : isD m s = true) (h' : isD m' s' = true) (k : Int) (hk : 0 ≤ k) (h1 : k ≤ s) (h2 : k ≤ s') (h0 : m' ≠ 0) :
    (if m' * 10 ^ (s - k).toNat < 0 then fitP (hr (-(m * 10 ^ (4 + s' - k).toNat)) (-(m' * 10 ^ (s - k).toNat))) 4 else fitP (hr (m * 10 ^ (4 + s' - k).toNat) (m' * 10 ^ (s - k).toNat)) 4) = divP m s m' s' := by
  have e1 : (s' + 4).toNat = (4 + s' - k).toNat + k.toNat := by omega
  have e2 : s.toNat = (s - k).toNat + k.toNat := by omega
  have p1 := pow10_pos (s - k).toNat
  have p2 := pow10_pos k.toNat
  unfold divP
  rw [e1, e2, pow10_add, pow10_add, ← Int.mul_assoc, ← Int.mul_assoc, ← Int.neg_mul (m * _), ← Int.neg_mul (m' * _)]
  by_cases hm : m' < 0
  · have hneg : m' * 10 ^ (s - k).toNat < 0 := Int.mul_neg_of_neg_of_pos hm p1
    rw [if_pos hneg, if_pos hm, hr_scale _ _ _ (by omega) p2]
  · have hpos : 0 < m' * 10 ^ (s - k).toNat := Int.mul_pos (by omega) p1
    rw [if_neg (by omega), if_neg hm, hr_scale _ _ _ hpos p2]
end Go.Ds
