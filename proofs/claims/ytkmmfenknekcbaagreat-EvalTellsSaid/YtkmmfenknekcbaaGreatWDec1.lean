/-
  WALKS: package dec (power, scaled, Cmp, Is), dossierref1.Is, cmp.Compare.
-/
import Derived.Test.YtkmmfenknekcbaaGreatBase
import Derived.Test.YtkmmfenknekcbaaGreatAeLib
import Derived.Test.YtkmmfenknekcbaaGreatDsDat
set_option linter.unusedSimpArgs false
set_option linter.unusedVariables false
set_option maxRecDepth 100000
namespace Go.Proofs.YtkmmfenknekcbaaGreat
open Go Go.Ae Go.Ds
theorem w_dec_power (n : Nat) (hn : n ≤ 18) : call A 132 [iv n] [] = some (iv (10 ^ n), []) := by
  refine call_body (af := af132) rfl fnT132 rfl ?_
  simp -implicitDefEqProofs [af132]
  refine loopW_inv (fun m st => ∃ i : Nat, i ≤ n ∧ m = n - i ∧ st.tm 4 = iv n ∧ st.tm 5 = iv i ∧ st.tm 3 = iv (10 ^ i)) ?_ n _ ⟨0, by simp⟩
  rintro m st ⟨i, hi, rfl, h4, h5, h3⟩ L hL
  by_cases h : i < n
  · have hp : (10 : Int) ^ i ≤ 10 ^ 17 := by exact_mod_cast Nat.pow_le_pow_right (by omega : 0 < 10) (by omega : i ≤ 17)
    have hp0 : (0 : Int) < 10 ^ i := Int.pow_pos (by omega)
    simp -implicitDefEqProofs [h4, h5, h3, h]
    refine hL (n - (i + 1)) _ (by omega) ⟨i + 1, by omega, rfl, ?_⟩
    simp -implicitDefEqProofs [h4]
    refine ⟨wrapI _ (by omega) (by omega), ?_⟩
    rw [wrapI _ (by omega) (by omega), Int.pow_succ]
  · simp -implicitDefEqProofs [h4, h5, h3, h]
    rw [show i = n by omega]
theorem w_dec_scaled (m s : Int) (t : Nat) (hm : -1000000000 ≤ m ∧ m ≤ 1000000000) (h : 0 ≤ s ∧ s ≤ t) (ht : t ≤ 9) : call A 107 [.agg [.int .i64 m, .int .i64 s], iv t] [] = some (iv (m * 10 ^ ((t : Int) - s).toNat), []) := by
  refine call_body (af := af107) rfl fnT107 rfl ?_
  obtain ⟨d, hd⟩ : ∃ d : Nat, (t : Int) - s = d := ⟨((t : Int) - s).toNat, by omega⟩
  have hp : (10 : Int) ^ d ≤ 10 ^ 9 := by exact_mod_cast Nat.pow_le_pow_right (by omega : 0 < 10) (by omega : d ≤ 9)
  have hp0 : (0 : Int) < 10 ^ d := Int.pow_pos (by omega)
  have h1 : -(1000000000 * 10 ^ 9) ≤ m * 10 ^ d := by
    have h2 : -1000000000 * 10 ^ d ≤ m * 10 ^ d := Int.mul_le_mul_of_nonneg_right hm.1 (by omega)
    omega
  have h2 : m * 10 ^ d ≤ 1000000000 * 10 ^ 9 := by
    have h2 : m * 10 ^ d ≤ 1000000000 * 10 ^ d := Int.mul_le_mul_of_nonneg_right hm.2 (by omega)
    omega
  simp -implicitDefEqProofs [af107, hd, wrapI (d : Int) (by omega) (by omega), w_dec_power d (by omega), wrapI (m * 10 ^ d) (by omega) (by omega)]
theorem w_nanI (a : Int) : call A 106 [iv a] [] = some (bv false, []) := by
  refine call_body (af := af106) rfl fnT106 rfl ?_
  simp -implicitDefEqProofs [af106]
theorem w_nanS (a : Str) : call A 108 [sv a] [] = some (bv false, []) := by
  refine call_body (af := af108) rfl fnT108 rfl ?_
  simp -implicitDefEqProofs [af108]
theorem w_cmpI (a b : Int) : call A 69 [iv a, iv b] [] = some (iv (ord a b), []) := by
  refine call_body (af := af69) rfl fnT69 rfl ?_
  unfold ord
  by_cases h1 : a < b
  · simp -implicitDefEqProofs [af69, w_nanI, h1]
  · by_cases h2 : b < a
    · simp -implicitDefEqProofs [af69, w_nanI, h1, h2]
    · simp -implicitDefEqProofs [af69, w_nanI, h1, h2]
theorem bytes_tri : ∀ a b : Str, bytesLt a b = false → (bytesLt a b || a == b) = !bytesLt b a
  | [], [], _ => rfl
  | [], _ :: _, h => by simp [bytesLt, Op.bytesLess] at h
  | _ :: _, [], _ => by simp [bytesLt, Op.bytesLess]
  | x :: a, y :: b, h => by
    simp only [bytesLt, Op.bytesLess, Bool.or_eq_false_iff, decide_eq_false_iff_not, Bool.and_eq_false_iff] at h
    have ih := bytes_tri a b
    by_cases hxy : x = y
    · subst hxy
      have h2 := ih (by rcases h.2 with h | h; simp at h; exact h)
      have h3 : bytesLt a b = false := by rcases h.2 with h | h; simp at h; exact h
      simp only [h3, Bool.false_or] at h2
      simp only [bytesLt] at h3 h2
      simp [bytesLt, Op.bytesLess, h3, h2]
    · have hlt : y < x := by
        have := h.1
        rw [UInt8.lt_iff_toNat_lt] at this ⊢
        have hne : x.toNat ≠ y.toNat := fun e => hxy (UInt8.toNat_inj.1 e)
        omega
      have hgt : ¬ x < y := h.1
      simp [bytesLt, Op.bytesLess, hxy, hlt, hgt]
theorem w_cmpS (a b : Str) : call A 72 [sv a, sv b] [] = some (iv (ordT a b), []) := by
  refine call_body (af := af72) rfl fnT72 rfl ?_
  unfold ordT
  cases h1 : bytesLt a b with
  | true => simp -implicitDefEqProofs [af72, w_nanS, h1]
  | false =>
    have h2 := bytes_tri a b h1
    cases h3 : bytesLt b a with
    | true =>
      rw [h3] at h2
      simp only [h1, Bool.false_or] at h2
      simp -implicitDefEqProofs [af72, w_nanS, h1, h2, h3]
    | false =>
      rw [h3] at h2
      simp only [h1, Bool.false_or] at h2
      simp -implicitDefEqProofs [af72, w_nanS, h1, h2, h3]
theorem w_dec_Cmp (m s m' s' : Int) (h : isD m s = true) (h' : isD m' s' = true) : call A 71 [.agg [.int .i64 m, .int .i64 s], .agg [.int .i64 m', .int .i64 s']] [] = some (iv (ord (tt m s) (tt m' s')), []) := by
  refine call_body (af := af71) rfl fnT71 rfl ?_
  simp only [isD, Bool.and_eq_true, decide_eq_true_eq] at h h'
  have h1 := w_dec_scaled m s 4 ⟨by omega, by omega⟩ ⟨by omega, by omega⟩ (by omega)
  have h2 := w_dec_scaled m' s' 4 ⟨by omega, by omega⟩ ⟨by omega, by omega⟩ (by omega)
  rw [show ((4 : Nat) : Int) = 4 from rfl] at h1 h2
  simp -implicitDefEqProofs [af71, h1, h2, w_cmpI, tt]
theorem w_dec_Is (m s : Int) : call A 43 [.agg [.int .i64 m, .int .i64 s]] [] = some (bv (isD m s), []) := by
  refine call_body (af := af43) rfl fnT43 rfl ?_
  unfold isD
  by_cases h1 : -1000000000 ≤ m
  · by_cases h2 : m ≤ 1000000000
    · by_cases h3 : 0 ≤ s
      · by_cases h4 : s ≤ 4
        · by_cases h5 : s = 0
          · simp -implicitDefEqProofs [af43, h1, h2, h3, h4, h5]
          · by_cases h6 : m.tmod 10 = 0
            · simp -implicitDefEqProofs [af43, h1, h2, h3, h4, h5, h6]
            · simp -implicitDefEqProofs [af43, h1, h2, h3, h4, h5, h6]
        · simp -implicitDefEqProofs [af43, h1, h2, h3, h4]
      · simp -implicitDefEqProofs [af43, h1, h2, h3]
    · simp -implicitDefEqProofs [af43, h1, h2]
  · simp -implicitDefEqProofs [af43, h1]
theorem w_ref1_Is (m s : Int) : call A 53 [.agg [.int .i64 m, .int .i64 s]] [] = some (bv (isD m s), []) := by
  refine call_body (af := af53) rfl fnT53 rfl ?_
  unfold isD
  by_cases h1 : -1000000000 ≤ m
  · by_cases h2 : m ≤ 1000000000
    · by_cases h3 : 0 ≤ s
      · by_cases h4 : s ≤ 4
        · by_cases h5 : s = 0
          · simp -implicitDefEqProofs [af53, h1, h2, h3, h4, h5]
          · by_cases h6 : m.tmod 10 = 0
            · simp -implicitDefEqProofs [af53, h1, h2, h3, h4, h5, h6]
            · simp -implicitDefEqProofs [af53, h1, h2, h3, h4, h5, h6]
        · simp -implicitDefEqProofs [af53, h1, h2, h3, h4]
      · simp -implicitDefEqProofs [af53, h1, h2, h3]
    · simp -implicitDefEqProofs [af53, h1, h2]
  · simp -implicitDefEqProofs [af53, h1]
end Go.Proofs.YtkmmfenknekcbaaGreat
