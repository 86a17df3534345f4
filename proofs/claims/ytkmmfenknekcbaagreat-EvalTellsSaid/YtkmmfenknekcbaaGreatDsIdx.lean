/-
  strings.IndexFunc finds no rune that may not be in a text just where all bytes may.
-/
import Derived.Test.YtkmmfenknekcbaaGreatAeIdx
import Derived.Test.YtkmmfenknekcbaaGreatDsDat
import Derived.Laws.RangeAny
set_option linter.unusedSimpArgs false
set_option linter.unusedVariables false
namespace Go.Ds
open Go Go.Ae
theorem badR_iff (c : UInt8) : badR c.toNat = !isC c := by
  rw [Bool.eq_iff_iff]
  simp only [badR, isC, Bool.or_eq_true, decide_eq_true_eq, beq_iff_eq, Bool.not_eq_true', Bool.and_eq_false_iff, decide_eq_false_iff_not]
  omega
theorem idx_from (t : Str) : ∀ (f pos : Nat), t.length ≤ pos + f → (Lib.idxFuncFrom badR true ⟨t.toArray⟩ f pos < 0 ↔ (t.drop pos).all isC = true)
  | 0, pos, h => by rw [List.drop_of_length_le (by omega)]; simp [Lib.idxFuncFrom]
  | f + 1, pos, h => by
    have hsz : (⟨t.toArray⟩ : ByteArray).size = t.length := rfl
    rw [Lib.idxFuncFrom]
    by_cases hp : pos < t.length
    · rw [if_pos (by rw [hsz]; exact hp), List.drop_eq_getElem_cons hp, List.all_cons]
      have hget : ((⟨t.toArray⟩ : ByteArray)[pos]'(by rw [hsz]; exact hp)) = t[pos] := rfl
      by_cases ha : t[pos].toNat < 128
      · have hd := decode_ascii ⟨t.toArray⟩ pos (by rw [hsz]; exact hp) (by rw [hget]; exact ha)
        rw [hget] at hd
        rw [hd, badR_iff]
        cases hc : isC t[pos] with
        | true =>
          rw [if_neg (by simp)]
          have := idx_from t f (pos + 1) (by omega)
          simpa using this
        | false => rw [if_pos (by simp)]; simp
      · have hd := decode_high ⟨t.toArray⟩ pos (by rw [hsz]; exact hp) (by rw [hget]; omega)
        have hb : badR (Utf8.decode ⟨t.toArray⟩ pos).1 = true := by
          simp only [badR, Bool.or_eq_true, decide_eq_true_eq]
          exact .inr (.inl (by omega))
        rw [if_pos hb]
        have hc : isC t[pos] = false := by simp [isC]; omega
        simp [hc]
    · rw [if_neg (by rw [hsz]; exact hp), List.drop_of_length_le (by omega)]
      simp
theorem idx_text (t : Str) : decide (Lib.idxFunc badR true ⟨t.toArray⟩ < 0) = t.all isC := by
  have := idx_from t t.length 0 (by omega)
  rw [Bool.eq_iff_iff, decide_eq_true_eq]
  rw [List.drop_zero] at this
  exact this
end Go.Ds
