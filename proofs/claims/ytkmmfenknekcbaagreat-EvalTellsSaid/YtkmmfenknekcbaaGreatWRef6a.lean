/-
  WALKS: dossierref6: Rel, Between.
-/
import Derived.Test.YtkmmfenknekcbaaGreatWLaw6
set_option linter.unusedSimpArgs false
set_option linter.unusedVariables false
set_option maxRecDepth 100000
namespace Go.Proofs.YtkmmfenknekcbaaGreat
open Go Go.Ae Go.Ds
theorem w_ref6_Rel (op : Str) (a b : V) (ha : isV a 0 = true) (hb : isV b 0 = true) : call A 18 [sv op, .agg (encV a), .agg (encV b)] [] = some (.agg (encV (relV op a b)), []) := by
  refine call_body (af := af18) rfl fnT18 rfl ?_
  have hc := w_ref2_Cmp a b 0 ha hb
  unfold relV
  obtain ⟨C, hC⟩ : ∃ C, cmpV a b = C := ⟨_, rfl⟩
  rw [hC] at hc ⊢
  have hne : (C != 0) = !decide (C = 0) := by by_cases h : C = 0 <;> simp [h]
  have heq : (C == 0) = decide (C = 0) := by by_cases h : C = 0 <;> simp [h]
  clear ha hb hC
  rcases a with ⟨k, ba, m, s, t, l⟩
  rcases b with ⟨k', bb, m', s', t', l'⟩
  simp only [V.k]
  rw [encV_mk, encV_mk] at hc ⊢
  have hO := fun x => w_ref2_Of x
  by_cases h1 : op = [61]
  · subst h1
    simp -implicitDefEqProofs [af18, hc, heq, hne, hO]
  by_cases h2 : op = [33, 61]
  · subst h2
    simp -implicitDefEqProofs [af18, hc, heq, hne, hO]
  by_cases hk : k = k'
  · subst hk
    by_cases h3 : k = 2
    · subst h3
      by_cases h4 : op = [60]
      · subst h4; simp -implicitDefEqProofs [af18, hc, hO]
      by_cases h5 : op = [60, 61]
      · subst h5; simp -implicitDefEqProofs [af18, hc, hO]
      by_cases h6 : op = [62]
      · subst h6; simp -implicitDefEqProofs [af18, hc, hO]
      by_cases h7 : op = [62, 61]
      · subst h7; simp -implicitDefEqProofs [af18, hc, hO]
      simp -implicitDefEqProofs [af18, hc, h1, h2, h4, h5, h6, h7, encV_mk]
    · by_cases h3' : k = 3
      · subst h3'
        by_cases h4 : op = [60]
        · subst h4; simp -implicitDefEqProofs [af18, hc, hO]
        by_cases h5 : op = [60, 61]
        · subst h5; simp -implicitDefEqProofs [af18, hc, hO]
        by_cases h6 : op = [62]
        · subst h6; simp -implicitDefEqProofs [af18, hc, hO]
        by_cases h7 : op = [62, 61]
        · subst h7; simp -implicitDefEqProofs [af18, hc, hO]
        simp -implicitDefEqProofs [af18, hc, h1, h2, h4, h5, h6, h7, encV_mk]
      · simp -implicitDefEqProofs [af18, hc, h1, h2, h3, h3', encV_mk]
  · simp -implicitDefEqProofs [af18, hc, h1, h2, hk, encV_mk]
theorem w_ref6_Between (lo hi : Bool) (v a b' : V) (hv : isV v 0 = true) (ha : isV a 0 = true) (hb : isV b' 0 = true) :
    call A 33 [.agg (encV v), .agg (encV a), .agg (encV b'), bv lo, bv hi] [] = some (.agg (encV (withinV lo hi v a b')), []) := by
  refine call_body (af := af33) rfl fnT33 rfl ?_
  unfold withinV
  have r1 := w_ref6_Rel wGe v a hv ha
  have r2 := w_ref6_Rel wGt v a hv ha
  have r3 := w_ref6_Rel wLe v b' hv hb
  have r4 := w_ref6_Rel wLt v b' hv hb
  cases lo <;> cases hi <;> simp -implicitDefEqProofs [af33, r1, r2, r3, r4, w_ref2_And]
end Go.Proofs.YtkmmfenknekcbaaGreat
