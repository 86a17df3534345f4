/-
  WHAT THE EVALUATOR SAYS OF THIS SEAT's FUNCTIONS HOLDS OF THE PROGRAM.
-/
import Derived.Test.YtkmmfenknekcbaaFns
import Derived.Test.YtkmmfenknekcbaaRows
import Derived.Test.YtkmmfenknekcbaaAeRow
import Derived.Eval
namespace Go.Proofs.Ytkmmfenknekcbaa
open Go.Ae
noncomputable def A : AProg := { fn := fnT, ext := fun f => if f = 63 then some (gClone 6 72) else none }
theorem eqOk : EqT Try.prog eqT := by
  refine eqT_two (T := 23) (I := 3) (fun t h => by simpa [eqT] using h) Try.underlying23 (by kernel_rfl) (by kernel_rfl) (by kernel_rfl) (by kernel_rfl) rfl rfl rfl rfl Try.underlying3 (by kernel_rfl)
theorem clone_info : ∃ inf z, Try.prog.info? 26 = some inf ∧ inf.zero = some z ∧ z.cells.size = inf.size ∧ inf.size = 6 ∧ inf.bytes = 72 := by
  have h : (match Try.prog.info? 26 with | some inf => (match inf.zero with | some z => decide (z.cells.size = inf.size ∧ inf.size = 6 ∧ inf.bytes = 72) | none => false) | none => false) = true := by kernel_rfl
  split at h
  · rename_i inf h1
    split at h
    · rename_i z h2
      obtain ⟨h3, h4, h5⟩ := of_decide_eq_true h
      exact ⟨inf, z, h1, h2, h3, h4, h5⟩
    · cases h
  · cases h
theorem cloneOk : Fits Try.prog 63 (gClone 6 72) := by
  obtain ⟨inf, z, h1, h2, h3, h4, h5⟩ := clone_info
  have h := clone_fits (P := Try.prog) (f := 63) Try.func63 (fn := Try.f63) rfl rfl rfl (t := 24) (e := 26) (yt := 24) Try.underlying24 h1 h2 h3 (by rw [h4]; decide) (by rw [h5]; decide)
    ⟨rfl, rfl, rfl⟩ ⟨rfl, rfl, rfl⟩ ⟨rfl, rfl, rfl⟩ ⟨rfl, rfl, rfl⟩ ⟨rfl, rfl, rfl⟩ ⟨rfl, rfl, rfl⟩ ⟨rfl, rfl, rfl⟩ ⟨rfl, rfl, rfl⟩
  rw [h4, h5] at h
  exact h
theorem A_ok : AOk Try.prog eqT A where
  fn := fnT_ok
  ext := fun f g h => by
    simp only [A] at h
    split at h
    · rename_i hf
      injection h with h
      subst h
      subst hf
      exact ⟨⟨Try.f63, _, Try.func63, rfl, by kernel_rfl⟩, cloneOk⟩
    · cases h
theorem fits (f : FuncId) : Fits Try.prog f (call A f) := fits_call eqOk (Checked.mixed Try.checked) A_ok f
end Go.Proofs.Ytkmmfenknekcbaa
