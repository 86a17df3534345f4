/-
  WHAT THE EVALUATOR SAYS OF THIS SEAT's FUNCTIONS HOLDS OF THE PROGRAM.
-/
import Derived.Test.YtkmmfenknekcbaaGreatFns
import Derived.Test.YtkmmfenknekcbaaGreatRows
import Derived.Test.YtkmmfenknekcbaaGreatAeRow
import Derived.Test.YtkmmfenknekcbaaGreatAeIdx
import Derived.Eval
set_option linter.unusedSimpArgs false
set_option linter.unusedVariables false
set_option maxRecDepth 100000
namespace Go.Proofs.YtkmmfenknekcbaaGreat
open Go Go.Ae Go.Shelf
theorem own : ownKnob Tryz.prog.godebug = none := by kernel_rfl
theorem laidOut : laidOutB Tryz.prog = true := by kernel_rfl
theorem eqOk : EqT Tryz.prog eqT := by
  refine eqT_two (T := 23) (I := 3) (fun t h => by simpa [eqT] using h) Tryz.underlying23 (by kernel_rfl) (by kernel_rfl) (by kernel_rfl) (by kernel_rfl) rfl rfl rfl rfl Tryz.underlying3 (by kernel_rfl)
theorem clone_info : ∃ inf z, Tryz.prog.info? 32 = some inf ∧ inf.zero = some z ∧ z.cells.size = inf.size ∧ inf.size = 6 ∧ inf.bytes = 72 := by
  have h : (match Tryz.prog.info? 32 with | some inf => (match inf.zero with | some z => decide (z.cells.size = inf.size ∧ inf.size = 6 ∧ inf.bytes = 72) | none => false) | none => false) = true := by kernel_rfl
  split at h
  · rename_i inf h1
    split at h
    · rename_i z h2
      obtain ⟨h3, h4, h5⟩ := of_decide_eq_true h
      exact ⟨inf, z, h1, h2, h3, h4, h5⟩
    · cases h
  · cases h
theorem cloneOk : Fits Tryz.prog 114 (gClone 6 72) := by
  obtain ⟨inf, z, h1, h2, h3, h4, h5⟩ := clone_info
  have h := clone_fits (P := Tryz.prog) (f := 114) Tryz.func114 (fn := Tryz.f114) rfl rfl rfl (t := 30) (e := 32) (yt := 30) Tryz.underlying30 h1 h2 h3 (by rw [h4]; decide) (by rw [h5]; decide)
    ⟨rfl, rfl, rfl⟩ ⟨rfl, rfl, rfl⟩ ⟨rfl, rfl, rfl⟩ ⟨rfl, rfl, rfl⟩ ⟨rfl, rfl, rfl⟩ ⟨rfl, rfl, rfl⟩ ⟨rfl, rfl, rfl⟩ ⟨rfl, rfl, rfl⟩
  rw [h4, h5] at h
  exact h
/-- The numbers of strings.indexFunc and its types here. -/
def ρx : Ren := ⟨fun x => if x = 315 then 143 else x, fun x => if x = 0 then 0 else if x = 3 then 3 else if x = 4 then 4 else if x = 9 then 9 else if x = 21 then 21 else if x = 40 then 122 else x, fun x => x⟩
theorem laysX : Lays.n315 Tryz.prog ρx where
  mixed := Checked.mixed Tryz.checked
  f315 := by kernel_rfl
  t0 := by kernel_rfl
  a0 := fun w => by kernel_rfl
  z0 := fun w => by kernel_rfl
  v0 := fun w => by kernel_rfl
  t3 := by kernel_rfl
  a3 := fun w => by kernel_rfl
  z3 := fun w => by kernel_rfl
  v3 := fun w => by kernel_rfl
  t4 := by kernel_rfl
  a4 := fun w => by kernel_rfl
  z4 := fun w => by kernel_rfl
  v4 := fun w => by kernel_rfl
  t9 := by kernel_rfl
  a9 := fun w => by kernel_rfl
  z9 := fun w => by kernel_rfl
  v9 := fun w => by kernel_rfl
  t21 := by kernel_rfl
  a21 := fun w => by kernel_rfl
  z21 := fun w => by kernel_rfl
  v21 := fun w => by kernel_rfl
  t40 := by kernel_rfl
  a40 := fun w => by kernel_rfl
  z40 := fun w => by kernel_rfl
  v40 := fun w => by kernel_rfl
theorem enterX : Ae.Enters Tryz.prog 133 := ⟨Tryz.f133, _, Tryz.func133, rfl, by kernel_rfl⟩
theorem predX : RunePred Tryz.prog 133 badR := by
  intro W x
  unfold FnGives badR
  go_enter Tryz.func133, Tryz.ntmps133
  by_cases h1 : (x : Int) < 32
  · go_wp2
    go_ret
    exact ⟨by simp [h1], 0, rfl⟩
  · by_cases h2 : (x : Int) > 126
    · go_wp2
      go_ret
      exact ⟨by simp [h1, h2], 0, rfl⟩
    · go_wp2
      go_ret
      exact ⟨by rw [decide_eq_false (p := (x : Int) < 32) (by omega), decide_eq_false (p := (126 : Int) < (x : Int)) (by omega)]; rfl, 0, rfl⟩
noncomputable def A : AProg := { fn := fnT, ext := fun f => if f = 114 then some (gClone 6 72) else if f = 143 then some (gIdx 133 badR) else none }
theorem A_ok : AOk Tryz.prog eqT A where
  fn := fnT_ok
  ext := fun f g h => by
    simp only [A] at h
    split at h
    · rename_i hf
      injection h with h
      subst h
      subst hf
      exact ⟨⟨Tryz.f114, _, Tryz.func114, rfl, by kernel_rfl⟩, cloneOk⟩
    · split at h
      · rename_i hf
        injection h with h
        subst h
        subst hf
        exact ⟨⟨Tryz.f143, _, Tryz.func143, rfl, by kernel_rfl⟩, idx_fits laysX enterX predX⟩
      · cases h
theorem fits (f : FuncId) : Fits Tryz.prog f (call A f) := fits_call eqOk (Checked.mixed Tryz.checked) A_ok f
theorem call_clone (args : List AV) (obs : List (List DV)) : call A 114 args obs = gClone 6 72 args obs := call_ext (A := A) rfl args obs
theorem call_idx (args : List AV) (obs : List (List DV)) : call A 143 args obs = gIdx 133 badR args obs := call_ext (A := A) rfl args obs
end Go.Proofs.YtkmmfenknekcbaaGreat
