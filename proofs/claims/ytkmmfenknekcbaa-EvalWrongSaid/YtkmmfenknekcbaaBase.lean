/-
  WHAT THE EVALUATOR SAYS OF THIS SEAT's FUNCTIONS HOLDS OF THE PROGRAM.
-/
import Derived.Test.YtkmmfenknekcbaaFns
import Derived.Test.YtkmmfenknekcbaaRows
import Derived.Test.YtkmmfenknekcbaaAeRow
import Derived.Test.YtkmmfenknekcbaaAeIdx
import Derived.Eval
set_option linter.unusedSimpArgs false
set_option linter.unusedVariables false
set_option maxRecDepth 100000
namespace Go.Proofs.Ytkmmfenknekcbaa
open Go Go.Ae Go.Shelf
theorem own : ownKnob Try.prog.godebug = none := by kernel_rfl
theorem laidOut : laidOutB Try.prog = true := by kernel_rfl
theorem eqOk : EqT Try.prog eqT := by
  refine eqT_two (T := 23) (I := 3) (fun t h => by simpa [eqT] using h) Try.underlying23 (by kernel_rfl) (by kernel_rfl) (by kernel_rfl) (by kernel_rfl) rfl rfl rfl rfl Try.underlying3 (by kernel_rfl)
theorem clone_info : ∃ inf z, Try.prog.info? 26 = some inf ∧ inf.zero = some z ∧ z.cells.size = inf.size ∧ inf.size = 6 ∧ inf.bytes = 72 := by
  have h : (match Try.prog.info? 26 with | some inf => (match inf.zero with | some z => decide (z.cells.size = inf.size ∧ inf.size = 6 ∧ inf.bytes = 72) | none => false) | none => false) = true := by kernel_rfl
  split at h
  · rename_i inf h1
    split at h
    · rename_i z h2
      obtain ⟨h3, h4, h5⟩ := of_decide_eq_true h
      exact ⟨inf, z, h1, h2, h3, h4, h5⟩
    · cases h
  · cases h
theorem cloneOk : Fits Try.prog 63 (gClone 6 72) := by
  obtain ⟨inf, z, h1, h2, h3, h4, h5⟩ := clone_info
  have h := clone_fits (P := Try.prog) (f := 63) Try.func63 (fn := Try.f63) rfl rfl rfl (t := 24) (e := 26) (yt := 24) Try.underlying24 h1 h2 h3 (by rw [h4]; decide) (by rw [h5]; decide)
    ⟨rfl, rfl, rfl⟩ ⟨rfl, rfl, rfl⟩ ⟨rfl, rfl, rfl⟩ ⟨rfl, rfl, rfl⟩ ⟨rfl, rfl, rfl⟩ ⟨rfl, rfl, rfl⟩ ⟨rfl, rfl, rfl⟩ ⟨rfl, rfl, rfl⟩
  rw [h4, h5] at h
  exact h
/-- The numbers of strings.indexFunc and its types here. -/
def ρx : Ren := ⟨fun x => if x = 315 then 98 else x, fun x => if x = 0 then 0 else if x = 3 then 3 else if x = 4 then 4 else if x = 9 then 9 else if x = 21 then 21 else if x = 40 then 98 else x, fun x => x⟩
theorem laysX : Lays.n315 Try.prog ρx where
  mixed := Checked.mixed Try.checked
  f315 := by kernel_rfl
  t0 := by kernel_rfl
  a0 := fun w => by kernel_rfl
  z0 := fun w => by kernel_rfl
  v0 := fun w => by kernel_rfl
  t3 := by kernel_rfl
  a3 := fun w => by kernel_rfl
  z3 := fun w => by kernel_rfl
  v3 := fun w => by kernel_rfl
  t4 := by kernel_rfl
  a4 := fun w => by kernel_rfl
  z4 := fun w => by kernel_rfl
  v4 := fun w => by kernel_rfl
  t9 := by kernel_rfl
  a9 := fun w => by kernel_rfl
  z9 := fun w => by kernel_rfl
  v9 := fun w => by kernel_rfl
  t21 := by kernel_rfl
  a21 := fun w => by kernel_rfl
  z21 := fun w => by kernel_rfl
  v21 := fun w => by kernel_rfl
  t40 := by kernel_rfl
  a40 := fun w => by kernel_rfl
  z40 := fun w => by kernel_rfl
  v40 := fun w => by kernel_rfl
theorem enterX : Ae.Enters Try.prog 82 := ⟨Try.f82, _, Try.func82, rfl, by kernel_rfl⟩
theorem predX : RunePred Try.prog 82 badR := by
  intro W x
  unfold FnGives badR
  go_enter Try.func82, Try.ntmps82
  by_cases h1 : (x : Int) < 32
  · go_wp2
    go_ret
    exact ⟨by simp [h1], 0, rfl⟩
  · by_cases h2 : (x : Int) > 126
    · go_wp2
      go_ret
      exact ⟨by simp [h1, h2], 0, rfl⟩
    · go_wp2
      go_ret
      exact ⟨by rw [decide_eq_false (p := (x : Int) < 32) (by omega), decide_eq_false (p := (126 : Int) < (x : Int)) (by omega)]; rfl, 0, rfl⟩
noncomputable def A : AProg := { fn := fnT, ext := fun f => if f = 63 then some (gClone 6 72) else if f = 98 then some (gIdx 82 badR) else none }
theorem A_ok : AOk Try.prog eqT A where
  fn := fnT_ok
  ext := fun f g h => by
    simp only [A] at h
    split at h
    · rename_i hf
      injection h with h
      subst h
      subst hf
      exact ⟨⟨Try.f63, _, Try.func63, rfl, by kernel_rfl⟩, cloneOk⟩
    · split at h
      · rename_i hf
        injection h with h
        subst h
        subst hf
        exact ⟨⟨Try.f98, _, Try.func98, rfl, by kernel_rfl⟩, idx_fits laysX enterX predX⟩
      · cases h
theorem fits (f : FuncId) : Fits Try.prog f (call A f) := fits_call eqOk (Checked.mixed Try.checked) A_ok f
theorem call_clone (args : List AV) (obs : List (List DV)) : call A 63 args obs = gClone 6 72 args obs := call_ext (A := A) rfl args obs
theorem call_idx (args : List AV) (obs : List (List DV)) : call A 98 args obs = gIdx 82 badR args obs := call_ext (A := A) rfl args obs
end Go.Proofs.Ytkmmfenknekcbaa
