/-
  dossierlaw2.ValLists returns true, whatever its two arguments, and they read as they did.
-/
import Derived.Test.YtcjdjhpnpdldmaaWVal2
import Derived.Test.YtcjdjhpnpdldmaaDsRead
import Derived.Test.YtcjdjhpnpdldmaaAeArg
import Derived.Test.YtcjdjhpnpdldmaaDsVal
set_option linter.unusedSimpArgs false
set_option linter.unusedVariables false
set_option maxRecDepth 100000
namespace Go.Proofs.Ytcjdjhpnpdldmaa
open Go Go.Ae Go.Ds Go.RowKit Go.ChangeShapes Go.WideShapes Go.ChangeAt
theorem w_known : call A 8 [] [] = some (bv true, []) := call_iff.2 ⟨100, by kernel_rfl⟩
theorem w_size : ∀ v : V, wfV v → AeEnds (call A 9 [.agg (encV v)] []) fun r => ∃ n, r = (iv n, []) := by
  intro v
  induction v using V.ind with
  | h k b m s t l ih =>
    rintro ⟨_, _, _, ht, hl, hwl⟩
    simp only [reach] at hl
    refine comes_body (af := af9) rfl fnT9 rfl ?_
    rw [encV_mk]
    simp -implicitDefEqProofs [af9]
    refine loopW_comes (fun M st => ∃ (i : Nat) (n : Int), i ≤ l.length ∧ M = l.length - i ∧ st.tm 1 = .ptr 0 0 ∧ st.tm 3 = iv n ∧ st.tm 4 = iv i ∧ st.ob 0 = some [iv k, bv b, iv m, iv s, sv t, .d (.sl (l.map encV))]) ?_ l.length _ ?_
    rotate_left
    · exact ⟨0, _, by simp; rfl⟩
    rintro M st ⟨i, n, hi, rfl, q1, q3, q4, o0⟩ L hL
    by_cases h : i < l.length
    · have hv : l[i] ∈ l := List.getElem_mem h
      obtain ⟨_, hc, n', rfl⟩ := ih _ hv (wfVs_iff.1 hwl _ hv)
      by_cases hn : n < 500
      · simp -implicitDefEqProofs [q1, q3, q4, o0, h, hn, hc]
        refine hL (l.length - (i + 1)) _ (by omega) ⟨i + 1, IntKind.wrap .i64 (n + n'), by omega, rfl, ?_⟩
        simp -implicitDefEqProofs [q1, o0]
        exact wrapI _ (by omega) (by omega)
      · simp -implicitDefEqProofs [q1, q3, q4, o0, h, hn]
    · simp -implicitDefEqProofs [q1, q3, q4, o0, h]
theorem w_may (a b : V) (ha : wfV a) (hb : wfV b) : AeEnds (call A 4 [.d (.sl [encV a, encV b])] []) fun r => ∃ x, r = (bv x, []) ∧ (x = true → isV a 0 = true ∧ isV b 0 = true) := by
  refine comes_body (af := af4) rfl fnT4 rfl ?_
  obtain ⟨_, h1, n1, rfl⟩ := w_size a ha
  obtain ⟨_, h2, n2, rfl⟩ := w_size b hb
  have i1 := w_ref2_Is a ha
  have i2 := w_ref2_Is b hb
  simp -implicitDefEqProofs [af4]
  refine comes_round ?_
  by_cases hn1 : n1 ≥ 500
  · simp -implicitDefEqProofs [h1, hn1]
  · cases hi1 : isV a 0 with
    | false => simp -implicitDefEqProofs [h1, hn1, i1, hi1]
    | true =>
      rw [hi1] at i1
      simp -implicitDefEqProofs [h1, hn1, i1, wrapI 1 (by omega) (by omega)]
      refine comes_round ?_
      by_cases hn2 : n2 ≥ 500
      · simp -implicitDefEqProofs [h2, hn2]
      · cases hi2 : isV b 0 with
        | false => simp -implicitDefEqProofs [h2, hn2, i2, hi2]
        | true =>
          rw [hi2] at i2
          simp -implicitDefEqProofs [h2, hn2, i2, wrapI 2 (by omega) (by omega)]
          refine comes_round ?_
          simp -implicitDefEqProofs [hi1, hi2]
theorem w_law (l : List V) (more : V) (hl : l.length * 72 ≤ reach) (hwl : wfVs l) (hm : wfV more) : call A 3 [.d (.sl (l.map encV)), .agg (encV more)] [] = some (bv true, []) := by
  refine call_body (af := af3) rfl fnT3 rfl ?_
  simp only [reach] at hl
  by_cases h8 : (8 : Int) ≤ l.length
  · simp -implicitDefEqProofs [af3, h8]
  · have z1 : l.length * 72 ≤ 140737488355328 := by omega
    have z2 : (l.length + 1) * 72 ≤ 140737488355328 := by omega
    have wa : wfV (.mk 4 false 0 0 [] l) := ⟨by omega, by omega, by omega, by simp [reach], by simp only [reach]; omega, hwl⟩
    have wb : wfV (.mk 4 false 0 0 [] (l ++ [more])) := ⟨by omega, by omega, by omega, by simp [reach], by simp [reach]; omega, wfVs_iff.2 fun v hv => by
      rcases List.mem_append.1 hv with hv | hv
      · exact wfVs_iff.1 hwl v hv
      · rw [List.mem_singleton.1 hv]; exact hm⟩
    obtain ⟨_, hmay, x, rfl, hx⟩ := w_may _ _ wa wb
    cases x with
    | false =>
      simp only [encV_mk, List.map_append, List.map_cons, List.map_nil] at hmay
      simp -implicitDefEqProofs [af3, h8, z1, z2, hmay]
    | true =>
      obtain ⟨ia, ib⟩ := hx rfl
      have c1 := w_val_Cmp _ _ wa wb 0 ia ib
      have c2 := w_val_Cmp _ _ wb wa 0 ib ia
      have e1 := w_val_Equal _ _ wa wb 0 ia ib
      have e2 := w_val_Equal _ _ wa wa 0 ia ia
      have cp := w_val_Copy _ wa
      have m1 : cmpV (.mk 4 false 0 0 [] l) (.mk 4 false 0 0 [] (l ++ [more])) = -1 := by simp [cmpV, cmpVs_more]
      have m2 : cmpV (.mk 4 false 0 0 [] (l ++ [more])) (.mk 4 false 0 0 [] l) = 1 := by simp [cmpV, cmpVs_more]
      rw [m1] at c1 e1
      rw [m2] at c2
      rw [cmpV_refl] at e2
      simp only [encV_mk, List.map_append, List.map_cons, List.map_nil] at cp e1 e2 hmay c1 c2
      simp -implicitDefEqProofs [af3, h8, z1, z2, hmay, c1, c2, e1, e2, cp, w_known]
theorem valT : ValT Try.prog 26 22 24 3 4 9 where
  V := ⟨_, _, _, _, _, Try.underlying26, rfl, rfl, rfl, rfl, rfl⟩
  L := Try.underlying22
  D := ⟨_, _, Try.underlying24, rfl, rfl⟩
  I := Try.underlying3
  B := Try.underlying4
  S := Try.underlying9
  bytes := by kernel_rfl
theorem closedV : closedB Try.prog [26, 22, 24, 3, 4, 9] = true := by kernel_rfl
theorem valLists_lifted (os : Os) (started : os.Started) (H : Type) (enc : TypeId × Value → H) :
    ReturnsInHanded {} Try.checked os 3 .any (Rows.valListsSpec.pre6 enc Try.prog Try.f3 Rows.valListsRow.domain false) (Rows.valListsSpec.post enc Try.prog Try.f3 false true false false) := by
  refine returnsInHanded_of_change_sized (C := Try.checked) own started (by kernel_rfl) Try.func3
    (ChangeSpec.witness6 (enc := enc) (C := Try.checked) false ⟨#[], #[.slice none 0 0, .agg #[.int .i64 0, .bool false, .int .i64 0, .int .i64 0, .string ⟨#[]⟩, .slice none 0 0]], []⟩ 8 (by kernel_rfl) (by kernel_rfl) (by kernel_rfl) (by kernel_rfl)) ?_
  intro W base args ds gs before hval0 hW _ hsz0 _
  have hsz : (DataW.weightsEach Try.prog (Try.f3.params.toList ++ Rows.valListsSpec.plain.varTypes Try.prog) (ds ++ gs)).all (· ≤ reachBytes) = true := hsz0
  have hval : ∀ (j : Nat) t v, Try.f3.params[j]? = some t → args[j]? = some v → Value.okWide Try.prog W .any base t v := hval0
  have hW' := hW
  obtain ⟨p, q, hA0, hV, rfl, hfz, hnd⟩ := hW
  have hA : DataW.TrodAll enc Try.prog W 0 (fun _ => true) true Try.f3.params.toList args.toList ds p := hA0
  rw [Try.params3] at hA hval hsz
  obtain ⟨v0, v1, d0, d1, p0, p1, rfl, rfl, rfl, h0, h1⟩ := trodAll_two hA
  obtain ⟨rfl, rfl⟩ := trodVars_none hV
  obtain ⟨a1, a2⟩ := args_of (base := base) closedV (by simp) (fun j t v h h' => hval j t v (by simpa using h) (by simpa using h')) hA
  obtain ⟨n0, t0⟩ := a2 0 _ _ rfl rfl
  obtain ⟨n1, t1⟩ := a2 1 _ _ rfl rfl
  simp only [List.append_nil, DataW.weightsEach, List.all_append, Bool.and_eq_true, List.cons_append] at hsz
  obtain ⟨l, e0, hl, hwl, _⟩ := vals_of valT t0 hsz.1
  obtain ⟨v, e1, hwv, _⟩ := val_of valT n1 _ t1 hsz.2.1
  rw [List.zipWith_cons_cons, List.zipWith_cons_cons, argA_slice Try.underlying22 e0, argA_struct Try.underlying26, e1] at a1
  refine (law_walk (fits 3) (w := W) a1 (w_law l v hl hwl hwv)).mono fun e W' ⟨he, hw⟩ => ?_
  subst he
  exact ⟨_, rfl, post_below laidOut rfl hW' (by rw [Try.params3]; intro t ht; simp at ht; rcases ht with rfl | rfl <;> exact ⟨by kernel_rfl, of_decide_eq_true (by kernel_rfl)⟩) hw (tb := 4) rfl Try.underlying4 rfl rfl rfl⟩
/-- ValLists returns true whatever it is given. -/
theorem valLists_holds : Rows.ValListsSaid :=
  OpenClaim.holds_of_wide 3 Try.f3 rfl rfl rfl rfl rfl rfl rfl ⟨rfl, rfl, rfl, rfl, rfl⟩ rfl rfl rfl rfl rfl (by kernel_rfl) Try.func3 (by kernel_rfl)
    (of_decide_eq_true (by kernel_rfl)) (by unfold Func.isWrapper; first | (rw [if_pos (by decide +kernel)]; kernel_rfl) | (rw [if_neg (by decide +kernel)]; exact ⟨rfl, rfl⟩))
    (fun os started H enc _ => valLists_lifted os started H enc)
end Go.Proofs.Ytcjdjhpnpdldmaa

