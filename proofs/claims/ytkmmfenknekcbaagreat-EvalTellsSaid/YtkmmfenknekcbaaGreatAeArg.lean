/-
  A LAW's ARGUMENTS, AS THEY ARE READ, ARE THE EVALUATOR's.
-/
import Derived.Test.YtkmmfenknekcbaaGreatAeData
import Derived.SizedLaws
set_option linter.unusedSimpArgs false
set_option linter.unusedVariables false
namespace Go.Ae
open Go.RowKit Go.ChangeShapes Go.WideShapes
variable {P : Program} {H : Type} {enc : TypeId × Value → H} {w : World}
theorem trodAll_five' {spare : Nat → Bool} {base : Nat} {held : Bool} {t0 t1 t2 t3 t4 : TypeId} {args : Array Value} {ds : List (DataW H)} {ps : List MemPlace} (h : DataW.TrodAll enc P w base spare held [t0, t1, t2, t3, t4] args.toList ds ps) :
    ∃ v0 v1 v2 v3 v4 d0 d1 d2 d3 d4, args = #[v0, v1, v2, v3, v4] ∧ ds = [d0, d1, d2, d3, d4] := by
  obtain ⟨v0, l0, d0, m0, p0, q0, a0, rfl, rfl, _, h⟩ := trodAll_cons h
  obtain ⟨v1, l1, d1, m1, p1, q1, rfl, rfl, rfl, _, h⟩ := trodAll_cons h
  obtain ⟨v2, l2, d2, m2, p2, q2, rfl, rfl, rfl, _, h⟩ := trodAll_cons h
  obtain ⟨v3, l3, d3, m3, p3, q3, rfl, rfl, rfl, _, h⟩ := trodAll_cons h
  obtain ⟨v4, l4, d4, m4, p4, q4, rfl, rfl, rfl, _, h⟩ := trodAll_cons h
  obtain ⟨rfl, rfl, _⟩ := trodAll_nil h
  exact ⟨v0, v1, v2, v3, v4, d0, d1, d2, d3, d4, Array.ext' a0, rfl⟩
/-- An argument of a type. -/
def argA (P : Program) (t : TypeId) (d : DataW H) : AV := match P.underlying t with
  | some (.struct _) => .agg (dvOf d)
  | _ => match dvOf d with | [x] => .d x | _ => .undef
theorem argA_struct {t : TypeId} {fs : Array Field} (hu : P.underlying t = some (.struct fs)) (d : DataW H) : argA P t d = .agg (dvOf d) := by simp [argA, hu]
theorem argA_slice {t e : TypeId} (hu : P.underlying t = some (.slice e)) {d : DataW H} {x : DV} (h : dvOf d = [x]) : argA P t d = .d x := by simp [argA, hu, h]
theorem argA_int {t : TypeId} {k : IntKind} (hu : P.underlying t = some (.int k)) {d : DataW H} {x : DV} (h : dvOf d = [x]) : argA P t d = .d x := by simp [argA, hu, h]
theorem argA_bool {t : TypeId} (hu : P.underlying t = some .bool) {d : DataW H} {x : DV} (h : dvOf d = [x]) : argA P t d = .d x := by simp [argA, hu, h]
theorem argA_string {t : TypeId} (hu : P.underlying t = some .string) {d : DataW H} {x : DV} (h : dvOf d = [x]) : argA P t d = .d x := by simp [argA, hu, h]
theorem args_of {base : Nat} {S : List TypeId} (hS : closedB P S = true) : ∀ {ts : List TypeId} {vs : List Value} {ds : List (DataW H)} {ps : List MemPlace},
    (∀ t ∈ ts, t ∈ S) → (∀ (j : Nat) t v, ts[j]? = some t → vs[j]? = some v → Value.okWide P w .any base t v) → DataW.TrodAll enc P w 0 (fun _ => true) true ts vs ds ps →
    All2 (RA (env0 w) w) (List.zipWith (argA P) ts ds) vs ∧ ∀ (j : Nat) t d, ts[j]? = some t → ds[j]? = some d → ∃ n, TD P n t d
  | [], [], [], _, _, _, _ => ⟨.nil, fun j t d h => by simp at h⟩
  | t :: ts, v :: vs, d :: ds, ps, hts, hok, h => by
    obtain ⟨p, q, ⟨fuel, h1⟩, h2, rfl⟩ := h
    obtain ⟨i1, i2⟩ := args_of hS (fun t ht => hts t (by simp [ht])) (fun j t v h h' => hok (j + 1) t v (by simpa using h) (by simpa using h')) h2
    have ht : t ∈ S := hts t (by simp)
    have hw : Value.okWide P w .any base t v := hok 0 t v rfl rfl
    have hc := List.all_eq_true.1 hS t ht
    have key : v.cells.toList.length = P.cellsOf t ∧ ((∃ fs, P.underlying t = some (.struct fs)) ∧ (∃ cs, v = .agg cs) ∨ ((∀ fs, P.underlying t ≠ some (.struct fs)) ∧ v.cells = #[v])) := by
      cases hu : P.underlying t with
      | none => rw [hu] at hc; simp at hc
      | some T =>
        cases T with
        | struct fs =>
          obtain ⟨cs, rfl, hsz⟩ := okWide_struct hu hw
          exact ⟨by simpa [Value.cells] using hsz, .inl ⟨⟨fs, rfl⟩, cs, rfl⟩⟩
        | slice e =>
          obtain ⟨a, len, cap, rfl⟩ := okWide_slice hu hw
          rw [hu] at hc
          simp only [Bool.and_eq_true, beq_iff_eq] at hc
          exact ⟨by rw [hc.1.1]; rfl, .inr ⟨fun fs h => by simp at h, rfl⟩⟩
        | string =>
          obtain ⟨s, rfl⟩ := okWide_string hu hw
          rw [hu] at hc
          simp only [beq_iff_eq] at hc
          exact ⟨by rw [hc]; rfl, .inr ⟨fun fs h => by simp at h, rfl⟩⟩
        | bool =>
          rw [hu] at hc
          simp only [beq_iff_eq] at hc
          have hw' : Cell.okWide P w .any base t v := by unfold Value.okWide at hw; rw [hu] at hw; exact hw
          unfold Cell.okWide Cell.ok at hw'
          rw [hu] at hw'
          cases v <;> simp at hw'
          exact ⟨by rw [hc]; rfl, .inr ⟨fun fs h => by simp at h, rfl⟩⟩
        | int k =>
          rw [hu] at hc
          simp only [beq_iff_eq] at hc
          have hw' : Cell.okWide P w .any base t v := by unfold Value.okWide at hw; rw [hu] at hw; exact hw
          unfold Cell.okWide Cell.ok at hw'
          rw [hu] at hw'
          cases v <;> simp at hw'
          exact ⟨by rw [hc]; rfl, .inr ⟨fun fs h => by simp at h, rfl⟩⟩
        | _ => rw [hu] at hc; simp at hc
    obtain ⟨k1, k2⟩ := key
    obtain ⟨a1, a2⟩ := trod_td (enc := enc) (w := w) hS fuel t ht _ d p k1 h1
    refine ⟨?_, fun j t' d' h h' => ?_⟩
    · rw [List.zipWith_cons_cons]
      refine .cons ?_ i1
      rcases k2 with ⟨⟨fs, hu⟩, cs, rfl⟩ | ⟨hn, hv⟩
      · rw [argA_struct hu]
        exact .agg a1
      · rw [hv] at a1
        generalize hd : dvOf d = ds at a1
        cases a1 with
        | cons h t' =>
          cases t'
          have : ∀ x, argA P t d = x → x = argA P t d := fun _ h => h.symm
          unfold argA
          split
          · rename_i fs hu; exact absurd hu (hn fs)
          · rw [hd]; exact .d h
    · cases j with
      | zero => simp at h h'; subst h h'; exact ⟨fuel, a2⟩
      | succ j => exact i2 j t' d' (by simpa using h) (by simpa using h')
  | [], _ :: _, _, _, _, _, h => h.elim
  | [], [], _ :: _, _, _, _, h => h.elim
  | _ :: _, [], _, _, _, _, h => h.elim
  | _ :: _, _ :: _, [], _, _, _, h => h.elim
end Go.Ae
