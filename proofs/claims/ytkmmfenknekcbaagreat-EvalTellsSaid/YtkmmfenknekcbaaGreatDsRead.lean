/-
  A DATUM OF THE TYPE OF VALUES IS A VALUE.
-/
import Derived.Test.YtkmmfenknekcbaaGreatAeData
import Derived.Test.YtkmmfenknekcbaaGreatDsDat
import Derived.SizedLaws
set_option linter.unusedSimpArgs false
set_option linter.unusedVariables false
namespace Go.Ds
open Go Go.Ae
variable {P : Program} {H : Type}
theorem all_app {p : Nat → Bool} {a b : List Nat} (h : (a ++ b).all p = true) : a.all p = true ∧ b.all p = true := by
  simpa [List.all_append] using h
theorem int_of {n : Nat} {t : TypeId} {d : DataW H} (hu : P.underlying t = some (.int .i64)) (h : TD P n t d) : ∃ x : Int, d = .lit (.int .i64 x) ∧ -9223372036854775808 ≤ x ∧ x ≤ 9223372036854775807 := by
  cases n with
  | zero => exact h.elim
  | succ n =>
    simp only [TD, hu] at h
    obtain ⟨x, rfl, hw⟩ := h
    have hw' : ((IntKind.i64.min ≤ x && x ≤ IntKind.i64.max : Bool)) = true := hw
    simp [IntKind.min, IntKind.max, IntKind.signed, IntKind.bits] at hw'
    exact ⟨x, rfl, by omega, by omega⟩
theorem bool_of {n : Nat} {t : TypeId} {d : DataW H} (hu : P.underlying t = some .bool) (h : TD P n t d) : ∃ b : Bool, d = .lit (.bool b) := by
  cases n with
  | zero => exact h.elim
  | succ n => simpa only [TD, hu] using h
theorem str_of {n : Nat} {t : TypeId} {d : DataW H} (hu : P.underlying t = some .string) (h : TD P n t d) (hw : (d.weights P t).all (· ≤ reachBytes) = true) : ∃ s : Str, d = .lit (.string s) ∧ s.length ≤ reach := by
  cases n with
  | zero => exact h.elim
  | succ n =>
    simp only [TD, hu] at h
    obtain ⟨s, rfl⟩ := h
    refine ⟨s, rfl, ?_⟩
    simp only [DataW.weights, reachBytes, List.all_cons, List.all_nil, Bool.and_true] at hw
    exact of_decide_eq_true hw
/-- The types of values. -/
structure ValT (P : Program) (tV tL tD tI tB tS : TypeId) : Prop where
  V : ∃ f0 f1 f2 f3 f4, P.underlying tV = some (.struct #[f0, f1, f2, f3, f4]) ∧ f0.type = tI ∧ f1.type = tB ∧ f2.type = tD ∧ f3.type = tS ∧ f4.type = tL
  L : P.underlying tL = some (.slice tV)
  D : ∃ g0 g1, P.underlying tD = some (.struct #[g0, g1]) ∧ g0.type = tI ∧ g1.type = tI
  I : P.underlying tI = some (.int .i64)
  B : P.underlying tB = some .bool
  S : P.underlying tS = some .string
  bytes : P.bytesOf tV = 72
mutual
/-- How many values and letters a datum holds. -/
def bulkD : DataW H → Nat
  | .lit (.string bytes) => bytes.length + 1
  | .lit _ => 1
  | .nil => 1
  | .ptr d => bulkD d + 1
  | .slice elems spare => bulkDs elems + bulkDs spare + 1
  | .agg parts => bulkDs parts + 1
  | .iface _ d => bulkD d + 1
  | .map _ => 1
  | .held _ => 1
def bulkDs : List (DataW H) → Nat
  | [] => 0
  | d :: r => bulkD d + bulkDs r
end
theorem dec_of {tV tL tD tI tB tS : TypeId} (T : ValT P tV tL tD tI tB tS) {n : Nat} {d : DataW H} (h : TD P n tD d) : ∃ m s : Int, dvOf d = [.int .i64 m, .int .i64 s] ∧ (-9223372036854775808 ≤ m ∧ m ≤ 9223372036854775807) ∧ (-9223372036854775808 ≤ s ∧ s ≤ 9223372036854775807) := by
  obtain ⟨g0, g1, hu, rfl, t1⟩ := T.D
  cases n with
  | zero => exact h.elim
  | succ n =>
    simp only [TD, hu, TDf] at h
    obtain ⟨ps, rfl, d0, r0, rfl, h0, d1, r1, rfl, h1, rfl⟩ := h
    rw [t1] at h1
    obtain ⟨m, rfl, hm⟩ := int_of T.I h0
    obtain ⟨s, rfl, hs⟩ := int_of T.I h1
    exact ⟨m, s, by simp [dvOf, dvCat], hm, hs⟩
theorem val_of {tV tL tD tI tB tS : TypeId} (T : ValT P tV tL tD tI tB tS) : ∀ (n : Nat) (d : DataW H), TD P n tV d → (d.weights P tV).all (· ≤ reachBytes) = true → ∃ v : V, dvOf d = encV v ∧ wfV v ∧ bulkV v ≤ bulkD d := by
  intro n
  induction n with
  | zero => intro d h; exact h.elim
  | succ n ih =>
    intro d h hw
    obtain ⟨f0, f1, f2, f3, f4, hu, t0, t1, t2, t3, t4⟩ := T.V
    simp only [TD, hu, TDf] at h
    obtain ⟨ps, rfl, d0, _, rfl, h0, d1, _, rfl, h1, d2, _, rfl, h2, d3, _, rfl, h3, d4, _, rfl, h4, rfl⟩ := h
    simp only [DataW.weights, hu, List.map_cons, List.map_nil, DataW.weightsEach, List.all_append, Bool.and_eq_true, t0, t1, t2, t3, t4] at hw
    rw [t0] at h0
    rw [t1] at h1
    rw [t2] at h2
    rw [t3] at h3
    rw [t4] at h4
    obtain ⟨k, rfl, hk⟩ := int_of T.I h0
    obtain ⟨b, rfl⟩ := bool_of T.B h1
    obtain ⟨m, s, e2, hm, hs⟩ := dec_of T h2
    obtain ⟨t, rfl, ht⟩ := str_of T.S h3 hw.2.2.2.1
    have key : ∃ l : List V, dvOf d4 = [.sl (l.map encV)] ∧ l.length * 72 ≤ reach ∧ wfVs l ∧ bulkVs l ≤ bulkD d4 := by
      cases n with
      | zero => exact h4.elim
      | succ n =>
        have h4' := h4
        simp only [TD, T.L] at h4'
        rcases h4' with rfl | ⟨el, sp, rfl, he⟩
        · exact ⟨[], by simp [dvOf], by simp [reach], trivial, by simp [bulkVs]⟩
        · have hw4 := hw.2.2.2.2.1
          simp only [DataW.weights, T.L, List.all_cons, List.all_append, Bool.and_eq_true, decide_eq_true_eq, T.bytes] at hw4
          have mono : ∀ x ∈ el, TD P (n + 1) tV x := by
            have up : ∀ (n : Nat) (t : TypeId) (x : DataW H), TD P n t x → TD P (n + 1) t x := by
              intro n
              induction n with
              | zero => intro t x h; exact h.elim
              | succ n ihn =>
                intro t x h
                have upf : ∀ (fs : List Field) (ps : List (DataW H)), TDf (TD P n) fs ps → TDf (TD P (n + 1)) fs ps := by
                  intro fs
                  induction fs with
                  | nil => intro ps h; exact h
                  | cons f fs ihf => intro ps h; obtain ⟨d, r, h1, h2, h3⟩ := h; exact ⟨d, r, h1, ihn _ _ h2, ihf _ h3⟩
                rw [TD] at h ⊢
                split at h <;> rename_i hu
                · exact h
                · exact h
                · exact h
                · exact h.imp id fun ⟨el, sp, h1, h2⟩ => ⟨el, sp, h1, fun x hx => ihn _ _ (h2 x hx)⟩
                · exact h.imp fun ps ⟨h1, h2⟩ => ⟨h1, upf _ _ h2⟩
                · exact h.elim
            exact fun x hx => up _ _ _ (he x hx)
          have go : ∀ el : List (DataW H), (∀ x ∈ el, TD P (n + 1) tV x) → (DataW.weightsAll P tV el).all (· ≤ reachBytes) = true → ∃ l : List V, dvAll el = l.map encV ∧ l.length = el.length ∧ wfVs l ∧ bulkVs l ≤ bulkDs el := by
            intro el
            induction el with
            | nil => intro _ _; exact ⟨[], rfl, rfl, trivial, Nat.le_refl _⟩
            | cons x el ihl =>
              intro h1 h2
              simp only [DataW.weightsAll, List.all_append, Bool.and_eq_true] at h2
              obtain ⟨v, q1, q2, q3⟩ := ih x (h1 x (by simp)) h2.1
              obtain ⟨l, r1, r2, r3, r4⟩ := ihl (fun y hy => h1 y (by simp [hy])) h2.2
              exact ⟨v :: l, by simp [dvAll, q1, r1], by simp [r2], ⟨q2, r3⟩, by simp only [bulkVs, bulkDs]; omega⟩
          obtain ⟨l, r1, r2, r3, r4⟩ := go el mono hw4.2.1
          have hb := hw4.1
          simp only [reachBytes] at hb
          exact ⟨l, by simp [dvOf, r1], by rw [r2]; simp only [reach]; omega, r3, by simp only [bulkD]; omega⟩
    obtain ⟨l, e4, hl, hwl, hbl⟩ := key
    refine ⟨.mk k b m s t l, by rw [encV_mk]; simp [dvOf, dvCat, e2, e4], ⟨hk, hm, hs, ht, hl, hwl⟩, ?_⟩
    simp only [bulkV, bulkD, bulkDs]
    omega
theorem vals_of {tV tL tD tI tB tS : TypeId} (T : ValT P tV tL tD tI tB tS) {n : Nat} {d : DataW H} (h : TD P n tL d) (hw : (d.weights P tL).all (· ≤ reachBytes) = true) :
    ∃ l : List V, dvOf d = [.sl (l.map encV)] ∧ l.length * 72 ≤ reach ∧ wfVs l ∧ bulkVs l ≤ bulkD d := by
  cases n with
  | zero => exact h.elim
  | succ n =>
    simp only [TD, T.L] at h
    rcases h with rfl | ⟨el, sp, rfl, he⟩
    · exact ⟨[], by simp [dvOf], by simp [reach], trivial, by simp [bulkVs]⟩
    · simp only [DataW.weights, T.L, List.all_cons, List.all_append, Bool.and_eq_true, decide_eq_true_eq, T.bytes] at hw
      have go : ∀ el : List (DataW H), (∀ x ∈ el, TD P n tV x) → (DataW.weightsAll P tV el).all (· ≤ reachBytes) = true → ∃ l : List V, dvAll el = l.map encV ∧ l.length = el.length ∧ wfVs l ∧ bulkVs l ≤ bulkDs el := by
        intro el
        induction el with
        | nil => intro _ _; exact ⟨[], rfl, rfl, trivial, Nat.le_refl _⟩
        | cons x el ihl =>
          intro h1 h2
          simp only [DataW.weightsAll, List.all_append, Bool.and_eq_true] at h2
          obtain ⟨v, q1, q2, q3⟩ := val_of T n x (h1 x (by simp)) h2.1
          obtain ⟨l, r1, r2, r3, r4⟩ := ihl (fun y hy => h1 y (by simp [hy])) h2.2
          exact ⟨v :: l, by simp [dvAll, q1, r1], by simp [r2], ⟨q2, r3⟩, by simp only [bulkVs, bulkDs]; omega⟩
      obtain ⟨l, r1, r2, r3, r4⟩ := go el he hw.2.1
      have hb := hw.1
      simp only [reachBytes] at hb
      exact ⟨l, by simp [dvOf, r1], by rw [r2]; simp only [reach]; omega, r3, by simp only [bulkD]; omega⟩
end Go.Ds
