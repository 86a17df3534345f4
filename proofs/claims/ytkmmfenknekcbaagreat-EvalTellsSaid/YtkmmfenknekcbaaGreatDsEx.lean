/-
  EXPRESSIONS AND NAMES' VALUES, AS THEY ARE READ.
-/
import Derived.Test.YtkmmfenknekcbaaGreatDsEvOk
import Derived.Test.YtkmmfenknekcbaaGreatDsRead
set_option linter.unusedSimpArgs false
set_option linter.unusedVariables false
namespace Go.Ds
open Go Go.Ae
mutual
def wfE : E → Prop
  | .mk k _ m s t _ _ l => (-9223372036854775808 ≤ k ∧ k ≤ 9223372036854775807) ∧ (-9223372036854775808 ≤ m ∧ m ≤ 9223372036854775807) ∧ (-9223372036854775808 ≤ s ∧ s ≤ 9223372036854775807) ∧ t.length ≤ reach ∧ l.length * 80 ≤ reach ∧ wfEs l
def wfEs : List E → Prop
  | [] => True
  | e :: l => wfE e ∧ wfEs l
end
theorem wfEs_iff : ∀ {l : List E}, wfEs l ↔ ∀ e ∈ l, wfE e
  | [] => by simp [wfEs]
  | e :: l => by simp [wfEs, wfEs_iff (l := l)]
mutual
def bulkE : E → Nat
  | .mk _ _ _ _ t _ _ l => t.length + bulkEs l + 1
def bulkEs : List E → Nat
  | [] => 0
  | e :: l => bulkE e + bulkEs l
end
/-- A name and its value. -/
def encB (x : Str × V) : List DV := .str x.1 :: encV x.2
@[simp] theorem encB_len (x : Str × V) : (encB x).length = 7 := by simp [encB]
@[simp] theorem takeN_encB (x : Str × V) : takeN 7 (encB x) = some (encB x) := takeN_all (encB_len x)
variable {P : Program} {H : Type}
/-- The types of expressions. -/
structure ExpT (P : Program) (tE tK tD tI tB tS : TypeId) : Prop where
  E : ∃ f0 f1 f2 f3 f4 f5 f6, P.underlying tE = some (.struct #[f0, f1, f2, f3, f4, f5, f6]) ∧ f0.type = tI ∧ f1.type = tB ∧ f2.type = tD ∧ f3.type = tS ∧ f4.type = tB ∧ f5.type = tB ∧ f6.type = tK
  K : P.underlying tK = some (.slice tE)
  bytes : P.bytesOf tE = 80
theorem TD_up : ∀ (n : Nat) (t : TypeId) (x : DataW H), TD P n t x → TD P (n + 1) t x := by
  intro n
  induction n with
  | zero => intro t x h; exact h.elim
  | succ n ihn =>
    intro t x h
    have upf : ∀ (fs : List Field) (ps : List (DataW H)), TDf (TD P n) fs ps → TDf (TD P (n + 1)) fs ps := by
      intro fs
      induction fs with
      | nil => intro ps h; exact h
      | cons f fs ihf => intro ps h; obtain ⟨d, r, h1, h2, h3⟩ := h; exact ⟨d, r, h1, ihn _ _ h2, ihf _ h3⟩
    rw [TD] at h ⊢
    split at h <;> rename_i hu
    · exact h
    · exact h
    · exact h
    · exact h.imp id fun ⟨el, sp, h1, h2⟩ => ⟨el, sp, h1, fun x hx => ihn _ _ (h2 x hx)⟩
    · exact h.imp fun ps ⟨h1, h2⟩ => ⟨h1, upf _ _ h2⟩
    · exact h.elim
theorem exp_of {tV tL tE tK tD tI tB tS : TypeId} (T : ValT P tV tL tD tI tB tS) (X : ExpT P tE tK tD tI tB tS) : ∀ (n : Nat) (d : DataW H), TD P n tE d → (d.weights P tE).all (· ≤ reachBytes) = true → ∃ e : E, dvOf d = encE e ∧ wfE e ∧ bulkE e ≤ bulkD d := by
  intro n
  induction n with
  | zero => intro d h; exact h.elim
  | succ n ih =>
    intro d h hw
    obtain ⟨f0, f1, f2, f3, f4, f5, f6, hu, t0, t1, t2, t3, t4, t5, t6⟩ := X.E
    simp only [TD, hu, TDf] at h
    obtain ⟨ps, rfl, d0, _, rfl, h0, d1, _, rfl, h1, d2, _, rfl, h2, d3, _, rfl, h3, d4, _, rfl, h4, d5, _, rfl, h5, d6, _, rfl, h6, rfl⟩ := h
    simp only [DataW.weights, hu, List.map_cons, List.map_nil, DataW.weightsEach, List.all_append, Bool.and_eq_true, t0, t1, t2, t3, t4, t5, t6] at hw
    rw [t0] at h0
    rw [t1] at h1
    rw [t2] at h2
    rw [t3] at h3
    rw [t4] at h4
    rw [t5] at h5
    rw [t6] at h6
    obtain ⟨k, rfl, hk⟩ := int_of T.I h0
    obtain ⟨b, rfl⟩ := bool_of T.B h1
    obtain ⟨m, s, e2, hm, hs⟩ := dec_of T h2
    obtain ⟨t, rfl, ht⟩ := str_of T.S h3 hw.2.2.2.1
    obtain ⟨lo, rfl⟩ := bool_of T.B h4
    obtain ⟨hi, rfl⟩ := bool_of T.B h5
    have key : ∃ l : List E, dvOf d6 = [.sl (l.map encE)] ∧ l.length * 80 ≤ reach ∧ wfEs l ∧ bulkEs l ≤ bulkD d6 := by
      cases n with
      | zero => exact h6.elim
      | succ n =>
        simp only [TD, X.K] at h6
        rcases h6 with rfl | ⟨el, sp, rfl, he⟩
        · exact ⟨[], by simp [dvOf], by simp [reach], trivial, by simp [bulkEs]⟩
        · have hw6 := hw.2.2.2.2.2.2.1
          simp only [DataW.weights, X.K, List.all_cons, List.all_append, Bool.and_eq_true, decide_eq_true_eq, X.bytes] at hw6
          have go : ∀ el : List (DataW H), (∀ x ∈ el, TD P (n + 1) tE x) → (DataW.weightsAll P tE el).all (· ≤ reachBytes) = true → ∃ l : List E, dvAll el = l.map encE ∧ l.length = el.length ∧ wfEs l ∧ bulkEs l ≤ bulkDs el := by
            intro el
            induction el with
            | nil => intro _ _; exact ⟨[], rfl, rfl, trivial, Nat.le_refl _⟩
            | cons x el ihl =>
              intro h1 h2
              simp only [DataW.weightsAll, List.all_append, Bool.and_eq_true] at h2
              obtain ⟨v, q1, q2, q3⟩ := ih x (h1 x (by simp)) h2.1
              obtain ⟨l, r1, r2, r3, r4⟩ := ihl (fun y hy => h1 y (by simp [hy])) h2.2
              exact ⟨v :: l, by simp [dvAll, q1, r1], by simp [r2], ⟨q2, r3⟩, by simp only [bulkEs, bulkDs]; omega⟩
          obtain ⟨l, r1, r2, r3, r4⟩ := go el (fun x hx => TD_up _ _ _ (he x hx)) hw6.2.1
          have hb := hw6.1
          simp only [reachBytes] at hb
          exact ⟨l, by simp [dvOf, r1], by rw [r2]; simp only [reach]; omega, r3, by simp only [bulkD]; omega⟩
    obtain ⟨l, e6, hl, hwl, hbl⟩ := key
    refine ⟨.mk k b m s t lo hi l, by rw [encE_mk]; simp [dvOf, dvCat, e2, e6], ⟨hk, hm, hs, ht, hl, hwl⟩, ?_⟩
    simp only [bulkE, bulkD, bulkDs]
    omega
/-- The types of names with values. -/
structure BindT (P : Program) (tB tV tS tLB : TypeId) : Prop where
  B : ∃ f0 f1, P.underlying tB = some (.struct #[f0, f1]) ∧ f0.type = tS ∧ f1.type = tV
  L : P.underlying tLB = some (.slice tB)
  bytes : P.bytesOf tB = 88
def wfEnv (env : Env) : Prop := env.length * 88 ≤ reach ∧ ∀ x ∈ env, x.1.length ≤ reach ∧ wfV x.2
theorem env_of {tV tL tD tI tB tS tN tLN : TypeId} (T : ValT P tV tL tD tI tB tS) (X : BindT P tN tV tS tLN) {n : Nat} {d : DataW H} (h : TD P n tLN d) (hw : (d.weights P tLN).all (· ≤ reachBytes) = true) :
    ∃ env : Env, dvOf d = [.sl (env.map encB)] ∧ wfEnv env := by
  cases n with
  | zero => exact h.elim
  | succ n =>
    simp only [TD, X.L] at h
    rcases h with rfl | ⟨el, sp, rfl, he⟩
    · exact ⟨[], by simp [dvOf], by simp [reach], by simp⟩
    · simp only [DataW.weights, X.L, List.all_cons, List.all_append, Bool.and_eq_true, decide_eq_true_eq, X.bytes] at hw
      obtain ⟨f0, f1, hu, t0, t1⟩ := X.B
      have go : ∀ el : List (DataW H), (∀ x ∈ el, TD P n tN x) → (DataW.weightsAll P tN el).all (· ≤ reachBytes) = true → ∃ l : Env, dvAll el = l.map encB ∧ l.length = el.length ∧ ∀ x ∈ l, x.1.length ≤ reach ∧ wfV x.2 := by
        intro el
        induction el with
        | nil => intro _ _; exact ⟨[], rfl, rfl, by simp⟩
        | cons x el ihl =>
          intro h1 h2
          simp only [DataW.weightsAll, List.all_append, Bool.and_eq_true] at h2
          have hx := h1 x (by simp)
          cases n with
          | zero => exact hx.elim
          | succ n =>
            simp only [TD, hu, TDf] at hx
            obtain ⟨ps, rfl, d0, _, rfl, h0, d1, _, rfl, h1', rfl⟩ := hx
            have h21 := h2.1
            simp only [DataW.weights, hu, List.map_cons, List.map_nil, DataW.weightsEach, List.all_append, Bool.and_eq_true, t0, t1] at h21
            rw [t0] at h0
            rw [t1] at h1'
            obtain ⟨s, rfl, hs⟩ := str_of T.S h0 h21.1
            obtain ⟨v, q1, q2, _⟩ := val_of T n _ h1' h21.2.1
            obtain ⟨l, r1, r2, r3⟩ := ihl (fun y hy => h1 y (by simp [hy])) h2.2
            refine ⟨(s, v) :: l, by simp [dvAll, dvOf, dvCat, q1, r1, encB], by simp [r2], fun y hy => ?_⟩
            rcases List.mem_cons.1 hy with rfl | hy
            · exact ⟨hs, q2⟩
            · exact r3 y hy
      obtain ⟨l, r1, r2, r3⟩ := go el he hw.2.1
      have hb := hw.1
      simp only [reachBytes] at hb
      exact ⟨l, by simp [dvOf, r1], by rw [r2]; simp only [reach]; omega, r3⟩
end Go.Ds
