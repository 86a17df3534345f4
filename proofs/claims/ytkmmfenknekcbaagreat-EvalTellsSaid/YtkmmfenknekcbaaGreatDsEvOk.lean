/-
  WHAT IS ANSWERED MAY BE: plain laws of chapter 6.
-/
import Derived.Test.YtkmmfenknekcbaaGreatDsEval
set_option linter.unusedSimpArgs false
set_option linter.unusedVariables false
namespace Go.Ds
open Go.Ae
theorem isV_mk {k : Int} {b : Bool} {m s : Int} {t : Str} {l : List V} {n : Nat} (h : isV (.mk k b m s t l) n = true) :
    (k = 1 ∨ b = false) ∧ (k = 2 ∨ (m = 0 ∧ s = 0)) ∧ (k = 3 ∨ t = []) ∧ (k = 4 ∨ l = []) ∧ (k = 0 ∨ k = 1 ∨ (k = 2 ∧ isD m s = true) ∨ (k = 3 ∧ isT t = true) ∨ (k = 4 ∧ n < 2 ∧ l.length ≤ 8)) ∧ ∀ v ∈ l, isV v (n + 1) = true := by
  have he := isV_elems h
  simp only [isV, isVs_eq, bare, Bool.and_eq_true, Bool.or_eq_true, decide_eq_true_eq, Bool.not_eq_true', List.length_eq_zero_iff] at h
  obtain ⟨⟨⟨⟨h1, h2⟩, h3⟩, h4⟩, h5⟩ := h
  refine ⟨h1, h2, h3, h4, ?_, he⟩
  rcases h5 with (((h5 | h5) | h5) | h5) | h5
  · exact .inl h5
  · exact .inr (.inl h5)
  · exact .inr (.inr (.inl h5))
  · exact .inr (.inr (.inr (.inl h5)))
  · exact .inr (.inr (.inr (.inr ⟨h5.1.1.1, h5.1.1.2, h5.1.2⟩)))
theorem isV_of {k : Int} {b : Bool} {m s : Int} {t : Str} {l : List V} {n : Nat}
    (h : (k = 1 ∨ b = false) ∧ (k = 2 ∨ (m = 0 ∧ s = 0)) ∧ (k = 3 ∨ t = []) ∧ (k = 4 ∨ l = []) ∧ (k = 0 ∨ k = 1 ∨ (k = 2 ∧ isD m s = true) ∨ (k = 3 ∧ isT t = true) ∨ (k = 4 ∧ n < 2 ∧ l.length ≤ 8)) ∧ ∀ v ∈ l, isV v (n + 1) = true) : isV (.mk k b m s t l) n = true := by
  obtain ⟨h1, h2, h3, h4, h5, h6⟩ := h
  simp only [isV, isVs_eq, bare, Bool.and_eq_true, Bool.or_eq_true, decide_eq_true_eq, Bool.not_eq_true', List.length_eq_zero_iff]
  refine ⟨⟨⟨⟨h1, h2⟩, h3⟩, h4⟩, ?_⟩
  rcases h5 with h5 | h5 | h5 | h5 | h5
  · exact .inl (.inl (.inl (.inl h5)))
  · exact .inl (.inl (.inl (.inr h5)))
  · exact .inl (.inl (.inr h5))
  · exact .inl (.inr h5)
  · exact .inr ⟨⟨⟨h5.1, h5.2.1⟩, h5.2.2⟩, List.all_eq_true.2 h6⟩
theorem isV_wf : ∀ (v : V) (n : Nat), isV v n = true → wfV v := by
  intro v
  induction v using V.ind with
  | h k b m s t l ih =>
    intro n h
    obtain ⟨h1, h2, h3, h4, h5, h6⟩ := isV_mk h
    have hm : (-9223372036854775808 ≤ m ∧ m ≤ 9223372036854775807) ∧ (-9223372036854775808 ≤ s ∧ s ≤ 9223372036854775807) := by
      rcases h5 with rfl | rfl | ⟨rfl, h5⟩ | ⟨rfl, h5⟩ | ⟨rfl, h5⟩
      · omega
      · omega
      · have := isD_iff.1 h5; omega
      · omega
      · omega
    have ht : t.length ≤ reach := by
      rcases h5 with rfl | rfl | ⟨rfl, h5⟩ | ⟨rfl, h5⟩ | ⟨rfl, h5⟩
      · rw [h3.resolve_left (by omega)]; simp [reach]
      · rw [h3.resolve_left (by omega)]; simp [reach]
      · rw [h3.resolve_left (by omega)]; simp [reach]
      · simp [isT] at h5; simp [reach]; omega
      · rw [h3.resolve_left (by omega)]; simp [reach]
    have hl : l.length * 72 ≤ reach := by
      rcases h5 with rfl | rfl | ⟨rfl, h5⟩ | ⟨rfl, h5⟩ | ⟨rfl, h5⟩
      · rw [h4.resolve_left (by omega)]; simp [reach]
      · rw [h4.resolve_left (by omega)]; simp [reach]
      · rw [h4.resolve_left (by omega)]; simp [reach]
      · rw [h4.resolve_left (by omega)]; simp [reach]
      · simp [reach]; omega
    exact ⟨by omega, hm.1, hm.2, ht, hl, wfVs_iff.2 fun v hv => ih v hv (n + 1) (h6 v hv)⟩
theorem isV_mono : ∀ (v : V) (n : Nat), isV v (n + 1) = true → isV v n = true := by
  intro v
  induction v using V.ind with
  | h k b m s t l ih =>
    intro n h
    obtain ⟨h1, h2, h3, h4, h5, h6⟩ := isV_mk h
    refine isV_of ⟨h1, h2, h3, h4, ?_, fun v hv => ih v hv (n + 1) (h6 v hv)⟩
    rcases h5 with h5 | h5 | h5 | h5 | h5
    · exact .inl h5
    · exact .inr (.inl h5)
    · exact .inr (.inr (.inl h5))
    · exact .inr (.inr (.inr (.inl h5)))
    · exact .inr (.inr (.inr (.inr ⟨h5.1, by omega, h5.2.2⟩)))
theorem nest_le : ∀ {l : List V} {v : V}, v ∈ l → nestV v ≤ nestVs l
  | [], _, h => by simp at h
  | w :: l, v, h => by
    rw [nestVs]
    rcases List.mem_cons.1 h with rfl | h
    · exact Nat.le_max_left _ _
    · exact Nat.le_trans (nest_le h) (Nat.le_max_right _ _)
theorem isV_nest : ∀ (v : V) (n p : Nat), isV v p = true → nestV v + n ≤ 2 → isV v n = true := by
  intro v
  induction v using V.ind with
  | h k b m s t l ih =>
    intro n p h hn
    obtain ⟨h1, h2, h3, h4, h5, h6⟩ := isV_mk h
    rw [nestV] at hn
    have hl : ∀ v ∈ l, isV v (n + 1) = true := fun v hv => by
      have hk : k = 4 := h4.resolve_right fun e => by subst e; simp at hv
      rw [if_pos hk] at hn
      have := nest_le hv
      exact ih v hv (n + 1) (p + 1) (h6 v hv) (by omega)
    refine isV_of ⟨h1, h2, h3, h4, ?_, hl⟩
    rcases h5 with h5 | h5 | h5 | h5 | h5
    · exact .inl h5
    · exact .inr (.inl h5)
    · exact .inr (.inr (.inl h5))
    · exact .inr (.inr (.inr (.inl h5)))
    · rw [if_pos h5.1] at hn
      exact .inr (.inr (.inr (.inr ⟨h5.1, by omega, h5.2.2⟩)))
theorem isV_null (n : Nat) : isV nullV n = true := isV_of (by simp)
theorem isV_truth (b : Bool) (n : Nat) : isV (truthV b) n = true := isV_of (by simp)
theorem isV_num {m s : Int} (h : isD m s = true) (n : Nat) : isV (numV m s) n = true := isV_of (by simp [h])
theorem isV_text {t : Str} (h : isT t = true) (n : Nat) : isV (textV t) n = true := isV_of (by simp [h])
theorem isV_D {v : V} {n : Nat} (h : isV v n = true) : isD v.m v.s = true := by
  rcases v with ⟨k, b, m, s, t, l⟩
  obtain ⟨_, h2, _, _, h5, _⟩ := isV_mk h
  rcases h5 with rfl | rfl | ⟨rfl, h5⟩ | ⟨rfl, h5⟩ | ⟨rfl, h5⟩
  · obtain ⟨rfl, rfl⟩ := h2.resolve_left (by omega); exact isD_zero
  · obtain ⟨rfl, rfl⟩ := h2.resolve_left (by omega); exact isD_zero
  · exact h5
  · obtain ⟨rfl, rfl⟩ := h2.resolve_left (by omega); exact isD_zero
  · obtain ⟨rfl, rfl⟩ := h2.resolve_left (by omega); exact isD_zero
theorem isV_T {v : V} {n : Nat} (h : isV v n = true) : isT v.t = true := by
  rcases v with ⟨k, b, m, s, t, l⟩
  obtain ⟨_, _, h3, _, h5, _⟩ := isV_mk h
  have e : isT ([] : Str) = true := by simp [isT]
  rcases h5 with rfl | rfl | ⟨rfl, h5⟩ | ⟨rfl, h5⟩ | ⟨rfl, h5⟩
  · rw [show t = [] from h3.resolve_left (by omega)]; exact e
  · rw [show t = [] from h3.resolve_left (by omega)]; exact e
  · rw [show t = [] from h3.resolve_left (by omega)]; exact e
  · exact h5
  · rw [show t = [] from h3.resolve_left (by omega)]; exact e
theorem isV_L {v : V} {n : Nat} (h : isV v n = true) : v.l.length ≤ 8 ∧ ∀ x ∈ v.l, isV x n = true := by
  rcases v with ⟨k, b, m, s, t, l⟩
  obtain ⟨_, _, _, h4, h5, h6⟩ := isV_mk h
  refine ⟨?_, fun x hx => isV_mono x n (h6 x hx)⟩
  rcases h4 with rfl | h4
  · rcases h5 with h | h | h | h | h
    · omega
    · omega
    · omega
    · omega
    · exact h.2.2
  · rw [show l = [] from h4] at *; simp [V.l]
theorem isV_and (a b : V) : isV (andV a b) 0 = true := by
  unfold andV; split; exact isV_truth _ _; split; exact isV_truth _ _; exact isV_null _
theorem isV_or (a b : V) : isV (orV a b) 0 = true := by
  unfold orV; split; exact isV_truth _ _; split; exact isV_truth _ _; exact isV_null _
theorem isV_not (a : V) : isV (notV a) 0 = true := by
  unfold notV; split; exact isV_truth _ _; exact isV_null _
theorem isV_rel (op : Str) (a b : V) : isV (relV op a b) 0 = true := by
  unfold relV
  repeat' split
  all_goals first | exact isV_truth _ _ | exact isV_null _
theorem isV_found {r : (Int × Int) × Int} (h : (r.2 = 0 ∧ isD r.1.1 r.1.2 = true) ∨ r = ((0, 0), 3) ∨ r = ((0, 0), 1)) : isV (foundV r).1 0 = true := by
  unfold foundV
  split
  · exact isV_null _
  · rename_i h0
    rcases h with h | rfl | rfl
    · exact isV_num h.2 _
    · simp at h0
    · simp at h0
theorem addP_ok (m s m' s' : Int) : ((addP m s m' s').2 = 0 ∧ isD (addP m s m' s').1.1 (addP m s m' s').1.2 = true) ∨ addP m s m' s' = ((0, 0), 3) ∨ addP m s m' s' = ((0, 0), 1) := fitP_isD _ _
theorem isV_arith (op : Str) (a b : V) : isV (arithV op a b).1 0 = true := by
  unfold arithV
  repeat' split
  all_goals first | exact isV_null _ | exact isV_found (fitP_isD _ _) | skip
  unfold divP
  split <;> exact isV_found (fitP_isD _ _)
theorem isV_cat {t : Str} (h : t.all isC = true) : isV (catV t).1 0 = true := by
  unfold catV
  split
  · exact isV_null _
  · rename_i h0
    exact isV_text (by simp only [isT, h, Bool.and_true, decide_eq_true_eq]; omega) _
theorem isT_all {t : Str} (h : isT t = true) : t.all isC = true := by simp only [isT, Bool.and_eq_true] at h; exact h.2
theorem isV_bin (op : Str) {a b : V} (ha : isV a 0 = true) (hb : isV b 0 = true) : isV (binV op a b).1 0 = true := by
  unfold binV
  repeat' split
  · exact isV_and _ _
  · exact isV_or _ _
  · exact isV_arith _ _ _
  · exact isV_cat (by rw [List.all_append, isT_all (isV_T ha), isT_all (isV_T hb)]; rfl)
  · exact isV_null _
  · exact isV_rel _ _ _
theorem isV_list {l : List V} (h : ∀ v ∈ l, isV v 0 = true) : isV (mklistV l).1 0 = true := by
  unfold mklistV
  split
  · exact isV_null _
  · rename_i h0
    have h0 : l.length ≤ 8 ∧ nestV (listV l) ≤ 2 := by omega
    rw [nestV, if_pos rfl] at h0
    exact isV_of ⟨.inr rfl, .inr ⟨rfl, rfl⟩, .inr rfl, .inl rfl, .inr (.inr (.inr (.inr ⟨rfl, by omega, h0.1⟩))), fun v hv => isV_nest v 1 0 (h v hv) (by have := nest_le hv; omega)⟩
theorem leastV_mem (sign : Int) : ∀ (l : List V) (x : V), leastV sign x l = x ∨ leastV sign x l ∈ l
  | [], x => .inl rfl
  | v :: l, x => by
    rw [leastV]
    rcases leastV_mem sign l (if cmpV v x * sign < 0 then v else x) with h | h
    · rw [h]
      split
      · exact .inr (by simp)
      · exact .inl rfl
    · exact .inr (List.mem_cons_of_mem _ h)
theorem isV_sum : ∀ (l : List V) (m s : Int), isD m s = true → isV (sumV m s l).1 0 = true
  | [], m, s, h => isV_num h _
  | v :: l, m, s, h => by
    rw [sumV]
    split
    · exact isV_null _
    · rename_i h0
      rcases addP_ok m s v.m v.s with h1 | h1 | h1
      · exact isV_sum l _ _ h1.2
      · rw [h1] at h0; simp at h0
      · rw [h1] at h0; simp at h0
theorem elems_ok {l : List V} (h : ∀ v ∈ l, isV v 0 = true) : ∀ v ∈ elemsV l, isV v 0 = true := by
  unfold elemsV
  split
  · rename_i v
    split
    · exact (isV_L (h v (by simp))).2
    · exact h
  · exact h
theorem isV_many (name : Str) {l : List V} (h : ∀ v ∈ l, isV v 0 = true) : isV (manyV name l).1 0 = true := by
  have he := elems_ok h
  unfold manyV
  split
  · split
    · split
      · exact isV_null _
      · exact isV_sum _ _ _ isD_zero
    · split
      · exact isV_null _
      · rename_i x r hx
        rw [hx] at he
        rcases leastV_mem (if name = wMin then 1 else -1) r x with h1 | h1
        · show isV (leastV _ x r) 0 = true
          rw [h1]; exact he x (by simp)
        · exact he _ (List.mem_cons_of_mem _ h1)
  · exact isV_null _
theorem catAll_all : ∀ {l : List V}, (∀ v ∈ l, isV v 0 = true) → (catAll l).all isC = true
  | [], _ => rfl
  | v :: l, h => by rw [catAll, List.all_append, isT_all (isV_T (h v (by simp))), catAll_all fun w hw => h w (by simp [hw])]; rfl
theorem isD_whole {m : Int} (h : -1000000000 ≤ m ∧ m ≤ 1000000000) : isD m 0 = true := isD_iff.2 ⟨h, by omega, .inl rfl⟩
theorem isV_one (name : Str) {v : V} (h : isV v 0 = true) : isV (oneV name v) 0 = true := by
  have hD := isD_iff.1 (isV_D h)
  unfold oneV
  split
  · exact isV_not _
  split
  · have := isV_T h
    simp only [isT, Bool.and_eq_true, decide_eq_true_eq] at this
    exact isV_num (isD_whole (by omega)) _
  split
  · have := (isV_L h).1
    exact isV_num (isD_whole (by omega)) _
  split
  · exact isV_null _
  split
  · refine isV_num (isD_iff.2 ?_) _
    split
    · exact ⟨by omega, hD.2.1, hD.2.2.imp id fun h => by omega⟩
    · exact hD
  have p := pow10_pos v.s.toNat
  split
  · exact isV_num (isD_whole (q_bound _ _ p 1000000000 hD.1 (by omega))) _
  split
  · have := q_bound (-v.m) _ p 1000000000 (by omega) (by omega)
    exact isV_num (isD_whole (by omega)) _
  · exact isV_null _
theorem tmod_range (a b : Int) (hb : b ≠ 0) : -(b.natAbs : Int) < a.tmod b ∧ a.tmod b < b.natAbs := by
  by_cases h : 0 < b
  · have h1 := Int.tmod_lt_of_pos a h
    have h2 := Int.lt_tmod_of_pos a h
    omega
  · have h1 := Int.tmod_lt_of_pos a (show 0 < -b by omega)
    have h2 := Int.lt_tmod_of_pos a (show 0 < -b by omega)
    rw [Int.tmod_neg] at h1 h2
    omega
theorem modP_range (a b : Int) (hb : b ≠ 0) : (0 < b → 0 ≤ modP a b ∧ modP a b < b) ∧ (b < 0 → b < modP a b ∧ modP a b ≤ 0) := by
  have h := tmod_range a b hb
  unfold modP
  split
  · rename_i h1
    simp only [ne_eq, decide_eq_decide] at h1
    constructor <;> intro h2 <;> omega
  · rename_i h1
    simp only [ne_eq, decide_eq_decide] at h1
    constructor <;> intro h2 <;> omega
theorem isV_two (name : Str) {a b : V} (ha : isV a 0 = true) (hb : isV b 0 = true) : isV (twoV name a b) 0 = true := by
  unfold twoV
  split
  · exact isV_truth _ _
  split
  · rename_i h0
    have hm := h0.2.2.2.2.2
    have hB := (isD_iff.1 (isV_D hb)).1
    have := modP_range a.m b.m hm
    exact isV_num (isD_whole (by
      by_cases h : 0 < b.m
      · have := this.1 h; omega
      · have := this.2 (by omega); omega)) _
  · exact isV_null _
theorem isV_call (name : Str) {l : List V} (h : ∀ v ∈ l, isV v 0 = true) : isV (callV name l).1 0 = true := by
  unfold callV
  split
  · exact isV_many name h
  split
  · split
    · exact isV_null _
    · exact isV_cat (catAll_all h)
  split
  · exact isV_one name (h _ (by simp))
  · exact isV_two name (h _ (by simp)) (h _ (by simp))
  · exact isV_null _
/-- Names' values that may be. -/
def okEnv (env : Env) : Prop := ∀ x ∈ env, isV x.2 0 = true
theorem isV_name {env : Env} (h : okEnv env) (t : Str) : isV (nameV t env) 0 = true := by
  induction env with
  | nil => exact isV_null _
  | cons x env ih =>
    rcases x with ⟨s, v⟩
    rw [nameV]
    split
    · exact h (s, v) (by simp)
    · exact ih fun y hy => h y (by simp [hy])
theorem isV_bang {l : List V} (h : ∀ v ∈ l, isV v 0 = true) (i : Nat) : isV l[i]! 0 = true := by
  by_cases hi : i < l.length
  · rw [getElem!_pos l i hi]; exact h _ (List.getElem_mem hi)
  · rw [getElem!_neg l i hi]; exact isV_null 0
theorem isV_ofV (k : Int) (t : Str) (lo hi : Bool) {l : List V} (h : ∀ v ∈ l, isV v 0 = true) : isV (ofV k t lo hi l).1 0 = true := by
  unfold ofV
  split
  · exact isV_bin _ (isV_bang h 0) (isV_bang h 1)
  split
  · exact isV_bin _ (isV_num isD_zero 0) (isV_bang h 0)
  split
  · exact isV_list h
  split
  · exact isV_and _ _
  · exact isV_call _ h
theorem evalS_ok {env : Env} (he : okEnv env) : ∀ e : E, isV (evalS env e).1 0 = true := by
  intro e
  induction e using E.ind with
  | h k b m s t lo hi l ih =>
    rw [evalS]
    split
    · exact isV_null _
    rename_i hmay
    split
    · match l, ih with
      | [], _ => exact isV_null _
      | [_], _ => exact isV_null _
      | [_, _], _ => exact isV_null _
      | c :: x :: y :: r, ih =>
        rw [evalIf]
        split
        · exact isV_null _
        split
        · exact ih x (by simp)
        · exact ih y (by simp)
    split
    · unfold leafV
      split
      · exact isV_truth _ _
      split
      · rename_i h3
        refine isV_num ?_ _
        subst h3
        have hm : mayE 3 m s t l.length = true := by simpa using hmay
        simp only [mayE, Bool.and_eq_true] at hm
        simpa using hm.1.2
      split
      · rename_i h4
        refine isV_text ?_ _
        subst h4
        have hm : mayE 4 m s t l.length = true := by simpa using hmay
        simp only [mayE, Bool.and_eq_true] at hm
        simpa using hm.2
      split
      · exact isV_name he t
      · exact isV_null _
    split
    · exact isV_null _
    · refine isV_ofV _ _ _ _ ?_
      clear hmay
      have : ∀ l : List E, (∀ e ∈ l, isV (evalS env e).1 0 = true) → ∀ v ∈ (evalAll env l).1, isV v 0 = true := by
        intro l
        induction l with
        | nil => intro _ v hv; simp [evalAll] at hv
        | cons e l ihl =>
          intro h v hv
          rw [evalAll] at hv
          split at hv
          · simp at hv
          split at hv
          · simp at hv
          · rcases List.mem_cons.1 hv with rfl | hv
            · exact h e (by simp)
            · exact ihl (fun x hx => h x (by simp [hx])) v hv
      exact this l ih
end Go.Ds
