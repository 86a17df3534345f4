/-
  CODE, FUNCTIONS, PROGRAMS: what the evaluator says, the model does.
-/
import Derived.Test.YtkmmfenknekcbaaGreatAeDraw
import Derived.Deep.LoopGhost
import Derived.Orders
set_option linter.unusedSimpArgs false
set_option linter.unusedVariables false
namespace Go.Ae
open Go.RowKit
variable {P : Program} {w0 : World} {E0 E : Env} {nob nt : Nat} {dn : Nat → Prop} {w w' : World}

def ClOk (P : Program) (cl : FuncId → Fun) : Prop := ∀ f, (∀ a o, cl f a o = none) ∨ (Enters P f ∧ Fits P f (cl f))
theorem rgn_no {cl : FuncId → Fun} : ∀ {l : List AOper} {i : Nat} {st st' : St}, rgn cl i st l = some st' → st'.no = st.no ∧ st'.nx = st.nx
  | [], _, _, _, h => by simp [rgn] at h; subst h; exact ⟨rfl, rfl⟩
  | o :: l, i, st, st', h => by
    simp only [rgn, Option.bind_eq_some_iff] at h
    obtain ⟨e, _, h2⟩ := h
    have := rgn_no (l := l) h2
    exact this
theorem rgF_no {cl : FuncId → Fun} : ∀ {l : List AOper} {i : Nat} {st st' : St} {fs : List Foot}, rgF cl i st l = some (st', fs) → st'.no = st.no ∧ st'.nx = st.nx
  | [], _, _, _, _, h => by simp [rgF] at h; obtain ⟨rfl, _⟩ := h; exact ⟨rfl, rfl⟩
  | o :: l, i, st, st', fs, h => by
    simp only [rgF, Option.bind_eq_some_iff, Option.some.injEq, Prod.mk.injEq] at h
    obtain ⟨e, _, r, h2, h3, _⟩ := h
    have := rgF_no (l := l) (st' := r.1) (fs := r.2) h2
    rw [h3] at this
    exact this
theorem Sim.next {st st0 : St} {a : Act} (h : Sim P w0 E0 nob nt E st dn a w) {n : Nat} (hn : ∀ j, dn j → j < n) (h1 : st.no = st0.no) (h2 : st.nx = st0.nx) : Sim P w0 E0 nob nt E (st0.next n st) (fun _ => False) a w :=
  { h with sc := { h.sc with
      Vb := fun id hv => .inl (by
        simp only [St.next]
        rcases h.sc.Vb id hv with q | ⟨j, q1, q2⟩
        · omega
        · have := hn j q1; omega)
      Ub := fun t hu => .inl (by
        simp only [St.next]
        rcases h.sc.Ub t hu with q | ⟨j, q1, q2⟩
        · omega
        · have := hn j q1; omega)
      nno := by have := h.sc.nno; simp only [St.next]; omega } }

theorem mapO_len {α β : Type} {f : α → Option β} : ∀ {l : List α} {m : List β}, mapO f l = some m → m.length = l.length
  | [], _, h => by simp [mapO] at h; subst h; rfl
  | x :: l, _, h => by
    simp only [mapO, Option.bind_eq_some_iff, Option.some.injEq, Option.map_eq_some_iff] at h
    obtain ⟨y, _, r, h2, rfl⟩ := h
    simp [mapO_len h2]
theorem mapO_get {α β : Type} {f : α → Option β} : ∀ {l : List α} {m : List β} {i : Nat} {x : α} {y : β}, mapO f l = some m → l[i]? = some x → m[i]? = some y → f x = some y
  | [], _, _, _, _, _, h, _ => by simp at h
  | x :: l, _, i, _, _, h, hx, hy => by
    simp only [mapO, Option.bind_eq_some_iff, Option.some.injEq, Option.map_eq_some_iff] at h
    obtain ⟨z, h1, r, h2, rfl⟩ := h
    cases i with
    | zero => simp at hx hy; subst hx; subst hy; exact h1
    | succ i => simp at hx hy; exact mapO_get h2 hx hy

section
variable {eqT : TypeId → Bool} (hEq : EqT P eqT) {cl : FuncId → Fun} (hcl : ClOk P cl)
include hEq hcl

theorem wpList_rgn {ops : Array Oper} {Q : Exit → Act → World → Prop} {st' : St} {n : Nat} (hQ : ∀ E' a' w' dn', Sim P w0 E0 nob nt E' st' dn' a' w' → (∀ j, dn' j → j < n) → Q .normal a' w') :
    ∀ (l : List Oper) (as : List AOper) (k : Nat) (st : St) (dn : Nat → Prop) (a : Act) (w : World) (E : Env), mapO (cOper P eqT nt ops) l = some as → k + l.length = n → Sim P w0 E0 nob nt E st dn a w → (∀ j, dn j → j < k) → rgn cl k st as = some st' → wpList P ops Q l a w
  | [], as, k, st, dn, a, w, E, hm, hn, hs, hd, h => by
    simp [mapO] at hm
    subst hm
    simp only [rgn, Option.some.injEq] at h
    subst h
    exact hQ E a w dn hs fun j hj => by have := hd j hj; simp at hn; omega
  | o :: l, as, k, st, dn, a, w, E, hm, hn, hs, hd, h => by
    simp only [mapO, Option.bind_eq_some_iff, Option.some.injEq, Option.map_eq_some_iff] at hm
    obtain ⟨o', h1, as', h2, rfl⟩ := hm
    simp only [rgn, Option.bind_eq_some_iff] at h
    obtain ⟨e, h3, h4⟩ := h
    refine wpList_step fun K hK => sim_stepZ hEq hcl hs (fun q => by have := hd k q; omega) h1 h3 fun E' a' w' hs' => hK _ _ ?_
    exact wpList_rgn hQ l as' (k + 1) _ _ a' w' E' h2 (by simp at hn; omega) hs' (fun j hj => by rcases hj with hj | hj; have := hd j hj; omega; omega) h4

theorem wpAny_of_ae {ops : Array Oper} {as : List AOper} (hm : mapO (cOper P eqT nt ops) ops.toList = some as) {T : Nat → Foot} {Q0 : St → Prop} {Q : Exit → Act → World → Prop} (hQ : ∀ st' E' a' w' dn', Q0 st' → Sim P w0 E0 nob nt E' st' dn' a' w' → (∀ j, dn' j → j < ops.size) → Q .normal a' w') :
    ∀ (fuel : Nat) (listed : Array Bool) (st : St) (dn : Nat → Prop) (a : Act) (w : World) (E : Env), listed.size = ops.size → Sim P w0 E0 nob nt E st dn a w → (∀ j, dn j → listed.getD j false = true) → aeAny cl ops as T Q0 fuel listed st → wpAny P .any ops Q fuel listed a w := by
  have lt : ∀ {listed : Array Bool}, listed.size = ops.size → ∀ j, listed.getD j false = true → j < ops.size := fun {listed} hl j h => by
    rcases Nat.lt_or_ge j listed.size with h' | h'
    · omega
    · simp [Array.getElem?_eq_none h'] at h
  intro fuel
  induction fuel with
  | zero => exact fun listed st dn a w E hl hs hd h => ⟨h.1, hQ st E a w dn h.2 hs fun j hj => lt hl j (hd j hj)⟩
  | succ fuel ih =>
    intro listed st dn a w E hl hs hd h
    refine ⟨fun h0 => hQ st E a w dn (h.1 h0) hs fun j hj => lt hl j (hd j hj), fun i hi => ?_⟩
    obtain ⟨hun, o, ho, _⟩ := mem_ready.1 hi
    obtain ⟨o', e, q1, q2, _, q4⟩ := h.2 i hi
    have hc := mapO_get hm (by rw [Array.getElem?_toList]; exact ho) q1
    have hni : ¬ dn i := fun hdi => by
      have h1 := hd i hdi
      have hlt : i < listed.size := by rw [hl]; exact (Array.getElem?_eq_some_iff.1 ho).1
      simp [hlt] at hun h1
      rw [hun] at h1
      cases h1
    have := sim_step (Q := Q) (K := wpAny P .any ops Q fuel (listed.setIfInBounds i true)) hEq hcl hs hni hc q2 fun E' a' w' hs' => ih _ _ _ _ _ _ (by simpa using hl) hs' (fun j hj => by
      rcases hj with hj | rfl
      · exact getD_set_true (hd j hj)
      · have hlt : j < listed.size := by rw [hl]; exact (Array.getElem?_eq_some_iff.1 ho).1
        simp [hlt]) q4
    unfold wpOp
    simp only [ho]
    split
    · rename_i hw; rw [if_pos hw] at this; exact .inl this
    · rename_i hw; rw [if_neg hw] at this; exact this

def exitOf : AExit → Exit
  | .normal => .normal
  | .exit id => .exit id
  | .ret => .ret

omit hEq hcl in
theorem apart_nil {a b : Foot} (h1 : a.wo = []) (h2 : b.wo = []) (h3 : a.wt = []) (h4 : b.wt = []) : a.apart b = true := by
  simp [Foot.apart, h1, h2, h3, h4, apartL]
omit hEq hcl in
theorem apart_sil {a b : Foot} (h : (a.wo = [] ∧ a.ro = [] ∧ a.wt = [] ∧ a.rt = []) ∨ (b.wo = [] ∧ b.ro = [] ∧ b.wt = [] ∧ b.rt = [])) : a.apart b = true := by
  rcases h with ⟨h1, h2, h3, h4⟩ | ⟨h1, h2, h3, h4⟩ <;> simp [Foot.apart, h1, h2, h3, h4, apartL]
omit hEq hcl in
def Pu (x : Option Eff) : Prop := ∀ e, x = some e → e.wo = [] ∧ e.wt = []
omit hEq hcl in
theorem pu_none : Pu none := fun _ h => by cases h
omit hEq hcl in
theorem pu_pure (v : AV) : Pu (pureE v) := fun e h => by injection h with h; rw [← h]; exact ⟨rfl, rfl⟩
omit hEq hcl in
theorem pu_bind {α : Type} {x : Option α} {f : α → Option Eff} (h : ∀ y, Pu (f y)) : Pu (x.bind f) := fun e q => by
  obtain ⟨y, _, h'⟩ := Option.bind_eq_some_iff.1 q
  exact h y e h'
omit hEq hcl in
theorem aop_silent {i : Nat} {st : St} {op : AOp} (hs : op.silent = true) : Pu (aop i st op) := by
  cases op
  all_goals first | (simp [AOp.silent] at hs; done) | skip
  all_goals simp only [aop]
  all_goals repeat (first | exact pu_none | exact pu_pure _ | refine pu_bind fun _ => ?_ | split)
omit hEq hcl in
theorem aop_looks {i : Nat} {st : St} {op : AOp} (hs : op.looks = true) : Pu (aop i st op) := by
  cases op
  all_goals first | (simp [AOp.looks] at hs; done) | skip
  all_goals simp only [aop]
  all_goals repeat (first | exact pu_none | exact pu_pure _ | refine pu_bind fun _ => ?_ | split)
omit hEq hcl in
theorem foot_looks {i : Nat} {st : St} {o : AOper} {e : Eff} (h : estep cl i st o = some e) (hs : o.op.looks = true) : (foot st o e).wo = [] ∧ (foot st o e).wt = [] := by
  obtain ⟨h1, h2⟩ := foot_wo h
  rw [← h1, ← h2]
  unfold estep at h
  split at h
  · unfold astep at h
    split at h
    · rename_i hop; rw [hop] at hs; cases hs
    · have := aop_looks hs e h
      simp [this.1, this.2]
  · injection h with h
    subst h
    exact ⟨rfl, rfl⟩
omit hEq hcl in
theorem foot_silent {i : Nat} {st : St} {o : AOper} {e : Eff} (h : estep cl i st o = some e) (hs : o.op.silent = true) : (foot st o e).wo = [] ∧ (foot st o e).ro = [] ∧ (foot st o e).wt = [] ∧ (foot st o e).rt = [] := by
  unfold estep at h
  unfold foot
  split at h
  · rename_i hw
    rw [if_pos hw]
    have : e.wo = [] ∧ e.wt = [] := by
      unfold astep at h
      split at h
      · rename_i hop; rw [hop] at hs; cases hs
      · exact aop_silent hs e h
    refine ⟨by simp [this.1], ?_, by simp [this.2], ?_⟩ <;> cases hop : o.op <;> simp [hop, AOp.silent, reads] at hs ⊢
  · rename_i hw
    rw [if_neg hw]
    exact ⟨rfl, rfl, rfl, rfl⟩

omit hEq hcl in
/-- Every foot of the list comes of its operation's step, in some state. -/
theorem rgF_feet : ∀ {l : List AOper} {i : Nat} {st st' : St} {fs : List Foot}, rgF cl i st l = some (st', fs) → fs.length = l.length ∧ ∀ (j : Nat) (o : AOper) (f : Foot), l[j]? = some o → fs[j]? = some f → ∃ st1 e, estep cl (i + j) st1 o = some e ∧ f = foot st1 o e
  | [], _, _, _, _, h => by simp [rgF] at h; obtain ⟨_, rfl⟩ := h; exact ⟨rfl, by simp⟩
  | o :: l, i, st, st', fs, h => by
    simp only [rgF, Option.bind_eq_some_iff, Option.some.injEq, Prod.mk.injEq] at h
    obtain ⟨e, h1, r, h2, h3, rfl⟩ := h
    obtain ⟨q1, q2⟩ := rgF_feet (l := l) (st' := r.1) (fs := r.2) h2
    refine ⟨by simp [q1], fun j o' f ho hf => ?_⟩
    cases j with
    | zero => simp at ho hf; subst ho; subst hf; exact ⟨st, e, h1, rfl⟩
    | succ j => simp at ho hf; have := q2 j o' f ho hf; rwa [Nat.add_assoc, Nat.add_comm 1] at this
omit hEq hcl in
theorem chkF_mem {fs : List Foot} : ∀ {l : List (Nat × Nat)}, chkF fs l = true → ∀ a b x y, (a, b) ∈ l → fs[a]? = some x → fs[b]? = some y → x.apart y = true
  | [], _, _, _, _, _, h, _, _ => by cases h
  | (a0, b0) :: l, h, a, b, x, y, hm, hx, hy => by
    simp only [chkF, Bool.and_eq_true] at h
    rcases List.mem_cons.1 hm with e | hm
    · injection e with e1 e2
      subst e1 e2
      have := h.1
      rw [hx, hy] at this
      exact this
    · exact chkF_mem h.2 a b x y hm hx hy
omit hEq hcl in
theorem waits_false {o : Oper} {i : Nat} (h : ∀ e ∈ o.after, Region.binds .any e = true → e.on ≠ i) : waits o i = false := by
  unfold waits
  rw [Array.any_eq_false']
  intro e he
  simp only [Bool.and_eq_true, beq_iff_eq, not_and]
  exact fun hb => h e he hb

theorem rd_sound (hm : P.follows .mixedOrders = true) {ops : Array Oper} {as : List AOper} (hc : mapO (cOper P eqT nt ops) ops.toList = some as) (hok : drawOk ops as = true) {id : Nat} {Q : Exit → Act → World → Prop} {st st' : St} {a : Act}
    (hs : Sim P w0 E0 nob nt E st (fun _ => False) a w) (h : regionD cl st as (chkOf ops.toList as) = some st') (hQ : ∀ E' a' w', Sim P w0 E0 nob nt E' st' (fun _ => False) a' w' → Q .normal a' w') : (Code.region id ops true).wp P Q a w := by
  simp only [regionD, Option.bind_eq_some_iff] at h
  obtain ⟨⟨st1, fs⟩, h1, h2⟩ := h
  simp only at h2
  split at h2
  case isFalse => cases h2
  rename_i hchk
  injection h2 with h2
  subst h2
  have hlen : as.length = ops.size := by rw [mapO_len hc, Array.length_toList]
  obtain ⟨hf1, hf2⟩ := rgF_feet h1
  unfold drawOk at hok
  simp only [Bool.and_eq_true, Region.lexB] at hok
  obtain ⟨⟨_, hlex⟩, hsl⟩ := hok
  let T : Nat → Foot := fun i => fs.getD i ⟨[], [], [], []⟩
  have hT : ∀ (j : Nat) (f : Foot), fs[j]? = some f → T j = f := fun j f hj => by simp [T, List.getD, hj]
  have hpair : ∀ i j oi oj pj, i < j → as[i]? = some oi → as[j]? = some oj → ops[j]? = some pj → (∀ e ∈ pj.after, Region.binds .any e = true → e.on ≠ i) → oi.apartS oj = true ∧ (T i).apart (T j) = true := by
    intro i j oi oj pj hij hi hj hp hno
    have hjl : j < ops.size := (Array.getElem?_eq_some_iff.1 hp).1
    have hp' : ops.toList[j]? = some pj := by rw [Array.getElem?_toList]; exact hp
    have hw := waits_false hno
    constructor
    · have h3 := List.all_eq_true.1 hsl j (by simpa using hjl)
      have h4 := List.all_eq_true.1 h3 i (by simpa using hij)
      simp only [hp', hi, hj, hw, Bool.false_or] at h4
      exact h4
    · have hil : i < fs.length := by rw [hf1]; exact (List.getElem?_eq_some_iff.1 hi).1
      have hjl' : j < fs.length := by rw [hf1]; exact (List.getElem?_eq_some_iff.1 hj).1
      have hx : fs[i]? = some fs[i] := by simp [hil]
      have hy : fs[j]? = some fs[j] := by simp [hjl']
      rw [hT i _ hx, hT j _ hy]
      obtain ⟨s1, e1, q1, q2⟩ := hf2 i oi _ hi hx
      obtain ⟨s2, e2, q3, q4⟩ := hf2 j oj _ hj hy
      by_cases hmem : (i, j) ∈ chkOf ops.toList as
      · exact chkF_mem hchk i j _ _ hmem hx hy
      · have : oi.op.silent = true ∨ oj.op.silent = true ∨ (oi.op.looks = true ∧ oj.op.looks = true) := by
          apply Classical.byContradiction
          intro hn
          refine hmem ?_
          unfold chkOf
          refine List.mem_flatMap.2 ⟨j, by simpa using hjl, List.mem_filterMap.2 ⟨i, by simpa using hij, ?_⟩⟩
          simp only [hp', hi, hj, hw, Bool.false_or]
          rw [if_neg]
          intro hor
          apply hn
          simp only [Bool.or_eq_true, Bool.and_eq_true] at hor
          rcases hor with (h | h) | h
          · exact .inl h
          · exact .inr (.inl h)
          · exact .inr (.inr h)
        rcases this with h | h | ⟨h, h'⟩
        · rw [q2]; exact apart_sil (.inl (foot_silent q1 h))
        · rw [q4]; exact apart_sil (.inr (foot_silent q3 h))
        · obtain ⟨k1, k2⟩ := foot_looks q1 h
          obtain ⟨k3, k4⟩ := foot_looks q3 h'
          rw [q2, q4]
          exact apart_nil k1 k3 k2 k4
  have hae : aeAny cl ops as T (fun s => s = st1) as.length (Array.replicate ops.size false) st :=
    aeAny_lex (n := 0) hpair as 0 _ st st1 fs (by simp) (by intro j hj; omega) (by rw [hlen]; exact hlex) h1 (fun j f hf => by rw [Nat.zero_add]; exact hT j f hf) rfl
  rw [hlen] at hae
  obtain ⟨n1, n2⟩ := rgF_no h1
  have hx : Ext E w E { w with drawn := w.drawn + 1 } := ⟨fun _ _ h => h, fun _ _ _ => rfl, fun _ h => ⟨h, rfl⟩, fun _ h => ⟨h, rfl, rfl⟩⟩
  refine wp_region_any hm (wpAny_of_ae hEq hcl hc (Q0 := fun s => s = st1) ?_ ops.size _ st (fun _ => False) a _ E (by simp) ⟨hs.sc.drew, fun i => (hs.tm i).ext hx, hs.size, hs.defers, hs.nb⟩ (fun j hj => hj.elim) hae)
  rintro st' E' a' w' dn' rfl hs' hd
  exact hQ E' a' w' (by rw [hlen]; exact hs'.next hd n1 n2)

theorem ev_sound (hm : P.follows .mixedOrders = true) {n : Nat} {r : Res} : ∀ (c : Code) (ac : ACode), cCode P eqT nt c = some ac → ∀ (K : Kt) (Q : Exit → Act → World → Prop) (st : St) (a : Act) (w : World) (E : Env), Sim P w0 E0 nob nt E st (fun _ => False) a w → ev cl n ac K st = some r →
    (∀ e st' E' a' w', K e st' = some r → Sim P w0 E0 nob nt E' st' (fun _ => False) a' w' → Q (exitOf e) a' w') → c.wp P Q a w := by
  intro c
  induction c with
  | skip =>
    intro ac hc K Q st a w E hs h hK
    simp only [cCode, Option.some.injEq] at hc
    subst hc
    exact wp_skip (hK .normal st E a w h hs)
  | region id ops draw =>
    intro ac hc K Q st a w E hs h hK
    simp only [cCode, Option.bind_eq_some_iff] at hc
    obtain ⟨as, h1, h2⟩ := hc
    cases draw with
    | false =>
      simp only [Bool.false_eq_true, if_false, Option.some.injEq] at h2
      subst h2
      simp only [ev, Option.bind_eq_some_iff] at h
      obtain ⟨st', h3, h4⟩ := h
      simp only [region, Option.bind_eq_some_iff, Option.some.injEq] at h3
      obtain ⟨st1, h5, rfl⟩ := h3
      obtain ⟨n1, n2⟩ := rgn_no h5
      refine wp_region_list (wpList_rgn hEq hcl (st' := st1) (n := ops.toList.length) ?_ ops.toList as 0 st _ a w E h1 (Nat.zero_add _) hs (fun _ h => h.elim) h5)
      intro E' a' w' dn' hs' hd
      exact hK .normal _ E' a' w' h4 (by rw [mapO_len h1]; exact hs'.next hd n1 n2)
    | true =>
      simp only [if_true] at h2
      split at h2
      · rename_i hok
        injection h2 with h2
        subst h2
        simp only [ev, Option.bind_eq_some_iff] at h
        obtain ⟨st', h3, h4⟩ := h
        exact rd_sound hEq hcl hm h1 hok hs h3 fun E' a' w' hs' => hK .normal _ E' a' w' h4 hs'
      · cases h2
  | seq x y ihx ihy =>
    intro ac hc K Q st a w E hs h hK
    simp only [cCode, Option.bind_eq_some_iff, Option.map_eq_some_iff] at hc
    obtain ⟨ax, h1, ay, h2, rfl⟩ := hc
    simp only [ev] at h
    refine wp_seq (ihx ax h1 _ _ st a w E hs h ?_)
    intro e st' E' a' w' he hs'
    cases e with
    | normal => exact ihy ay h2 K Q st' a' w' E' hs' he hK
    | exit id => exact hK (.exit id) st' E' a' w' he hs'
    | ret => exact hK .ret st' E' a' w' he hs'
  | cond c x y ihx ihy =>
    intro ac hc K Q st a w E hs h hK
    simp only [cCode, Option.bind_eq_some_iff, Option.map_eq_some_iff] at hc
    obtain ⟨c', h0, ax, h1, ay, h2, rfl⟩ := hc
    have hcr := opd_rep hs.tm h0
    simp only [ev] at h
    split at h
    · rename_i t heq
      rw [heq] at hcr
      generalize hv : a.eval c = v at hcr
      cases hcr with
      | d hd =>
        cases hd
        refine wp_cond hv ?_
        cases t with
        | true => simp only [if_true] at h ⊢; exact ihx ax h1 K Q st a w E hs h hK
        | false => simp only [Bool.false_eq_true, if_false] at h ⊢; exact ihy ay h2 K Q st a w E hs h hK
    · cases h
  | block id x ih =>
    intro ac hc K Q st a w E hs h hK
    simp only [cCode, Option.map_eq_some_iff] at hc
    obtain ⟨ax, h1, rfl⟩ := hc
    simp only [ev] at h
    refine wp_block (ih ax h1 _ _ st a w E hs h ?_)
    intro e st' E' a' w' he hs'
    cases e with
    | normal => exact hK .normal st' E' a' w' he hs'
    | ret => exact hK .ret st' E' a' w' he hs'
    | exit i =>
      simp only [blockK] at he
      simp only [exitOf, Exit.inBlock]
      split at he
      · rename_i hid
        rw [if_pos hid]
        exact hK .normal st' E' a' w' he hs'
      · rename_i hid
        rw [if_neg hid]
        exact hK (.exit i) st' E' a' w' he hs'
  | loop x ih =>
    intro ac hc K Q st a w E hs h hK
    simp only [cCode, Option.map_eq_some_iff] at hc
    obtain ⟨ax, h1, rfl⟩ := hc
    simp only [ev] at h
    refine wp_loop_ghost (fun k a w => ∃ st E, Sim P w0 E0 nob nt E st (fun _ => False) a w ∧ loopF (ev cl n ax) k K st = some r) n ⟨st, E, hs, h⟩ ?_
    rintro k a w ⟨st, E, hs, h⟩
    cases k with
    | zero => simp [loopF] at h
    | succ k =>
      simp only [loopF] at h
      refine ih ax h1 _ _ st a w E hs h ?_
      intro e st' E' a' w' he hs'
      cases e with
      | normal => exact ⟨k, Nat.lt_succ_self k, st', E', hs', he⟩
      | exit id => exact hK (.exit id) st' E' a' w' he hs'
      | ret => exact hK .ret st' E' a' w' he hs'
  | exit id =>
    intro ac hc K Q st a w E hs h hK
    simp only [cCode, Option.some.injEq] at hc
    subst hc
    exact wp_exit (hK (.exit id) st E a w h hs)
  | ret =>
    intro ac hc K Q st a w E hs h hK
    simp only [cCode, Option.some.injEq] at hc
    subst hc
    exact wp_ret (hK .ret st E a w h hs)
  | _ => intro ac hc; simp [cCode] at hc
end
end Go.Ae
