/-
  FUNCTIONS: the contract of a compiled function, by the contracts of what it calls; programs.
-/
import Derived.Test.YtkmmfenknekcbaaGreatAeSound
import Derived.Stop.AnyFormat
set_option linter.unusedSimpArgs false
set_option linter.unusedVariables false
namespace Go.Ae
open Go.RowKit
variable {P : Program} {w0 : World} {E0 E : Env} {nob nt : Nat} {dn : Nat → Prop} {w w' : World}

theorem initTm_get : ∀ {args : List AV} {i k : Nat}, initTm k args (k + i) = (args[i]?).getD .undef
  | [], _, _ => rfl
  | v :: l, i, k => by
    simp only [initTm]
    rw [upd_apply]
    cases i with
    | zero => simp
    | succ i =>
      rw [if_neg (by omega)]
      have := initTm_get (args := l) (i := i) (k := k + 1)
      rw [show k + (i + 1) = k + 1 + i by omega, this]
      simp
theorem initOb_get : ∀ {obs : List (List DV)} {i k : Nat}, initOb k obs (k + i) = (obs[i]?).map fun cs => cs.map AV.d
  | [], _, _ => rfl
  | v :: l, i, k => by
    simp only [initOb]
    rw [upd_apply]
    cases i with
    | zero => simp
    | succ i =>
      rw [if_neg (by omega)]
      have := initOb_get (obs := l) (i := i) (k := k + 1)
      rw [show k + (i + 1) = k + 1 + i by omega, this]
      simp
theorem sim_init {args : List AV} {obs : List (List DV)} {vals : List Value} (h : CallIn E w args obs vals) {nt : Nat} (hnt : args.length ≤ nt) :
    Sim P w E obs.length nt E (init args obs) (fun _ => False) { tmps := vals.toArray ++ Array.replicate (nt - vals.toArray.size) Go.undef, defers := [] } w := by
  have hob : ∀ id, (init args obs).ob id = (obs[id]?).map fun cs => cs.map AV.d := fun id => by
    have := initOb_get (obs := obs) (i := id) (k := 0)
    simpa [init] using this
  have hlt : ∀ id, ((init args obs).ob id).isSome = true → id < obs.length := fun id q => by
    rw [hob] at q
    rcases Nat.lt_or_ge id obs.length with h' | h'
    · exact h'
    · simp [List.getElem?_eq_none h'] at q
  have hvl : vals.length = args.length := h.args.length.symm
  refine ⟨?_, fun i => ?_, by simp; omega, rfl, rfl⟩
  · exact
      { obk := fun id cs q => by
          rw [hob] at q
          obtain ⟨ds, q1, rfl⟩ := Option.map_eq_some_iff.1 q
          obtain ⟨vs, T, q2, q3⟩ := h.ob id ds q1
          exact ⟨vs, T, q2, q3.map_d⟩
        obV := fun id q => (h.V id).2 (hlt id q)
        Vb := fun id hv => .inl ((h.V id).1 hv)
        inj := fun i j hi hj => h.inj i j (hlt i hi) (hlt j hj)
        npr := fun id q => h.npr id (hlt id q)
        own := fun t ht => by cases ht
        ownd := fun t t' ht => by cases ht
        Ub := fun t hu => (h.U t hu).elim
        prB := h.prB
        pr0 := fun _ _ h => h
        pr1 := fun _ _ h => .inl h
        old := fun i hi => ⟨by rw [hob]; simp [hi], rfl⟩
        new := fun id q hid => absurd (hlt id q) (by omega)
        nno := Nat.le_refl _
        fr := fun _ _ _ => rfl
        os := rfl
        tape := rfl
        output := rfl
        size := Nat.le_refl _ }
  · have h1 : (init args obs).tm i = (args[i]?).getD .undef := by
      have := initTm_get (args := args) (i := i) (k := 0)
      simpa [init] using this
    rw [h1]
    cases hi : args[i]? with
    | none =>
      have : (vals.toArray ++ Array.replicate (nt - vals.toArray.size) Go.undef).getD i Go.undef = Go.undef := by
        have hge := List.getElem?_eq_none_iff.1 hi
        rw [Array.getD_eq_getD_getElem?, Array.getElem?_append_right (by simp; omega)]
        simp only [Array.getElem?_replicate]
        split <;> rfl
      rw [this]
      exact RA.undef _ _
    | some x =>
      obtain ⟨v, q1, q2⟩ := h.args.get hi
      have : (vals.toArray ++ Array.replicate (nt - vals.toArray.size) Go.undef).getD i Go.undef = v := by
        have hl := (List.getElem?_eq_some_iff.1 q1).1
        rw [Array.getD_eq_getD_getElem?, Array.getElem?_append_left (by simpa using hl)]
        simp [q1]
      rw [this]
      exact q2

/-- One result. -/
def resSem (a : Act) : ResultVar → Sem Value
  | .tmp t => pure (a.tmps.getD t Go.undef)
  | .cell x t => do loadVar t (← asAddr (a.tmps.getD x Go.undef))
theorem res_one {E : Env} {st : St} {a : Act} (htm : ∀ i, RA E w (st.tm i) (a.tmps.getD i Go.undef)) (hob : ObOk E w st.ob) {x : ResultVar} {x' : ARes} (hc : cRes P x = some x') {v : AV} (h : resOf st x' = some v) : ∃ z, (resSem a x).run P w = .ok z w ∧ RA E w v z := by
  cases x with
  | tmp t =>
    simp only [cRes, Option.some.injEq] at hc
    subst hc
    simp only [resOf, Option.some.injEq] at h
    subst h
    exact ⟨_, rfl, htm t⟩
  | cell y t =>
    simp only [cRes, Option.map_eq_some_iff] at hc
    obtain ⟨n, h1, rfl⟩ := hc
    have hy := htm y
    simp only [resOf] at h
    split at h
    · rename_i id off heq
      have he : aop 0 st (.ld n (.t y)) = some ⟨v, [], []⟩ := by
        simp only [aop, St.val, heq]
        obtain ⟨cs, h2, h3⟩ := Option.bind_eq_some_iff.1 h
        rw [h2]
        cases n with
        | none => simp only [Option.bind_some] at h3 ⊢; rw [h3]; rfl
        | some n =>
          simp only [Option.bind_some, Option.bind_eq_some_iff, Option.some.injEq] at h3 ⊢
          obtain ⟨l, h4, l', h5, rfl⟩ := h3
          exact ⟨l, h4, l', h5, rfl⟩
      obtain ⟨z, h4, h5, _⟩ := ld_sound h1 hob hy (st := st) (i := 0) (q := .t y) rfl he
      refine ⟨z, ?_, h5⟩
      rw [heq] at hy
      generalize hv : a.tmps.getD y Go.undef = pv at hy h4
      cases hy with
      | ptr _ =>
        simp only [resSem, hv, asAddr, Sem.run_bind, Sem.run_pure, Result.andThen_ok]
        simpa only [Instr.loadAt, Instr.sureAddr, Sem.run_bind, Sem.run_pure, Result.andThen_ok] using h4
    · cases h

theorem outD_rep {E : Env} {v u : AV} {z : Value} (h : v.outD = some u) (r : RA E w v z) : RS w E.Pr u z := by
  cases r with
  | agg q => simp [AV.outD] at h; subst h; exact .agg q
  | d q => simp [AV.outD, AV.toD] at h; subst h; exact .d q
  | row _ q => simp [AV.outD, AV.toD] at h; subst h; exact .d q
  | nils => simp [AV.outD, AV.toD] at h; subst h; exact .d (.nil _ _ _ _)
  | _ => simp [AV.outD, AV.toD] at h
theorem res_many {E : Env} {st : St} {a : Act} (htm : ∀ i, RA E w (st.tm i) (a.tmps.getD i Go.undef)) (hob : ObOk E w st.ob) : ∀ {l : List ResultVar} {l' : List ARes} {vs : List AV}, mapO (cRes P) l = some l' → outsOf st l' = some vs → ∃ zs, (l.mapM (resSem a)).run P w = .ok zs w ∧ All2 (RS w E.Pr) vs zs
  | [], _, _, h, h' => by
    simp [mapO] at h
    subst h
    simp [outsOf] at h'
    subst h'
    exact ⟨[], by simp, .nil⟩
  | x :: l, _, _, h, h' => by
    simp only [mapO, Option.bind_eq_some_iff, Option.some.injEq, Option.map_eq_some_iff] at h
    obtain ⟨y, h1, r, h2, rfl⟩ := h
    simp only [outsOf, Option.bind_eq_some_iff, Option.some.injEq] at h'
    obtain ⟨v, h3, u, h4, us, h5, rfl⟩ := h'
    obtain ⟨z, h6, h7⟩ := res_one htm hob h1 h3
    obtain ⟨zs, h8, h9⟩ := res_many htm hob h2 h5
    refine ⟨z :: zs, ?_, .cons (outD_rep h4 h7) h9⟩
    simp only [List.mapM_cons, Sem.run_bind, h6, h8, Result.andThen_ok, Sem.run_pure]
theorem results_eq (fn : Func) (a : Act) : results fn a.tmps = (do let vs ← fn.results.mapM (resSem a); pure (if h : vs.size = 1 then vs[0] else .tuple vs)) := rfl
theorem run_arr_mapM {α : Type} {xs : Array α} {f : α → Sem Value} {zs : List Value} (h : (xs.toList.mapM f).run P w = .ok zs w) : (xs.mapM f).run P w = .ok zs.toArray w := by
  rw [Array.mapM_eq_mapM_toList]
  simp [h]

theorem objs_get {st : St} : ∀ {n i : Nat} {l : List (List DV)}, objs st i n = some l → l.length = n ∧ ∀ j, j < n → ∃ cs ds, st.ob (i + j) = some cs ∧ allD cs = some ds ∧ l[j]? = some ds
  | 0, _, _, h => by simp [objs] at h; subst h; exact ⟨rfl, by intro j hj; omega⟩
  | n + 1, i, _, h => by
    simp only [objs, Option.bind_eq_some_iff, Option.some.injEq] at h
    obtain ⟨cs, h1, ds, h2, r, h3, rfl⟩ := h
    obtain ⟨q1, q2⟩ := objs_get h3
    refine ⟨by simp [q1], fun j hj => ?_⟩
    cases j with
    | zero => exact ⟨cs, ds, h1, h2, rfl⟩
    | succ j => have := q2 j (by omega); rw [show i + (j + 1) = i + 1 + j by omega]; simpa using this

/-- What a frame's end leaves. -/
theorem final_out {E' : Env} {st : St} {a : Act} (p1 : ∀ b j, E.Pr b j → b < w.heap.size) (p2 : ∀ i, i < nob → ∀ j, ¬ E.Pr (E.ρ i) j) (hs : Sim P w E nob nt E' st dn a w') {fn : Func} {res : List ARes} (hc : mapO (cRes P) fn.results.toList = some res) {r : AV} {obs' : List (List DV)} (h : final res nob st = some (r, obs')) :
    ∃ v, (results fn a.tmps).run P w' = .ok v w' ∧ CallOut P E w nob r obs' v w' := by
  have hout : ∀ {E1 : Env} {ob1 : Nat → Option (List AV)}, SC P w E nob E1 ob1 st.no st.ow st.nx dn w' → (∀ j, j < nob → ob1 j = st.ob j) → ∀ {old new : List (List DV)} {v : Value}, objs st 0 nob = some old → ResOk P E w nob E1.Pr w' r new v → obs' = old ++ new → CallOut P E w nob r obs' v w' := by
    intro E1 ob1 sc hob1 old new v h1 h2 h3
    obtain ⟨q1, q2⟩ := objs_get h1
    refine ⟨⟨E1.Pr, old, new, h3, q1, sc.pr0, fun b j hp => ?_, fun i cs hi => ?_, h2⟩, fun b j hp => ?_, sc.fr, sc.os, sc.tape, sc.output, sc.size⟩
    · exact (sc.pr1 b j hp).imp (fun q => q) fun q => ⟨q, sc.prB b j hp⟩
    · have hlt : i < nob := by rw [← q1]; exact (List.getElem?_eq_some_iff.1 hi).1
      obtain ⟨cs', ds, k1, k2, k3⟩ := q2 i hlt
      rw [hi] at k3
      injection k3 with k3
      subst k3
      rw [Nat.zero_add] at k1
      rw [← hob1 i hlt] at k1
      obtain ⟨vs, T, k4, k5⟩ := sc.obk i cs' k1
      refine ⟨vs, T, ?_, k5.allD k2⟩
      rw [← (sc.old i hlt).2]
      exact k4
    · exact World.cell?_of_block (a := ⟨b, j, none⟩) (sc.fr b (p1 b j hp) fun i hi e => p2 i hi j (by rw [← e]; exact hp))
  have hres : ∀ {v : Value}, (results fn a.tmps).run P w' = .ok v w' → (∃ new, ResOk P E w nob E'.Pr w' r new v ∧ ∃ old, objs st 0 nob = some old ∧ obs' = old ++ new) → ∃ v, (results fn a.tmps).run P w' = .ok v w' ∧ CallOut P E w nob r obs' v w' := by
    rintro v h1 ⟨new, h2, old, h3, h4⟩
    exact ⟨v, h1, hout hs.sc (fun _ _ => rfl) h3 h2 h4⟩
  by_cases h1 : ∃ x, res = [x]
  · obtain ⟨x, rfl⟩ := h1
    simp only [final, Option.bind_eq_some_iff, Option.some.injEq, Prod.mk.injEq] at h
    obtain ⟨v, h2, o, h3, old, h4, h5, h6⟩ := h
    have hl : fn.results.toList.length = 1 := by rw [← mapO_len hc]; rfl
    obtain ⟨y, hy⟩ := List.length_eq_one_iff.1 hl
    rw [hy] at hc
    simp only [mapO, Option.bind_eq_some_iff, Option.some.injEq, Option.map_eq_some_iff] at hc
    obtain ⟨x', h7, l', h8, h9⟩ := hc
    injection h9 with h9 _
    subst h9
    obtain ⟨z, h10, h11⟩ := res_one hs.tm hs.sc.obk h7 h2
    have hrun : (results fn a.tmps).run P w' = .ok z w' := by
      rw [results_eq]
      have : (fn.results.mapM (resSem a)).run P w' = .ok [z].toArray w' := run_arr_mapM (by rw [hy]; simp only [List.mapM_cons, List.mapM_nil, Sem.run_bind, h10, Result.andThen_ok, Sem.run_pure])
      simp only [Sem.run_bind, this, Result.andThen_ok, Sem.run_pure]
      rfl
    by_cases hosl : ∃ id sz n, v = .osl id sz n
    · obtain ⟨id, sz, n, rfl⟩ := hosl
      simp only [outOf] at h3
      split at h3
      · rename_i hnb
        simp only [Option.bind_eq_some_iff, Option.some.injEq] at h3
        obtain ⟨cs, k1, ds, k2, xs, k3, rfl⟩ := h3
        obtain ⟨E1, q1, q2, q3⟩ := hs.sc.freeze hnb k1
        refine ⟨z, hrun, hout q2 (fun j hj => by rw [upd_apply, if_neg (by omega)]) h4 (new := []) ?_ h6.symm⟩
        rw [← h5]
        exact .d (q3 k2 k3 h11)
      · cases h3
    refine hres hrun ⟨o.2, ?_, old, h4, h6.symm⟩
    subst h5
    cases h11 with
    | osl _ _ => exact absurd ⟨_, _, _, rfl⟩ hosl
    | d q => simp only [outOf, Option.some.injEq] at h3; subst h3; exact .d q
    | agg q => simp only [outOf, Option.some.injEq] at h3; subst h3; exact .agg q
    | nils => simp only [outOf, Option.some.injEq] at h3; subst h3; exact .d (.nil _ _ _ _)
    | nilp => simp only [outOf, Option.some.injEq] at h3; subst h3; exact .nilp
    | elp _ => simp [outOf] at h3
    | fn _ => simp [outOf] at h3
    | tup _ => simp [outOf] at h3
    | @row t xs hu q =>
      simp only [outOf] at h3
      split at h3
      · rename_i how
        injection h3 with h3
        subst h3
        obtain ⟨_, inf, n, cells, k1, k2, k3⟩ := hs.sc.own t how
        exact .row q k1 k2 fun b hb => (k3 b hb).1
      · injection h3 with h3
        subst h3
        exact .d q
    | @ptr id off hv =>
      simp only [outOf] at h3
      split at h3
      · rename_i hlt
        injection h3 with h3
        subst h3
        rw [(hs.sc.old id hlt).2]
        exact .old hlt
      · rename_i hge
        simp only [Option.bind_eq_some_iff, Option.some.injEq] at h3
        obtain ⟨cs, k1, ds, k2, rfl⟩ := h3
        obtain ⟨vs, T, k3, k4⟩ := hs.sc.obk id cs k1
        have hsome : (st.ob id).isSome = true := by rw [k1]; rfl
        exact .new (hs.sc.new id hsome (by omega)) k3 (k4.allD k2) (hs.sc.npr id hsome)
  · have h' : ((outsOf st res).bind fun vs => (objs st 0 nob).bind fun obs => some (AV.tup vs, obs)) = some (r, obs') := by
      unfold final at h
      split at h
      · exact absurd ⟨_, rfl⟩ h1
      · exact h
    simp only [Option.bind_eq_some_iff, Option.some.injEq, Prod.mk.injEq] at h'
    obtain ⟨vs, h2, old, h3, rfl, rfl⟩ := h'
    obtain ⟨zs, h4, h5⟩ := res_many hs.tm hs.sc.obk hc h2
    have hne : zs.toArray.size ≠ 1 := fun e => by
      have e1 : zs.length = 1 := by simpa using e
      rw [← h5.length] at e1
      have e2 : res.length = 1 := by
        clear hc h1 h4 h5 h
        have : ∀ {l : List ARes} {vs : List AV}, outsOf st l = some vs → l.length = vs.length := by
          intro l
          induction l with
          | nil => intro vs h; simp [outsOf] at h; subst h; rfl
          | cons x l ih =>
            intro vs h
            simp only [outsOf, Option.bind_eq_some_iff, Option.some.injEq] at h
            obtain ⟨_, _, _, _, us, h5, rfl⟩ := h
            simp [ih h5]
        rw [this h2]; exact e1
      obtain ⟨x, hx⟩ := List.length_eq_one_iff.1 e2
      exact h1 ⟨x, hx⟩
    refine hres (v := .tuple zs.toArray) ?_ ⟨[], .tup (by simpa using h5), old, h3, by simp⟩
    rw [results_eq]
    simp only [Sem.run_bind, run_arr_mapM h4, Result.andThen_ok, Sem.run_pure]
    rw [dif_neg hne]

theorem body_fits {eqT : TypeId → Bool} (hEq : EqT P eqT) {cl : FuncId → Fun} (hcl : ClOk P cl) (hm : P.follows .mixedOrders = true) {f : FuncId} {fn : Func} (hf : P.funcs[f]? = some fn) {af : AFun} (hc : cFun P eqT fn = some af) {n : Nat} : Fits P f (body cl n af) := by
  intro args obs r obs' h E w vals hin
  simp only [cFun, Option.bind_eq_some_iff] at hc
  obtain ⟨c, h1, h2⟩ := hc
  split at h2
  case isTrue => cases h2
  rename_i hle
  simp only [Option.bind_eq_some_iff, Option.some.injEq] at h2
  obtain ⟨ac, h3, res, h4, rfl⟩ := h2
  unfold body at h
  split at h
  · rename_i hl
    simp only at hl
    refine calls_of_wp hf h1 ?_
    refine ev_sound hEq hcl hm c ac h3 _ _ _ _ w E (sim_init hin (by omega)) h ?_
    intro e st' E' a' w' he hs'
    have : ∃ v, (results fn a'.tmps).run P w' = .ok v w' ∧ CallOut P E w obs.length r obs' v w' := by
      cases e with
      | normal => exact final_out hin.prB hin.npr hs' h4 he
      | ret => exact final_out hin.prB hin.npr hs' h4 he
      | exit id => simp [finalK] at he
    obtain ⟨v, q1, q2⟩ := this
    cases e with
    | normal => exact ⟨hs'.defers, v, q1, v, rfl, q2⟩
    | ret => exact ⟨hs'.defers, v, q1, v, rfl, q2⟩
    | exit id => simp [finalK] at he
  · cases h

structure AOk (P : Program) (eqT : TypeId → Bool) (A : AProg) : Prop where
  fn : ∀ f af, A.fn f = some af → ∃ fn, P.funcs[f]? = some fn ∧ cFun P eqT fn = some af ∧ (fn.name == "runtime.NumGoroutine") = false
  ext : ∀ f g, A.ext f = some g → Enters P f ∧ Fits P f g
theorem callN_ok {eqT : TypeId → Bool} (hEq : EqT P eqT) (hm : P.follows .mixedOrders = true) {A : AProg} (hA : AOk P eqT A) : ∀ n, ClOk P (callN A n)
  | 0, f => .inl fun _ _ => rfl
  | n + 1, f => by
    have ih := callN_ok hEq hm hA n
    cases he : A.ext f with
    | some g => exact .inr (by have := hA.ext f g he; simp only [callN, callS, he]; exact this)
    | none =>
      cases hf : A.fn f with
      | none => exact .inl fun a o => by simp [callN, callS, he, hf]
      | some af =>
        obtain ⟨fn, h1, h2, h3⟩ := hA.fn f af hf
        refine .inr ⟨?_, ?_⟩
        · have h2' := h2
          simp only [cFun, Option.bind_eq_some_iff] at h2'
          obtain ⟨c, h4, _⟩ := h2'
          exact ⟨fn, c, h1, h4, h3⟩
        · have := body_fits hEq ih hm h1 h2 (n := n)
          simp only [callN, callS, he, hf]
          exact this
/-- What the evaluator says of a call, the model does. -/
theorem fits_call {eqT : TypeId → Bool} (hEq : EqT P eqT) (hm : P.follows .mixedOrders = true) {A : AProg} (hA : AOk P eqT A) (f : FuncId) : Fits P f (call A f) := by
  intro args obs r obs' h E w vals hin
  obtain ⟨n, hn⟩ := call_iff.1 h
  rcases callN_ok hEq hm hA n f with h0 | ⟨_, h1⟩
  · rw [h0] at hn; cases hn
  · exact h1 args obs r obs' hn E w vals hin
end Go.Ae
