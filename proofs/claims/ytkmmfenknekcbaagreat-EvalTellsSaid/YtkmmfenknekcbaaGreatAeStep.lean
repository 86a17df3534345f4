/-
  ONE OPERATION OF A REGION.
-/
import Derived.Test.YtkmmfenknekcbaaGreatAeCall
set_option linter.unusedSimpArgs false
set_option linter.unusedVariables false
namespace Go.Ae
open Go.RowKit
variable {P : Program} {w0 : World} {E0 E : Env} {nob : Nat} {dn : Nat → Prop} {w w' : World}

def AOp.wr : AOp → Bool
  | .new _ | .box _ | .mkrow _ _ _ | .st _ _ _ | .call _ _ | .app _ _ _ _ _ => true
  | _ => false
def opWr : Op → Bool
  | .alloc _ | .box _ _ | .buildSlice _ _ _ | .store _ _ _ | .call _ => true
  | _ => false
def Nw (x : Option AOp) : Prop := ∀ op, x = some op → op.wr = false
theorem nw_none : Nw none := fun _ h => by cases h
theorem nw_some {op : AOp} (h : op.wr = false) : Nw (some op) := fun _ e => by injection e with e; rw [← e]; exact h
theorem nw_map {α : Type} {x : Option α} {f : α → AOp} (h : ∀ y, (f y).wr = false) : Nw (x.map f) := fun op e => by
  obtain ⟨y, _, rfl⟩ := Option.map_eq_some_iff.1 e
  exact h y
theorem nw_bind {α : Type} {x : Option α} {f : α → Option AOp} (h : ∀ y, Nw (f y)) : Nw (x.bind f) := fun op e => by
  obtain ⟨y, _, h'⟩ := Option.bind_eq_some_iff.1 e
  exact h y op h'
theorem cOp_nw {eqT : TypeId → Bool} {o : Op} (h : opWr o = false) : Nw (cOp P eqT o) := by
  have fin : ∀ {x : Option AOp}, Nw x → Nw x := fun h => h
  cases o
  case makeFunc fn first caps =>
    cases fn <;> simp only [cOp]
    case func f =>
      split
      · exact nw_map fun _ => rfl
      · exact nw_none
    all_goals exact nw_none
  case slice t x lo hi mx =>
    cases mx <;> simp only [cOp]
    case none =>
      split
      · exact nw_bind fun _ => nw_bind fun _ => nw_map fun _ => rfl
      · exact nw_bind fun _ => nw_bind fun _ => nw_bind fun _ => nw_map fun _ => rfl
      · exact nw_none
    case some => exact nw_none
  all_goals first | (simp [opWr] at h; done) | skip
  all_goals simp only [cOp]
  all_goals repeat (first | exact nw_none | exact nw_some rfl | (refine nw_map fun _ => ?_; rfl) | refine nw_bind fun _ => ?_ | split)

/-- What the operation does in the model, whatever the way. -/
def StepG (P : Program) (o : Oper) (a : Act) (w : World) (G : Value → World → Prop) : Prop :=
  (∃ v w', Out P o a w v w' ∧ G v w') ∨ ∃ f args, (execOp a.eval o).run P w = .ok (.enter f args) w ∧ Calls P f args w fun en w' => ∃ v, en = .returned v ∧ G v w'
theorem StepG.wp {o : Oper} {a : Act} {G : Value → World → Prop} (h : StepG P o a w G) {K : Act → World → Prop} {Q : Exit → Act → World → Prop} (hK : ∀ v w', G v w' → K (a.put o.dst v) w') : o.wp P a w K Q := by
  unfold Oper.wp
  rcases h with ⟨v, w', h1 | ⟨h1, rfl⟩, h2⟩ | ⟨f, args, h1, h2⟩
  · rw [h1]; exact hK _ _ h2
  · rw [h1]; exact hK _ _ h2
  · rw [h1]
    refine Calls.mono h2 ?_
    rintro en w' ⟨v, rfl, h3⟩
    exact hK _ _ h3
theorem StepOk.g {o : Oper} {a : Act} {st : St} {e : Eff} {i : Nat} (h : StepOk P w0 E0 nob E st dn w o a e i) : StepG P o a w (Good P w0 E0 nob E st dn w e i) := by
  obtain ⟨v, w', E', h1, h2, h3, h4⟩ := h
  exact .inl ⟨v, w', h1, E', h2, h3, h4⟩
theorem mapO_vals {st : St} {a : Act} (htm : ∀ i, RA E w (st.tm i) (a.tmps.getD i Go.undef)) : ∀ {l : List Operand} {m : List Opd}, mapO cOpd l = some m → All2 (RA E w) (m.map st.val) (l.map a.eval)
  | [], _, h => by simp [mapO] at h; subst h; exact .nil
  | x :: l, _, h => by
    simp only [mapO, Option.bind_eq_some_iff, Option.some.injEq, Option.map_eq_some_iff] at h
    obtain ⟨y, h1, r, h2, rfl⟩ := h
    exact .cons (opd_rep htm h1) (mapO_vals htm h2)

theorem step_sem {eqT : TypeId → Bool} (hEq : EqT P eqT) {cl : FuncId → Fun} (hcl : ∀ f, (∀ a o, cl f a o = none) ∨ (Enters P f ∧ Fits P f (cl f))) {st : St} (sc : SC P w0 E0 nob E st.ob st.no st.ow st.nx dn w) {i : Nat} (hi : ¬ dn i) {o : Oper} {a : Act} (htm : ∀ i, RA E w (st.tm i) (a.tmps.getD i Go.undef))
    {op : AOp} {e : Eff} (hc : cOp P eqT o.op = some op) (he : astep cl i st op = some e) : StepG P o a w (Good P w0 E0 nob E st dn w e i) := by
  cases hw : opWr o.op with
  | false =>
    have hwr := cOp_nw hw op hc
    have he' : aop i st op = some e := by
      unfold astep at he
      split at he
      · cases hwr
      · exact he
    obtain ⟨v, h1, h2, h3, h4⟩ := aop_pure hEq htm sc.obk hc he' ⟨(by intro _ h; subst h; cases hwr), (by intro _ h; subst h; cases hwr), (by intro _ _ _ h; subst h; cases hwr), (by intro _ _ _ h; subst h; cases hwr), (by intro _ _ _ _ _ h; subst h; cases hwr)⟩
    refine .inl ⟨v, w, h1, E, Ext.refl _ _, h2, ?_⟩
    rw [h3, h4]
    exact sc.dn_mono fun _ h => .inl h
  | true =>
    cases hop : o.op <;> simp only [hop, opWr, Bool.true_eq_false, Bool.false_eq_true, reduceCtorEq] at hw
    case alloc t =>
      simp only [hop, cOp, Option.map_eq_some_iff] at hc
      obtain ⟨z, h1, rfl⟩ := hc
      exact (op_new sc hi hop h1 he).g
    case box t x =>
      simp only [hop, cOp, Option.map_eq_some_iff] at hc
      obtain ⟨x', h1, rfl⟩ := hc
      exact (op_box sc htm hi hop h1 he).g
    case buildSlice t len parts =>
      simp only [hop, cOp] at hc
      split at hc
      · rename_i e' hu
        obtain ⟨i', h1, h2⟩ := Option.bind_eq_some_iff.1 hc
        obtain ⟨z, h3, h4⟩ := Option.bind_eq_some_iff.1 h2
        split at h4
        · rename_i hcond
          obtain ⟨c1, c2, c3, c4⟩ := hcond
          obtain ⟨l, h5, h6⟩ := Option.bind_eq_some_iff.1 h4
          obtain ⟨q, h7, rfl⟩ := Option.map_eq_some_iff.1 h6
          exact (op_mkrow sc htm hi hop hu h1 h3 c1 c2 c3 c4 h5 h7 he).g
        · cases h4
      · cases hc
    case store t p x =>
      simp only [hop, cOp, Option.bind_eq_some_iff] at hc
      obtain ⟨n, h1, q, h3, h4⟩ := hc
      obtain ⟨q', h5, rfl⟩ := Option.map_eq_some_iff.1 h4
      exact (op_st sc htm hop h1 h3 h5 he).g
    case call c =>
      cases hcal : c.callee with
      | value f =>
        simp only [hop, cOp, hcal, Option.bind_eq_some_iff] at hc
        obtain ⟨f', h1, h2⟩ := hc
        obtain ⟨as, h3, rfl⟩ := Option.map_eq_some_iff.1 h2
        simp only [astep] at he
        obtain ⟨g, cap, q1, q2, q3⟩ := call_good sc hi hcl (opd_rep htm h1) (mapO_vals htm h3) he
        refine .inr ⟨g, _, ?_, q3⟩
        have hargs : (c.args.map a.eval ++ cap) = (c.args.toList.map a.eval ++ cap.toList).toArray := by apply Array.ext'; simp
        simp only [execOp, hop, resolve, hcal, q1, Deferred.ofValue, invoke, Sem.run_bind, Sem.run_pure, Result.andThen_ok, run_callFunc_enter q2, Array.empty_append, hargs]
      | builtin b =>
        have hnc : ∀ f as, op ≠ .call f as := by
          intro f as hop'
          subst hop'
          simp only [hop, cOp, hcal] at hc
          unfold cBuiltin at hc
          split at hc
          · split at hc
            · obtain ⟨_, _, h⟩ := Option.map_eq_some_iff.1 hc; cases h
            · obtain ⟨_, _, h⟩ := Option.map_eq_some_iff.1 hc; cases h
            · cases hc
          · split at hc
            · split at hc
              · obtain ⟨_, _, h2⟩ := Option.bind_eq_some_iff.1 hc
                obtain ⟨_, _, h3⟩ := Option.bind_eq_some_iff.1 h2
                split at h3
                · obtain ⟨_, _, h4⟩ := Option.bind_eq_some_iff.1 h3
                  obtain ⟨_, _, h5⟩ := Option.bind_eq_some_iff.1 h4
                  injection h5 with h5
                  cases h5
                · cases h3
              · cases hc
            · cases hc
          · obtain ⟨_, _, h2⟩ := Option.bind_eq_some_iff.1 hc
            obtain ⟨_, _, h4⟩ := Option.bind_eq_some_iff.1 h2
            injection h4 with h4
            cases h4
          · obtain ⟨_, _, h2⟩ := Option.bind_eq_some_iff.1 hc
            obtain ⟨_, _, h4⟩ := Option.bind_eq_some_iff.1 h2
            injection h4 with h4
            cases h4
          · cases hc
        have he' : aop i st op = some e := by
          unfold astep at he
          split at he
          · exact absurd rfl (hnc _ _)
          · exact he
        by_cases happ : ∃ t sz bs s x, op = .app t sz bs s x
        · obtain ⟨t, sz, bs, s, x, rfl⟩ := happ
          simp only [hop, cOp, hcal] at hc
          unfold cBuiltin at hc
          split at hc
          · split at hc
            · obtain ⟨_, _, h⟩ := Option.map_eq_some_iff.1 hc; cases h
            · obtain ⟨_, _, h⟩ := Option.map_eq_some_iff.1 hc; cases h
            · cases hc
          · rename_i s0 x0 t0 u0 ha ht
            have hargs : c.args = #[s0, x0] := by apply Array.ext'; simpa using ha
            split at hc
            · rename_i htu
              subst htu
              have hts : c.argTypes = #[t0, t0] := by apply Array.ext'; simpa using ht
              split at hc
              · rename_i el hu
                obtain ⟨inf, h1, h2⟩ := Option.bind_eq_some_iff.1 hc
                obtain ⟨z, hz, h3⟩ := Option.bind_eq_some_iff.1 h2
                split at h3
                · rename_i hcond
                  obtain ⟨c1, c2, c3⟩ := hcond
                  obtain ⟨s', h4, h4'⟩ := Option.bind_eq_some_iff.1 h3
                  obtain ⟨x', h5, h5'⟩ := Option.bind_eq_some_iff.1 h4'
                  injection h5' with h6
                  injection h6 with k1 k2 k3 k4 k5
                  subst k1 k2 k3 k4 k5
                  exact (op_app sc htm hi hop hcal hargs hts hu h1 hz c1 c3 h4 h5 he').g
                · cases h3
              · cases hc
            · cases hc
          · obtain ⟨_, _, h2⟩ := Option.bind_eq_some_iff.1 hc
            obtain ⟨_, _, h4⟩ := Option.bind_eq_some_iff.1 h2
            injection h4 with h4
            cases h4
          · obtain ⟨_, _, h2⟩ := Option.bind_eq_some_iff.1 hc
            obtain ⟨_, _, h4⟩ := Option.bind_eq_some_iff.1 h2
            injection h4 with h4
            cases h4
          · cases hc
        · have hb : op.wr = true → False := by
            intro hwr
            simp only [hop, cOp, hcal] at hc
            unfold cBuiltin at hc
            split at hc
            · split at hc
              · obtain ⟨_, _, rfl⟩ := Option.map_eq_some_iff.1 hc; cases hwr
              · obtain ⟨_, _, rfl⟩ := Option.map_eq_some_iff.1 hc; cases hwr
              · cases hc
            · split at hc
              · split at hc
                · obtain ⟨_, _, h2⟩ := Option.bind_eq_some_iff.1 hc
                  obtain ⟨_, _, h3⟩ := Option.bind_eq_some_iff.1 h2
                  split at h3
                  · obtain ⟨_, _, h4⟩ := Option.bind_eq_some_iff.1 h3
                    obtain ⟨_, _, h5⟩ := Option.bind_eq_some_iff.1 h4
                    injection h5 with h5
                    exact happ ⟨_, _, _, _, _, h5.symm⟩
                  · cases h3
                · cases hc
              · cases hc
            · obtain ⟨_, _, h2⟩ := Option.bind_eq_some_iff.1 hc
              obtain ⟨_, _, h4⟩ := Option.bind_eq_some_iff.1 h2
              injection h4 with h4
              subst h4
              cases hwr
            · obtain ⟨_, _, h2⟩ := Option.bind_eq_some_iff.1 hc
              obtain ⟨_, _, h4⟩ := Option.bind_eq_some_iff.1 h2
              injection h4 with h4
              subst h4
              cases hwr
            · cases hc
          obtain ⟨v, h1, h2, h3, h4⟩ := aop_pure hEq htm sc.obk hc he' ⟨by intro _ h; exact hb (by subst h; rfl), by intro _ h; exact hb (by subst h; rfl), by intro _ _ _ h; exact hb (by subst h; rfl), by intro _ _ _ h; exact hb (by subst h; rfl), by intro _ _ _ _ _ h; exact hb (by subst h; rfl)⟩
          refine .inl ⟨v, w, h1, E, Ext.refl _ _, h2, ?_⟩
          rw [h3, h4]
          exact sc.dn_mono fun _ h => .inl h
      | invoke r n => simp [hop, cOp, hcal] at hc

/-- The state of a frame, whole. -/
structure Sim (P : Program) (w0 : World) (E0 : Env) (nob nt : Nat) (E : Env) (st : St) (dn : Nat → Prop) (a : Act) (w : World) : Prop where
  sc : SC P w0 E0 nob E st.ob st.no st.ow st.nx dn w
  tm : ∀ i, RA E w (st.tm i) (a.tmps.getD i Go.undef)
  size : a.tmps.size = nt
  defers : a.defers = []
  nb : st.nb = nob

theorem Act.tmps_put (a : Act) (d : Option Nat) (v : Value) : (a.put d v).tmps = match d with | some d => a.tmps.setIfInBounds d v | none => a.tmps := by cases d <;> rfl
theorem Act.defers_put (a : Act) (d : Option Nat) (v : Value) : (a.put d v).defers = a.defers := by cases d <;> rfl
theorem Sim.put {nt : Nat} {E' : Env} {st : St} {a : Act} (h : Sim P w0 E0 nob nt E st dn a w) {dst : Option Nat} (hd : ∀ d, dst = some d → d < nt) {e : Eff} {v : Value} {dn' : Nat → Prop} (he : Ext E w E' w') (hr : RA E' w' e.v v)
    (hs : SC P w0 E0 nob E' (updO st.ob e.wo) st.no (updL st.ow e.wt) st.nx dn' w') : Sim P w0 E0 nob nt E' (st.eff dst e) dn' (a.put dst v) w' := by
  refine ⟨hs, fun i => ?_, ?_, by rw [Act.defers_put]; exact h.defers, h.nb⟩
  · cases dst with
    | none => exact (h.tm i).ext he
    | some d =>
      simp only [St.eff, Act.tmps_put]
      rw [upd_apply]
      have hlt : d < a.tmps.size := by rw [h.size]; exact hd d rfl
      split
      · rename_i e
        subst e
        rw [Array.getD_eq_getD_getElem?, Array.getElem?_setIfInBounds_self_of_lt hlt]
        exact hr
      · rename_i e
        rw [Array.getD_eq_getD_getElem?, Array.getElem?_setIfInBounds_ne (fun q => e q.symm), ← Array.getD_eq_getD_getElem?]
        exact (h.tm i).ext he
  · cases dst with
    | none => exact h.size
    | some d => simpa [Act.tmps_put] using h.size

theorem wanted_rep {st : St} {a : Act} (htm : ∀ i, RA E w (st.tm i) (a.tmps.getD i Go.undef)) {ops : Array Oper} {o : Oper} {g : Option (Nat × Bool)} (hg : cGuard ops o.guard = some g) : Region.wanted o (yielded ops a.tmps) = wantedA st g := by
  unfold Region.wanted
  cases ho : o.guard with
  | none =>
    rw [ho] at hg
    simp [cGuard] at hg
    subst hg
    rfl
  | some p =>
    obtain ⟨j, b⟩ := p
    rw [ho] at hg
    simp only [cGuard, Option.map_eq_some_iff] at hg
    obtain ⟨d, h1, rfl⟩ := hg
    have hd := htm d
    simp only [yielded, h1, Option.bind_some, wantedA]
    cases hq : a.tmps[d]? with
    | none =>
      have hu : a.tmps.getD d Go.undef = Go.undef := by rw [Array.getD_eq_getD_getElem?, hq]; rfl
      rw [hu] at hd
      generalize st.tm d = x at hd
      generalize hv : Go.undef = v at hd
      cases hd with
      | d h => cases h <;> first | rfl | cases hv
      | _ => rfl
    | some v =>
      have hu : a.tmps.getD d Go.undef = v := by rw [Array.getD_eq_getD_getElem?, hq]; rfl
      rw [hu] at hd
      generalize st.tm d = x at hd
      cases hd with
      | d h =>
        cases h with
        | bool c => cases c <;> cases b <;> rfl
        | _ => rfl
      | row hu' h =>
        cases hv : E.τ _ with
        | bool c => rw [hv] at h; cases h
        | _ => rfl
      | _ => rfl

theorem cOper_inv {nt : Nat} {eqT : TypeId → Bool} {ops : Array Oper} {o : Oper} {o' : AOper} (hc : cOper P eqT nt ops o = some o') : ∃ g op, (∀ d, o.dst = some d → d < nt) ∧ cGuard ops o.guard = some g ∧ cOp P eqT o.op = some op ∧ o' = { dst := o.dst, op := op, g := g } := by
  have fin : ((cGuard ops o.guard).bind fun g => (cOp P eqT o.op).map fun op => ({ dst := o.dst, op := op, g := g } : AOper)) = some o' → ∃ g op, cGuard ops o.guard = some g ∧ cOp P eqT o.op = some op ∧ o' = { dst := o.dst, op := op, g := g } := fun h => by
    obtain ⟨g, h1, h2⟩ := Option.bind_eq_some_iff.1 h
    obtain ⟨op, h3, rfl⟩ := Option.map_eq_some_iff.1 h2
    exact ⟨g, op, h1, h3, rfl⟩
  unfold cOper at hc
  cases hdst : o.dst with
  | none =>
    simp only [hdst, if_true] at hc fin
    obtain ⟨g, op, h⟩ := fin hc
    exact ⟨g, op, (fun d h => by cases h), h⟩
  | some d =>
    simp only [hdst, decide_eq_true_eq] at hc fin
    split at hc
    · rename_i hlt
      obtain ⟨g, op, h⟩ := fin hc
      exact ⟨g, op, (fun d' h => by injection h with h; subst h; exact hlt), h⟩
    · cases hc
/-- One operation of a region: it comes up. -/
theorem sim_step {nt : Nat} {eqT : TypeId → Bool} (hEq : EqT P eqT) {cl : FuncId → Fun} (hcl : ∀ f, (∀ a o, cl f a o = none) ∨ (Enters P f ∧ Fits P f (cl f))) {st : St} {a : Act} (h : Sim P w0 E0 nob nt E st dn a w) {i : Nat} (hi : ¬ dn i) {ops : Array Oper} {o : Oper} {o' : AOper}
    (hc : cOper P eqT nt ops o = some o') {e : Eff} (he : estep cl i st o' = some e) {K : Act → World → Prop} {Q : Exit → Act → World → Prop} (hK : ∀ E' a' w', Sim P w0 E0 nob nt E' (st.eff o'.dst e) (fun j => dn j ∨ j = i) a' w' → K a' w') :
    if Region.wanted o (yielded ops a.tmps) then o.wp P a w K Q else K (a.put o.dst undef) w := by
  obtain ⟨g, op, hd', h1, h3, rfl⟩ := cOper_inv hc
  rw [wanted_rep h.tm h1]
  simp only [estep] at he
  split at he
  · rename_i hw
    rw [if_pos hw]
    refine (step_sem hEq hcl h.sc hi h.tm h3 he).wp fun v w' hg => ?_
    obtain ⟨E', q1, q2, q3⟩ := hg
    exact hK E' _ _ (h.put hd' q1 q2 q3)
  · rename_i hw
    rw [if_neg hw]
    injection he with he
    subst he
    exact hK E _ _ (h.put hd' (Ext.refl _ _) (RA.undef _ _) (h.sc.dn_mono fun _ q => .inl q))
def Nl (x : Option AOp) : Prop := ∀ op, x = some op → op.looks = false
theorem nl_none : Nl none := fun _ h => by cases h
theorem nl_some {op : AOp} (h : op.looks = false) : Nl (some op) := fun _ e => by injection e with e; rw [← e]; exact h
theorem nl_map {α : Type} {x : Option α} {f : α → AOp} (h : ∀ y, (f y).looks = false) : Nl (x.map f) := fun op e => by
  obtain ⟨y, _, rfl⟩ := Option.map_eq_some_iff.1 e
  exact h y
theorem nl_bind {α : Type} {x : Option α} {f : α → Option AOp} (h : ∀ y, Nl (f y)) : Nl (x.bind f) := fun op e => by
  obtain ⟨y, _, h'⟩ := Option.bind_eq_some_iff.1 e
  exact h y op h'
def opLd : Op → Bool
  | .load _ _ => true
  | _ => false
theorem cOp_nl {eqT : TypeId → Bool} {o : Op} (h : opLd o = false) : Nl (cOp P eqT o) := by
  cases o
  case makeFunc fn first caps =>
    cases fn <;> simp only [cOp]
    case func f =>
      split
      · exact nl_map fun _ => rfl
      · exact nl_none
    all_goals exact nl_none
  case slice t x lo hi mx =>
    cases mx <;> simp only [cOp]
    case none =>
      split
      · exact nl_bind fun _ => nl_bind fun _ => nl_map fun _ => rfl
      · exact nl_bind fun _ => nl_bind fun _ => nl_bind fun _ => nl_map fun _ => rfl
      · exact nl_none
    case some => exact nl_none
  all_goals first | (simp [opLd] at h; done) | skip
  all_goals simp only [cOp, cBuiltin]
  all_goals repeat (first | exact nl_none | exact nl_some rfl | (refine nl_map fun _ => ?_; rfl) | refine nl_bind fun _ => ?_ | split)
/-- The same where no order is drawn: loads may give up what they find. -/
theorem sim_stepZ {nt : Nat} {eqT : TypeId → Bool} (hEq : EqT P eqT) {cl : FuncId → Fun} (hcl : ∀ f, (∀ a o, cl f a o = none) ∨ (Enters P f ∧ Fits P f (cl f))) {st : St} {a : Act} (h : Sim P w0 E0 nob nt E st dn a w) {i : Nat} (hi : ¬ dn i) {ops : Array Oper} {o : Oper} {o' : AOper}
    (hc : cOper P eqT nt ops o = some o') {e : Eff} (he : estepZ cl i st o' = some e) {K : Act → World → Prop} {Q : Exit → Act → World → Prop} (hK : ∀ E' a' w', Sim P w0 E0 nob nt E' (st.eff o'.dst e) (fun j => dn j ∨ j = i) a' w' → K a' w') :
    if Region.wanted o (yielded ops a.tmps) then o.wp P a w K Q else K (a.put o.dst undef) w := by
  unfold estepZ at he
  split at he
  · rename_i e' he'
    injection he with he
    subst he
    exact sim_step hEq hcl h hi hc he' hK
  · obtain ⟨g, op, hd', h1, h3, rfl⟩ := cOper_inv hc
    simp only at he
    split at he
    · rename_i n p
      split at he
      · rename_i hw
        rw [wanted_rep h.tm h1, if_pos hw]
        cases hl : opLd o.op with
        | false => have := cOp_nl hl _ h3; cases this
        | true =>
          cases hop : o.op <;> simp only [hop, opLd, Bool.false_eq_true] at hl
          rename_i t x
          simp only [hop, cOp, Option.bind_eq_some_iff] at h3
          obtain ⟨m, k1, k2⟩ := h3
          obtain ⟨q, k3, k4⟩ := Option.map_eq_some_iff.1 k2
          injection k4 with k4 k5
          subst k4 k5
          exact (op_ldz h.sc h.nb h.tm hop k1 k3 he).g.wp fun v w' hg => by
            obtain ⟨E', q1, q2, q3⟩ := hg
            exact hK E' _ _ (h.put hd' q1 q2 q3)
      · cases he
    · cases he
end Go.Ae
