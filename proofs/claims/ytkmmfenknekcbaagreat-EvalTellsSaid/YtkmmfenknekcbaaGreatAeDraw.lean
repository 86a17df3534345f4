/-
  REGIONS THAT DRAW THEIR ORDER: every order comes to the same.
-/
import Derived.Test.YtkmmfenknekcbaaGreatAeStep
import Derived.Still
set_option linter.unusedSimpArgs false
set_option linter.unusedVariables false
namespace Go.Ae
open Go.RowKit

theorem val_eq {st st' : St} {x : Opd} {l : List Nat} (hs : ∀ n ∈ l, st'.tm n = st.tm n) (h : ∀ n ∈ x.sl, n ∈ l) : st'.val x = st.val x := by
  cases x with
  | t n => exact hs n (h n (by simp [Opd.sl]))
  | k v => rfl
theorem vals_eq {st st' : St} {l : List Nat} (hs : ∀ n ∈ l, st'.tm n = st.tm n) : ∀ {xs : List Opd}, (∀ n ∈ xs.flatMap Opd.sl, n ∈ l) → xs.map st'.val = xs.map st.val
  | [], _ => rfl
  | x :: xs, h => by
    simp only [List.flatMap_cons, List.mem_append] at h
    rw [List.map_cons, List.map_cons, val_eq hs (fun n hn => h n (.inl hn)), vals_eq hs (fun n hn => h n (.inr hn))]
theorem fillD_eq {st st' : St} {l : List Nat} (hs : ∀ n ∈ l, st'.tm n = st.tm n) : ∀ {xs : List (Nat × Nat × Opd)} {z : List DV}, (∀ n ∈ xs.flatMap (fun p => p.2.2.sl), n ∈ l) → fillD st' z xs = fillD st z xs
  | [], _, _ => rfl
  | (off, sz, x) :: xs, z, h => by
    simp only [List.flatMap_cons, List.mem_append] at h
    simp only [fillD, val_eq (x := x) hs (fun n hn => h n (.inl hn))]
    congr 1
    funext cs
    split
    · congr 1
      funext z'
      exact fillD_eq hs (fun n hn => h n (.inr hn))
    · rfl
theorem elems_eq {st st' : St} {l : List Nat} {sz : Nat} (hs : ∀ n ∈ l, st'.tm n = st.tm n) : ∀ {xs : List Opd}, (∀ n ∈ xs.flatMap Opd.sl, n ∈ l) → elems st' sz xs = elems st sz xs
  | [], _ => rfl
  | x :: xs, h => by
    simp only [List.flatMap_cons, List.mem_append] at h
    simp only [elems, val_eq (x := x) hs (fun n hn => h n (.inl hn)), elems_eq hs (fun n hn => h n (.inr hn))]
theorem idsOf_eq {st st' : St} {l : List Nat} (hs : ∀ n ∈ l, st'.tm n = st.tm n) : ∀ {xs : List Opd}, (∀ n ∈ xs.flatMap Opd.sl, n ∈ l) → idsOf st' xs = idsOf st xs
  | [], _ => rfl
  | x :: xs, h => by
    simp only [List.flatMap_cons, List.mem_append] at h
    simp only [idsOf, val_eq (x := x) hs (fun n hn => h n (.inl hn)), idsOf_eq hs (fun n hn => h n (.inr hn))]
theorem mmI_eq {st st' : St} {l : List Nat} {mx : Bool} (hs : ∀ n ∈ l, st'.tm n = st.tm n) : ∀ {xs : List Opd} {v : AV}, (∀ n ∈ xs.flatMap Opd.sl, n ∈ l) → mmI mx st' v xs = mmI mx st v xs
  | [], _, _ => rfl
  | x :: xs, v, h => by
    simp only [List.flatMap_cons, List.mem_append] at h
    simp only [mmI, val_eq (x := x) hs (fun n hn => h n (.inl hn))]
    congr 1
    funext p
    congr 1
    funext q
    split
    · exact mmI_eq hs (fun n hn => h n (.inr hn))
    · rfl
theorem bnd_eq {st st' : St} {l : List Nat} {y d : Nat} {x : Option Opd} (hs : ∀ n ∈ l, st'.tm n = st.tm n) (h : ∀ n ∈ Opd.slO x, n ∈ l) : bnd st' y d x = bnd st y d x := by
  cases x with
  | none => rfl
  | some x => simp only [bnd, val_eq (x := x) hs h]
theorem obsOf_eq {st st' : St} : ∀ {ids : List Nat}, (∀ i ∈ ids, st'.ob i = st.ob i) → obsOf st' ids = obsOf st ids
  | [], _ => rfl
  | i :: ids, h => by
    have h2 := obsOf_eq (st := st) (st' := st') (ids := ids) (fun j hj => h j (by simp [hj]))
    simp only [obsOf, h i (by simp), h2]

theorem reads_eq {st st' : St} {op : AOp} (hs : ∀ n ∈ op.slots, st'.tm n = st.tm n) : reads st' op = reads st op := by
  cases op <;> simp only [reads, AOp.slots] at hs ⊢
  case ld n p => rw [val_eq hs (fun _ h => h)]
  case st n p x => rw [val_eq (x := p) hs (fun _ h => by simp [h])]
  case call f as => rw [val_eq (x := f) hs (fun _ h => by simp [h]), vals_eq (xs := as) hs (fun _ h => by simp [h])]
  case app e sz b s x => rw [val_eq (x := s) hs (fun _ h => by simp [h])]
theorem astep_frame {cl : FuncId → Fun} {i : Nat} {st st' : St} {op : AOp} (hs : ∀ n ∈ op.slots, st'.tm n = st.tm n) (ho : ∀ id ∈ (reads st op).1, st'.ob id = st.ob id) (ht : ∀ t ∈ (reads st op).2, st'.ow t = st.ow t) (hno : st'.no = st.no) (hnx : st'.nx = st.nx) :
    astep cl i st' op = astep cl i st op := by
  cases op <;> simp only [astep, aop, reads, AOp.slots] at hs ho ht ⊢
  case mv x | nilck x | eqn b x | eqp b x | un o x | cvi k x | cvbs x | fad x o | fld n o x | ext x j | lenq b x => simp only [val_eq (x := x) hs (fun _ h => h)]
  case box x => simp only [val_eq (x := x) hs (fun _ h => h), hno]
  case pick c a b => simp only [val_eq (x := c) hs (fun _ h => by simp [h]), val_eq (x := a) hs (fun _ h => by simp [h]), val_eq (x := b) hs (fun _ h => by simp [h])]
  case new z => simp only [hno]
  case build z ps => rw [fillD_eq hs (fun _ h => h)]
  case mkrow e sz ps => rw [elems_eq hs (fun _ h => h), hnx]
  case bin o x y | eqs n b x y | eqb b x y | iad n x y | ixs x y => simp only [val_eq (x := x) hs (fun _ h => by simp [h]), val_eq (x := y) hs (fun _ h => by simp [h])]
  case fnv f ps => rw [idsOf_eq hs (fun _ h => h)]
  case ss x lo hi =>
    simp only [val_eq (x := x) hs (fun _ h => by simp [h])]
    split
    · rw [bnd_eq (x := hi) hs (fun _ h => by simp [h])]
      congr 1
      funext h
      rw [bnd_eq (x := lo) hs (fun _ h => by simp [h])]
    · rfl
  case sls n x lo hi =>
    simp only [val_eq (x := x) hs (fun _ h => by simp [h])]
    congr 1
    funext xs
    rw [bnd_eq (x := hi) hs (fun _ h => by simp [h])]
    congr 2
    funext h
    rw [bnd_eq (x := lo) hs (fun _ h => by simp [h])]
  case mm b x ys =>
    rw [val_eq (x := x) hs (fun _ h => by simp [h]), mmI_eq (xs := ys) hs (fun _ h => by simp [h])]
  case ld n p =>
    rw [val_eq (x := p) hs (fun _ h => h)]
    split
    · rename_i id off heq
      rw [ho id (by simp [heq, AV.idL])]
    · rfl
    · rfl
  case st n p x =>
    rw [val_eq (x := p) hs (fun _ h => by simp [h]), val_eq (x := x) hs (fun _ h => by simp [h])]
    split
    · rename_i id off heq
      rw [ho id (by simp [heq, AV.idL])]
    · rfl
  case app e sz b s x =>
    rw [val_eq (x := s) hs (fun _ h => by simp [h]), val_eq (x := x) hs (fun _ h => by simp [h])]
    congr 1
    funext ys
    split
    · split
      · rw [hnx]
      · rename_i t e' xs heq
        rw [ht t (by simp [heq, AV.tokL]), hnx]
      · rfl
    · rfl
  case call f as =>
    unfold acall
    rw [val_eq (x := f) hs (fun _ h => by simp [h]), vals_eq (xs := as) hs (fun _ h => by simp [h])]
    cases hca : callArgs (st.val f) (as.map st.val) with
    | none => rfl
    | some a =>
      rw [hca] at ho
      simp only [Option.bind_some]
      rw [obsOf_eq ho, hno, hnx]
theorem wantedA_eq {st st' : St} {g : Option (Nat × Bool)} (h : ∀ p, g = some p → st'.tm p.1 = st.tm p.1) : wantedA st' g = wantedA st g := by
  cases g with
  | none => rfl
  | some p => obtain ⟨s, b⟩ := p; simp only [wantedA, h (s, b) rfl]
theorem estep_frame {cl : FuncId → Fun} {i : Nat} {st st' : St} {o : AOper} {e : Eff} (h : estep cl i st o = some e) (hs : ∀ n ∈ o.slots, st'.tm n = st.tm n) (ho : ∀ id ∈ (foot st o e).ro, st'.ob id = st.ob id) (ht : ∀ t ∈ (foot st o e).rt, st'.ow t = st.ow t)
    (hno : st'.no = st.no) (hnx : st'.nx = st.nx) : estep cl i st' o = some e ∧ foot st' o e = foot st o e := by
  have hw : wantedA st' o.g = wantedA st o.g := wantedA_eq fun p hp => hs p.1 (by simp [AOper.slots, hp])
  have hs' : ∀ n ∈ o.op.slots, st'.tm n = st.tm n := fun n hn => hs n (by simp [AOper.slots, hn])
  unfold estep foot at *
  rw [hw]
  cases hq : wantedA st o.g with
  | false => simp only [hq, Bool.false_eq_true, if_false] at h ⊢; exact ⟨h, trivial⟩
  | true =>
    simp only [hq, if_true] at h ho ht ⊢
    exact ⟨(astep_frame hs' ho ht hno hnx).trans h, by rw [reads_eq hs']⟩
theorem foot_wo {cl : FuncId → Fun} {i : Nat} {st : St} {o : AOper} {e : Eff} (h : estep cl i st o = some e) : e.wo.map (·.1) = (foot st o e).wo ∧ e.wt.map (·.1) = (foot st o e).wt := by
  unfold foot estep at *
  split at h
  · rename_i hw; simp [hw]
  · rename_i hw; injection h with h; subst h; simp [hw]

theorem updO_not {f : Nat → Option (List AV)} : ∀ {l : List (Nat × Option (List AV))} {k : Nat}, k ∉ l.map (·.1) → updO f l k = f k
  | [], _, _ => rfl
  | (i, v) :: l, k, h => by
    simp only [List.map_cons, List.mem_cons, not_or] at h
    exact (updO_not (f := upd f i v) h.2).trans (by rw [upd_apply, if_neg h.1])
theorem updO_congr {f g : Nat → Option (List AV)} : ∀ {l : List (Nat × Option (List AV))} {k : Nat}, (k ∈ l.map (·.1) ∨ f k = g k) → updO f l k = updO g l k
  | [], k, h => by simpa [updO] using h
  | (i, v) :: l, k, h => by
    refine updO_congr (f := upd f i v) (g := upd g i v) ?_
    by_cases hk : k = i
    · right; rw [upd_apply, upd_apply, if_pos hk, if_pos hk]
    · rw [upd_apply, upd_apply, if_neg hk, if_neg hk]
      simpa [hk] using h
theorem updL_not {f : Nat → Bool} : ∀ {l : List (Nat × Bool)} {k : Nat}, k ∉ l.map (·.1) → updL f l k = f k
  | [], _, _ => rfl
  | (i, v) :: l, k, h => by
    simp only [List.map_cons, List.mem_cons, not_or] at h
    exact (updL_not (f := upd f i v) h.2).trans (by rw [upd_apply, if_neg h.1])
theorem updL_congr {f g : Nat → Bool} : ∀ {l : List (Nat × Bool)} {k : Nat}, (k ∈ l.map (·.1) ∨ f k = g k) → updL f l k = updL g l k
  | [], k, h => by simpa [updL] using h
  | (i, v) :: l, k, h => by
    refine updL_congr (f := upd f i v) (g := upd g i v) ?_
    by_cases hk : k = i
    · right; rw [upd_apply, upd_apply, if_pos hk, if_pos hk]
    · rw [upd_apply, upd_apply, if_neg hk, if_neg hk]
      simpa [hk] using h
theorem apartL_spec {a b : List Nat} (h : apartL a b = true) {x : Nat} (hx : x ∈ a) : x ∉ b := fun hb => by
  have h1 := List.all_eq_true.1 h x hx
  have h2 := List.all_eq_true.1 h1 x hb
  simp at h2
theorem apart_spec {a b : Foot} (h : a.apart b = true) : apartL a.wo (b.ro ++ b.wo) = true ∧ apartL b.wo a.ro = true ∧ apartL a.wt (b.rt ++ b.wt) = true ∧ apartL b.wt a.rt = true := by
  unfold Foot.apart at h
  simp only [Bool.and_eq_true] at h
  exact ⟨h.1.1.1, h.1.1.2, h.1.2, h.2⟩
theorem eff_comm {st : St} {d d' : Option Nat} {e e' : Eff} (hd : ∀ x, d = some x → d' ≠ some x) (ho : ∀ k, k ∈ e.wo.map (·.1) → k ∉ e'.wo.map (·.1)) (ht : ∀ k, k ∈ e.wt.map (·.1) → k ∉ e'.wt.map (·.1)) :
    (st.eff d e).eff d' e' = (st.eff d' e').eff d e := by
  unfold St.eff
  have h1 : updO (updO st.ob e.wo) e'.wo = updO (updO st.ob e'.wo) e.wo := by
    funext k
    by_cases hk : k ∈ e.wo.map (·.1)
    · rw [updO_not (ho k hk)]
      exact updO_congr (.inl hk)
    · rw [updO_not (f := updO st.ob e'.wo) hk]
      exact updO_congr (.inr (updO_not hk))
  have h2 : updL (updL st.ow e.wt) e'.wt = updL (updL st.ow e'.wt) e.wt := by
    funext k
    by_cases hk : k ∈ e.wt.map (·.1)
    · rw [updL_not (ht k hk)]
      exact updL_congr (.inl hk)
    · rw [updL_not (f := updL st.ow e'.wt) hk]
      exact updL_congr (.inr (updL_not hk))
  simp only [h1, h2]
  congr 1
  cases d with
  | none => cases d' <;> rfl
  | some x =>
    cases d' with
    | none => rfl
    | some y =>
      have hne : x ≠ y := fun e => hd x rfl (by rw [e])
      funext k
      simp only [upd_apply]
      by_cases h : k = x
      · subst h; simp [hne]
      · simp [h]

section
variable {cl : FuncId → Fun} {ops : Array Oper} {as : List AOper} {T : Nat → Foot} {Q : St → Prop}

def aeAny (cl : FuncId → Fun) (ops : Array Oper) (as : List AOper) (T : Nat → Foot) (Q : St → Prop) : Nat → Array Bool → St → Prop
  | 0, listed, st => Region.ready .any ops listed = [] ∧ Q st
  | fuel + 1, listed, st => (Region.ready .any ops listed = [] → Q st) ∧ ∀ i ∈ Region.ready .any ops listed, ∃ o e, as[i]? = some o ∧ estep cl i st o = some e ∧ foot st o e = T i ∧ aeAny cl ops as T Q fuel (listed.setIfInBounds i true) (st.eff o.dst e)

theorem tm_eff {st : St} {d : Option Nat} {e : Eff} {n : Nat} (h : ∀ x, d = some x → n ≠ x) : (st.eff d e).tm n = st.tm n := by
  cases d with
  | none => rfl
  | some d => simp only [St.eff]; rw [upd_apply, if_neg (h d rfl)]
theorem apartS_spec {x y : AOper} (h : x.apartS y = true) : (∀ d, x.dst = some d → d ∉ y.slots) ∧ (∀ d, x.dst = some d → y.dst ≠ some d) ∧ ∀ d, y.dst = some d → d ∉ x.slots := by
  refine ⟨fun d hd => ?_, fun d hd => ?_, fun d hd => ?_⟩ <;> simp [AOper.apartS, hd] at h
  · exact h.1.1
  · exact h.1.2
  · exact h.2

theorem aeAny_first {i : Nat} {oi : AOper} {e : Eff} (hi : as[i]? = some oi) :
    ∀ (fuel : Nat) (listed : Array Bool) (st : St),
      (∀ j oj pj, as[j]? = some oj → ops[j]? = some pj → j ≠ i → listed.getD j true = false → (∀ e ∈ pj.after, Region.binds .any e = true → e.on ≠ i) → oi.apartS oj = true ∧ (T i).apart (T j) = true) →
      i ∈ Region.ready .any ops listed → estep cl i st oi = some e → foot st oi e = T i → aeAny cl ops as T Q fuel (listed.setIfInBounds i true) (st.eff oi.dst e) → aeAny cl ops as T Q (fuel + 1) listed st := by
  intro fuel
  induction fuel with
  | zero =>
    intro listed st _ hr hy hf H
    refine ⟨fun h => (by rw [h] at hr; cases hr), fun j hj => ?_⟩
    by_cases hji : j = i
    · subst hji; exact ⟨oi, e, hi, hy, hf, H⟩
    · have := ready_mono hj hji
      rw [H.1] at this
      cases this
  | succ fuel ih =>
    intro listed st hfree hr hy hf H
    refine ⟨fun h => (by rw [h] at hr; cases hr), fun j hj => ?_⟩
    by_cases hji : j = i
    · subst hji; exact ⟨oi, e, hi, hy, hf, H⟩
    · obtain ⟨oj, ej, h1, h2, h3, h4⟩ := H.2 j (ready_mono hj hji)
      obtain ⟨hjun, pj, hpj, hall⟩ := mem_ready.1 hj
      have hnot : ∀ e ∈ pj.after, Region.binds .any e = true → e.on ≠ i := fun e he hb heq => by
        have h1 := hall e he hb
        have h0 := (mem_ready.1 hr).1
        rw [heq] at h1
        rcases Nat.lt_or_ge i listed.size with h' | h'
        · simp [h'] at h0 h1; rw [h0] at h1; cases h1
        · simp [Array.getElem?_eq_none h'] at h1
      obtain ⟨hap, hfp⟩ := hfree j oj pj h1 hpj hji hjun hnot
      obtain ⟨s1, s2, s3⟩ := apartS_spec hap
      obtain ⟨f1, f2, f3, f4⟩ := apart_spec hfp
      obtain ⟨wi1, wi2⟩ := foot_wo hy
      obtain ⟨wj1, wj2⟩ := foot_wo h2
      rw [hf] at wi1 wi2
      rw [h3] at wj1 wj2
      -- j, ahead of i
      obtain ⟨g1, g2⟩ := estep_frame (st' := st) h2 (fun n hn => (tm_eff fun x hx e => s1 x hx (by rw [← e]; exact hn)).symm)
        (fun id hid => by
          rw [h3] at hid
          exact (updO_not (fun hm => by rw [wi1] at hm; exact apartL_spec f1 hm (by simp [hid]))).symm)
        (fun t ht => by
          rw [h3] at ht
          exact (updL_not (fun hm => by rw [wi2] at hm; exact apartL_spec f3 hm (by simp [ht]))).symm) rfl rfl
      -- i, behind j
      obtain ⟨k1, k2⟩ := estep_frame (st' := st.eff oj.dst ej) hy (fun n hn => tm_eff fun x hx e => s3 x hx (by rw [← e]; exact hn))
        (fun id hid => by
          rw [hf] at hid
          exact updO_not (fun hm => by rw [wj1] at hm; exact apartL_spec f2 hm hid))
        (fun t ht => by
          rw [hf] at ht
          exact updL_not (fun hm => by rw [wj2] at hm; exact apartL_spec f4 hm ht)) rfl rfl
      have hcomm : (st.eff oi.dst e).eff oj.dst ej = (st.eff oj.dst ej).eff oi.dst e := eff_comm s2
        (fun k hk hk' => by rw [wi1] at hk; rw [wj1] at hk'; exact apartL_spec f1 hk (by simp [hk']))
        (fun k hk hk' => by rw [wi2] at hk; rw [wj2] at hk'; exact apartL_spec f3 hk (by simp [hk']))
      refine ⟨oj, ej, h1, g1, g2.trans h3, ih (listed.setIfInBounds j true) (st.eff oj.dst ej) ?_ (ready_mono hr (Ne.symm hji)) k1 (k2.trans hf) ?_⟩
      · intro k ok pk hk hpk hki hun hno
        refine hfree k ok pk hk hpk hki ?_ hno
        by_cases hjk : j = k
        · subst hjk; exact hjun
        · rw [getD_set_ne true hjk] at hun; exact hun
      · rw [Array.setIfInBounds_comm _ _ hji, ← hcomm]
        exact h4

theorem aeAny_lex {n : Nat} (hpair : ∀ i j oi oj pj, i < j → as[i]? = some oi → as[j]? = some oj → ops[j]? = some pj → (∀ e ∈ pj.after, Region.binds .any e = true → e.on ≠ i) → oi.apartS oj = true ∧ (T i).apart (T j) = true) :
    ∀ (l : List AOper) (k : Nat) (listed : Array Bool) (st st' : St) (fs : List Foot), (∀ j, l[j]? = as[k + j]?) → (∀ j, j < k → listed.getD j true = true) → Region.lexFrom .any ops l.length k listed = true → rgF cl k st l = some (st', fs) → (∀ j f, fs[j]? = some f → T (k + j) = f) → Q st' → aeAny cl ops as T Q l.length listed st
  | [], k, listed, st, st', fs, _, _, hB, h, _, hQ => by
    simp only [rgF, Option.some.injEq, Prod.mk.injEq] at h
    obtain ⟨rfl, _⟩ := h
    exact ⟨by simpa [Region.lexFrom] using hB, hQ⟩
  | o :: l, k, listed, st, st', fs, hl, hlist, hB, h, hT, hQ => by
    have h0 : as[k]? = some o := by simpa using (hl 0).symm
    simp only [List.length_cons, Region.lexFrom, Bool.and_eq_true] at hB
    obtain ⟨⟨hr, _⟩, hB'⟩ := hB
    simp only [rgF, Option.bind_eq_some_iff] at h
    obtain ⟨e, h1, ⟨st1, fs1⟩, h2, h3⟩ := h
    simp only [Option.some.injEq, Prod.mk.injEq] at h3
    obtain ⟨rfl, rfl⟩ := h3
    refine aeAny_first h0 l.length listed st ?_ (by simpa using hr) h1 (hT 0 _ rfl).symm ?_
    · intro j oj pj hj hpj hjk hun hno
      rcases Nat.lt_or_ge j k with hlt | hge
      · rw [hlist j hlt] at hun; cases hun
      · exact hpair k j o oj pj (by omega) h0 hj hpj hno
    · refine aeAny_lex (n := n) hpair l (k + 1) _ _ _ fs1 (fun j => by have := hl (j + 1); simpa [Nat.add_assoc, Nat.add_comm 1 j] using this) ?_ hB' h2 (fun j f hf => by have := hT (j + 1) f (by simpa using hf); rwa [Nat.add_assoc, Nat.add_comm 1 j]) hQ
      intro j hj
      by_cases hjk : k = j
      · subst hjk
        rw [Array.getD_eq_getD_getElem?]
        by_cases hs : k < listed.size
        · simp [hs]
        · simp [hs]
      · rw [getD_set_ne true hjk]
        exact hlist j (by omega)
end
end Go.Ae
