/-
  THE OPERATIONS THAT WRITE NOTHING: what the evaluator says is what the model does.
-/
import Derived.Test.YtkmmfenknekcbaaGreatAeRep
import Derived.WalkKit
set_option linter.unusedSimpArgs false
set_option linter.unusedVariables false
namespace Go.Ae
variable {P : Program} {E : Env} {w : World}

/-- What an operation that calls nothing comes to. -/
def Out (P : Program) (o : Oper) (a : Act) (w : World) (v : Value) (w' : World) : Prop :=
  (execOp a.eval o).run P w = .ok (.value v) w' ∨ ((execOp a.eval o).run P w = .ok .skip w' ∧ v = Go.undef)

theorem str_data (s : ByteArray) : s = ⟨s.data.toList.toArray⟩ := by cases s; rfl
theorem constA_rep {v : Value} {x : AV} (h : constA v = some x) : RA E w x v := by
  unfold constA at h
  split at h
  case h_1 k n => injection h with h; subst h; exact .d (.int k n)
  case h_2 b => injection h with h; subst h; exact .d (.bool b)
  case h_3 s =>
    injection h with h; subst h
    have := RA.d (E := E) (w := w) (RD.str s.data.toList)
    rwa [← str_data] at this
  case h_4 => injection h with h; subst h; exact .nils
  case h_5 => injection h with h; subst h; exact .nilp
  case h_6 => cases h
theorem constD_rep {Pr : Nat → Nat → Prop} {v : Value} {x : DV} (h : constD v = some x) : RD w Pr x v := by
  unfold constD at h
  split at h
  case h_1 k n => injection h with h; subst h; exact .int k n
  case h_2 b => injection h with h; subst h; exact .bool b
  case h_3 s =>
    injection h with h; subst h
    have := RD.str (w := w) (Pr := Pr) s.data.toList
    rwa [← str_data] at this
  case h_4 => injection h with h; subst h; exact .nil w Pr none 0
  case h_5 => cases h
theorem mapO_rep {α β γ : Type} {f : α → Option β} {R : β → γ → Prop} {g : α → γ} (hf : ∀ x y, f x = some y → R y (g x)) : ∀ {l : List α} {m : List β}, mapO f l = some m → All2 R m (l.map g)
  | [], _, h => by simp [mapO] at h; subst h; exact .nil
  | x :: l, _, h => by
    simp only [mapO, Option.bind_eq_some_iff] at h
    obtain ⟨y, h1, r, h2, h3⟩ := h
    injection h3 with h3
    subst h3
    exact .cons (hf _ _ h1) (mapO_rep hf h2)
theorem opd_rep {st : St} {a : Act} (htm : ∀ i, RA E w (st.tm i) (a.tmps.getD i Go.undef)) {x : Operand} {y : Opd} (h : cOpd x = some y) : RA E w (st.val y) (a.eval x) := by
  unfold cOpd at h
  cases x with
  | tmp t => injection h with h; subst h; exact htm t
  | const v => simp only [Option.map_eq_some_iff] at h; obtain ⟨z, h1, rfl⟩ := h; exact constA_rep h1
  | func f => injection h with h; subst h; exact RA.fn (E := E) (w := w) (f := f) (ids := []) (by simp)
  | global g => cases h

def isAggD : TypeDesc → Bool
  | .struct _ | .array _ _ => true
  | _ => false
theorem run_isAgg {t : TypeId} {d : TypeDesc} (h : P.underlying t = some d) (w : World) : (isAgg t).run P w = .ok (isAggD d) w := by
  unfold isAgg
  rw [Sem.run_bind, run_underlying h, Result.andThen_ok]
  cases d <;> rfl
theorem run_tsize {t : TypeId} {n : Nat} (h : tsize P t = some n) (w : World) : (sizeOf t).run P w = .ok n w := by
  unfold tsize at h
  obtain ⟨i, h1, rfl⟩ := Option.map_eq_some_iff.1 h
  simp [sizeOf, typeInfo, h1]
/-- Loading a variable: one cell. -/
theorem run_load_one {t : TypeId} (h : tload P t = some none) {w : World} {ad : Addr} {v : Value} (hc : w.cell? ad = some v) : (loadVar t ad).run P w = .ok v w := by
  unfold tload at h
  split at h
  · rename_i h1; simp at h
  · cases h
  · rename_i d h1 h2 h3
    have : isAggD d = false := by cases d <;> first | rfl | exact (h1 _ rfl).elim | exact (h2 _ _ rfl).elim
    simp only [loadVar, Sem.run_bind, run_isAgg h3, Result.andThen_ok, this, Bool.false_eq_true, if_false, run_load, hc]
  · cases h
/-- Loading a variable: so many cells. -/
theorem run_load_many {t : TypeId} {n : Nat} (h : tload P t = some (some n)) {w : World} {ad : Addr} {vs : List Value} (hl : vs.length = n) (hc : ∀ j v, vs[j]? = some v → w.cell? (ad.add j) = some v) :
    (loadVar t ad).run P w = .ok (.agg vs.toArray) w := by
  unfold tload at h
  split at h
  · rename_i fs h1
    obtain ⟨m, h2, h3⟩ := Option.map_eq_some_iff.1 h
    injection h3 with h3
    subst h3
    subst hl
    simp only [loadVar, Sem.run_bind, run_isAgg h1, Result.andThen_ok, isAggD, if_true, run_tsize h2, run_loadCells_list w ad vs hc, Sem.run_pure]
  · cases h
  · simp at h
  · cases h
theorem tload_part {t : TypeId} (h : tload P t = some none) {w : World} {cs : Array Value} {off : Nat} {v : Value} (hc : cs[off]? = some v) : (part t cs off).run P w = .ok v w := by
  unfold tload at h
  split at h
  · rename_i h1; simp at h
  · cases h
  · rename_i d h1 h2 h3
    have : isAggD d = false := by cases d <;> first | rfl | exact (h1 _ rfl).elim | exact (h2 _ _ rfl).elim
    simp only [part, Sem.run_bind, run_isAgg h3, Result.andThen_ok, this, Bool.false_eq_true, if_false, hc, Sem.run_pure]
  · cases h
theorem tload_parts {t : TypeId} {n : Nat} (h : tload P t = some (some n)) {w : World} {cs : Array Value} {off : Nat} : (part t cs off).run P w = .ok (.agg (cs.extract off (off + n))) w := by
  unfold tload at h
  split at h
  · rename_i fs h1
    obtain ⟨m, h2, h3⟩ := Option.map_eq_some_iff.1 h
    injection h3 with h3
    subst h3
    simp only [part, Sem.run_bind, run_isAgg h1, Result.andThen_ok, isAggD, if_true, run_tsize h2, Sem.run_pure]
  · cases h
  · simp at h
  · cases h
theorem add_lit (b o j : Nat) : (⟨b, o, none⟩ : Addr).add j = ⟨b, o + j, none⟩ := by unfold Addr.add; split <;> simp_all

theorem string_toList (s : List UInt8) : (⟨s.toArray⟩ : ByteArray).toList = s := ByteArray.toList_eq _
theorem string_size (s : List UInt8) : (⟨s.toArray⟩ : ByteArray).size = s.length := rfl
theorem string_append (s t : List UInt8) : (⟨s.toArray⟩ : ByteArray) ++ ⟨t.toArray⟩ = ⟨(s ++ t).toArray⟩ := by
  apply ByteArray.ext
  simp
theorem bin_rep {op : BinOp} {t : TypeId} {a b r : DV} {u v : Value} {Pr : Nat → Nat → Prop} (ha : RD w Pr a u) (hb : RD w Pr b v) (h : binD op a b = some r) : ∃ z, (binOp op t u v).run P w = .ok z w ∧ RD w Pr r z := by
  cases ha with
  | int k n =>
    cases hb with
    | int k' m =>
      simp only [binD] at h
      cases op <;> simp only [] at h
      case shl | shr =>
        split at h
        · cases h
        · rename_i hb
          injection h with h
          subst h
          exact ⟨_, by simp [binOp, Op.shift, hb], .int _ _⟩
      case andNot => cases h
      all_goals
        split at h
        · rename_i hkk
          subst hkk
          first
          | (split at h
             · cases h
             · rename_i hz
               injection h with h
               subst h
               exact ⟨_, by simp [binOp, Op.intDiv, hz], .int _ _⟩)
          | (injection h with h
             subst h
             first
             | (refine ⟨_, ?_, .int _ _⟩; simp [binOp, Op.intArith]; done)
             | (refine ⟨_, ?_, .int _ _⟩; simp only [binOp, ne_eq, not_true_eq_false, if_false]; rfl)
             | (refine ⟨_, ?_, .bool _⟩; simp [binOp, Op.intCmp]; done))
        · cases h
    | _ => simp [binD] at h
  | bool x => cases hb <;> simp [binD] at h
  | str x =>
    cases hb with
    | str y =>
      simp only [binD] at h
      cases op <;> simp only [] at h
      case add =>
        split at h
        · cases h
        · rename_i hl
          injection h with h
          subst h
          refine ⟨.string ⟨(x ++ y).toArray⟩, ?_, .str _⟩
          simp only [binOp, Op.stringOp, string_size]
          rw [Sem.run_ite, if_neg hl, string_append]
          rfl
      case eql | neq | lss | leq | gtr | geq =>
        injection h with h
        subst h
        exact ⟨_, by simp [binOp, Op.stringOp, string_toList, bytesLt], .bool _⟩
      all_goals cases h
    | _ => simp [binD] at h
  | sl => cases hb <;> simp [binD] at h

/-- '==' of two structs of a type: as their cells are. -/
def EqT (P : Program) (eqT : TypeId → Bool) : Prop := ∀ t n, eqT t = true → tsize P t = some n → ∀ (w : World) (Pr : Nat → Nat → Prop) (cs ds : List DV) (xs ys : Array Value) (r : Bool), cs.length = n → eqD cs ds = some r → All2 (RD w Pr) cs xs.toList → All2 (RD w Pr) ds ys.toList →
  (Op.equal t (.agg xs) (.agg ys)).run P w = .ok r w ∧ P.eqGuardType P.depth t = false
/-- What is known of the objects. -/
def ObOk (E : Env) (w : World) (ob : Nat → Option (List AV)) : Prop := ∀ id cs, ob id = some cs → ∃ vs T, w.heap[E.ρ id]? = some (.cells vs T (0, 0)) ∧ Pre (RA E w) cs vs.toList

theorem out_val {o : Oper} {a : Act} {v : Value} {w' : World} (h : (execOp a.eval o).run P w = .ok (.value v) w') : Out P o a w v w' := .inl h
/-- Cells of a block from a place on. -/
theorem cell_at {b o : Nat} {vs : Array Value} {T : TypeId} {fr : Nat × Nat} (h : w.heap[b]? = some (.cells vs T fr)) : w.cell? ⟨b, o, none⟩ = vs[o]? := by simp [World.cell?, h]
theorem RC.get {Pr : Nat → Nat → Prop} {b o : Nat} {l : List DV} (h : RC w Pr b o l) {j : Nat} {x : DV} (hx : l[j]? = some x) : ∃ v, w.cell? ⟨b, o + j, none⟩ = some v ∧ RD w Pr x v := by
  obtain ⟨vs, h1, h2, _⟩ := h.vals
  obtain ⟨v, hv, hr⟩ := h1.get hx
  exact ⟨v, h2 j v hv, hr⟩

theorem ld_sound {t : TypeId} {n : Option Nat} {st : St} {p : AV} {pv : Value} (hl : tload P t = some n) (hob : ObOk E w st.ob) (hp : RA E w p pv) {e : Eff} {i : Nat} {q : Opd} (hq : st.val q = p) (he : aop i st (.ld n q) = some e) :
    ∃ v, (Instr.loadAt t pv).run P w = .ok v w ∧ RA E w e.v v ∧ e.wo = [] ∧ e.wt = [] := by
  simp only [aop, hq] at he
  cases hp with
  | @ptr id off hv =>
    simp only [Option.bind_eq_some_iff] at he
    obtain ⟨cs, hcs, he⟩ := he
    obtain ⟨vs, T, hh, hr⟩ := hob id cs hcs
    cases n with
    | none =>
      simp only [Option.bind_eq_some_iff] at he
      obtain ⟨x, hx, he⟩ := he
      injection he with he
      subst he
      obtain ⟨v, hv', hrv⟩ := hr.get hx
      refine ⟨v, ?_, hrv, rfl, rfl⟩
      have hc : w.cell? ⟨E.ρ id, off, none⟩ = some v := by rw [cell_at hh]; simpa using hv'
      simp only [Instr.loadAt, Instr.sureAddr, Sem.run_bind, Sem.run_pure, Result.andThen_ok, run_load_one hl hc]
    | some n =>
      simp only [Option.bind_eq_some_iff] at he
      obtain ⟨l, hl1, ds, hds, he⟩ := he
      injection he with he
      subst he
      obtain ⟨h1, h2, h3⟩ := (hr.drop off).takeN hl1
      have h4 := allD_rep h1 hds
      refine ⟨.agg (((vs.toList.drop off).take n).toArray), ?_, .agg (by simpa using h4), rfl, rfl⟩
      have hlen : ((vs.toList.drop off).take n).length = n := by rw [← h1.length]; exact h2
      simp only [Instr.loadAt, Instr.sureAddr, Sem.run_bind, Sem.run_pure, Result.andThen_ok]
      rw [run_load_many hl hlen (fun j v hj => by
        rw [add_lit, cell_at hh]
        rw [List.getElem?_take] at hj
        split at hj
        · simpa using hj
        · cases hj)]
  | @elp cs b o off h =>
    cases n with
    | none =>
      simp only [Option.bind_eq_some_iff] at he
      obtain ⟨x, hx, he⟩ := he
      injection he with he
      subst he
      obtain ⟨v, hv', hrv⟩ := h.get hx
      refine ⟨v, ?_, .d hrv, rfl, rfl⟩
      simp only [Instr.loadAt, Instr.sureAddr, Sem.run_bind, Sem.run_pure, Result.andThen_ok, run_load_one hl hv']
    | some n =>
      simp only [Option.bind_eq_some_iff] at he
      obtain ⟨l, hl1, he⟩ := he
      injection he with he
      subst he
      obtain ⟨vs, hv1, hv2, _⟩ := h.vals
      obtain ⟨h1, h2, h3⟩ := (hv1.drop off).takeN hl1
      refine ⟨.agg (((vs.drop off).take n).toArray), ?_, .agg (by simpa using h1), rfl, rfl⟩
      have hlen : ((vs.drop off).take n).length = n := by rw [← h1.length]; exact h2
      simp only [Instr.loadAt, Instr.sureAddr, Sem.run_bind, Sem.run_pure, Result.andThen_ok]
      rw [run_load_many hl hlen (fun j v hj => by
        rw [add_lit, Nat.add_assoc]
        rw [List.getElem?_take] at hj
        split at hj
        · exact hv2 _ _ (by simpa using hj)
        · cases hj)]
  | _ => simp at he

theorem eqD_guard {op : BinOp} {t : TypeId} {x y : Operand} {u v : Value} (h : ∀ a b, u = .agg a → v = .agg b → P.eqGuardType P.depth t = false) (h2 : u ≠ .nilIface) : (eqGuard op t x y u v).run P w = .ok () w := by
  cases op <;> first
  | rfl
  | (cases u <;> first
     | exact absurd rfl h2
     | rfl
     | (cases v <;> first
        | rfl
        | (simp [eqGuard, h _ _ rfl rfl]; done)))
theorem out_bin {o : Oper} {a : Act} {op : BinOp} {t yt : TypeId} {x y : Operand} {z : Value} (ho : o.op = .binOp op t x y yt) (h2 : a.eval x ≠ .nilIface) (h : ∀ p q, a.eval x = .agg p → a.eval y = .agg q → P.eqGuardType P.depth t = false)
    (hr : (binOp op t (a.eval x) (a.eval y)).run P w = .ok z w) : Out P o a w z w := by
  refine .inl ?_
  simp only [execOp, ho, Sem.run_bind, eqD_guard h h2, Result.andThen_ok, hr, Sem.run_pure]

theorem fill_rep {Pr : Nat → Nat → Prop} {st : St} {a : Act} (htm : ∀ i, RA E w (st.tm i) (a.tmps.getD i Go.undef)) (hPr : E.Pr = Pr) {place : Nat → Option (Nat × Nat)} :
    ∀ {parts : List (Nat × Operand)} {ps : List (Nat × Nat × Opd)} {z r : List DV} {vs : Array Value}, All2 (fun (p : Nat × Operand) (q : Nat × Nat × Opd) => place p.1 = some (q.1, q.2.1) ∧ cOpd p.2 = some q.2.2) parts ps →
    All2 (RD w Pr) z vs.toList → fillD st z ps = some r → ∃ us : Array Value, Instr.fill place vs (parts.map fun p => (p.1, a.eval p.2)) = some us ∧ All2 (RD w Pr) r us.toList
  | _, _, z, r, vs, .nil, hz, h => by simp [fillD] at h; subst h; exact ⟨vs, rfl, hz⟩
  | (i, x) :: parts, (off, sz, y) :: ps, z, r, vs, .cons h0 ht, hz, h => by
    simp only [fillD, Option.bind_eq_some_iff] at h
    obtain ⟨cs, h1, h2⟩ := h
    split at h2
    · rename_i hl
      obtain ⟨z', h3, h4⟩ := Option.bind_eq_some_iff.1 h2
      have hx := (opd_rep htm h0.2).cellsD h1
      rw [hPr] at hx
      obtain ⟨h5, h6⟩ := hz.over hx h3
      have hlen : (a.eval x).cells.size = sz := by rw [← hl, hx.length]; simp
      have hfold : ∀ (l : List Value) (k : Nat) (m : Array Value), off + k + l.length ≤ m.size → ((l.zipIdx k).foldl (fun cs (p : Value × Nat) => cs.setIfInBounds (off + p.2) p.1) m).toList = m.toList.take (off + k) ++ l ++ m.toList.drop (off + k + l.length) := by
        intro l
        induction l with
        | nil => intro k m _; simp
        | cons u l ih =>
          intro k m hm
          simp only [List.length_cons] at hm
          rw [List.zipIdx_cons, List.foldl_cons, ih (k + 1) _ (by simp; omega)]
          have := list_seg_step m.toList (off + k) u l (by simp; omega)
          simpa [Nat.add_assoc] using this
      have hfill := hfold (a.eval x).cells.toList 0 vs (by simp at h6 ⊢; omega)
      obtain ⟨us, h7, h8⟩ := fill_rep (vs := ((a.eval x).cells.toList.zipIdx 0).foldl (fun cs (p : Value × Nat) => cs.setIfInBounds (off + p.2) p.1) vs) htm hPr ht (by rw [hfill]; simpa using h5) h4
      refine ⟨us, ?_, h8⟩
      simp only [List.map_cons, Instr.fill, h0.1]
      have h9 : off + (a.eval x).cells.size ≤ vs.size := by simpa using h6
      rw [if_neg (by rw [hlen] at h9 ⊢; simp; omega), ← h7]
      congr 1
      rw [← Array.foldl_toList, Array.toList_zipIdx]
    · cases h2

theorem elems_rep {Pr : Nat → Nat → Prop} {st : St} {a : Act} (htm : ∀ i, RA E w (st.tm i) (a.tmps.getD i Go.undef)) (hPr : E.Pr = Pr) {sz : Nat} :
    ∀ {xs : List Operand} {ys : List Opd} {r : List (List DV)}, mapO cOpd xs = some ys → elems st sz ys = some r → r.length = xs.length ∧ (∀ y ∈ r, y.length = sz) ∧ All2 (RD w Pr) r.flatten (xs.flatMap fun x => (a.eval x).cells.toList) ∧ ∀ x ∈ xs, (a.eval x).cells.size = sz
  | [], _, r, h, he => by simp [mapO] at h; subst h; simp [elems] at he; subst he; exact ⟨rfl, by simp, .nil, by simp⟩
  | x :: xs, _, r, h, he => by
    simp only [mapO, Option.bind_eq_some_iff] at h
    obtain ⟨y, h1, ys, h2, h3⟩ := h
    injection h3 with h3
    subst h3
    simp only [elems, Option.bind_eq_some_iff] at he
    obtain ⟨cs, h4, h5⟩ := he
    split at h5
    · rename_i hl
      obtain ⟨q, h6, h7⟩ := Option.bind_eq_some_iff.1 h5
      injection h7 with h7
      subst h7
      obtain ⟨i1, i2, i3, i4⟩ := elems_rep htm hPr h2 h6
      have hx := (opd_rep htm h1).cellsD h4
      rw [hPr] at hx
      refine ⟨by simp [i1], by intro z hz; simp at hz; rcases hz with rfl | hz; exact hl; exact i2 z hz, by simpa using hx.app i3, ?_⟩
      intro z hz
      simp at hz
      rcases hz with rfl | hz
      · rw [← hl, hx.length]; simp
      · exact i4 z hz
    · cases h5

theorem bnd_rep {st : St} {a : Act} (htm : ∀ i, RA E w (st.tm i) (a.tmps.getD i Go.undef)) {y d n : Nat} {x : Option Operand} {q : Option Opd} (hq : cOpdO x = some q) (h : bnd st y d q = some n) :
    (x = none ∧ n = d) ∨ ∃ z k, x = some z ∧ a.eval z = .int k (n : Int) ∧ n ≤ y := by
  cases x with
  | none => simp [cOpdO] at hq; subst hq; simp [bnd] at h; exact .inl ⟨rfl, h.symm⟩
  | some z =>
    simp only [cOpdO, Option.map_eq_some_iff] at hq
    obtain ⟨q', hq1, rfl⟩ := hq
    simp only [bnd, Option.bind_eq_some_iff] at h
    obtain ⟨p, h1, h2⟩ := h
    split at h2
    · rename_i hc
      injection h2 with h2
      subst h2
      refine .inr ⟨z, p.1, rfl, ?_, by omega⟩
      rw [(opd_rep htm hq1).int h1, Int.toNat_of_nonneg hc.1]
    · cases h2
theorem run_bound {v : Value} {k : IntKind} {n y : Nat} {code : BoundsCode} (h : v = .int k (n : Int)) (hn : n ≤ y) : (Instr.sliceBound v y code).run P w = .ok n w := by
  subst h
  simp only [Instr.sliceBound, asIntOf, Sem.run_bind, Sem.run_pure, Result.andThen_ok]
  rw [if_pos (by omega)]
  simp
theorem slice_bounds {st : St} {a : Act} (htm : ∀ i, RA E w (st.tm i) (a.tmps.getD i Go.undef)) {len cap h l : Nat} {lo hi : Option Operand} {qlo qhi : Option Opd} (hc : len ≤ cap) (h1 : cOpdO lo = some qlo) (h2 : cOpdO hi = some qhi) (h3 : bnd st len len qhi = some h) (h4 : bnd st h 0 qlo = some l) (b : Bool) :
    (Instr.sliceBounds b len cap (lo.map a.eval) (hi.map a.eval) none).run P w = .ok (l, h, cap) w ∧ l ≤ h ∧ h ≤ len := by
  have hh : h ≤ len := by rcases bnd_rep htm h2 h3 with ⟨_, rfl⟩ | ⟨_, _, _, _, q⟩; exact Nat.le_refl _; exact q
  have hl : l ≤ h := by rcases bnd_rep htm h1 h4 with ⟨_, rfl⟩ | ⟨_, _, _, _, q⟩; exact Nat.zero_le _; exact q
  refine ⟨?_, hl, hh⟩
  rcases bnd_rep htm h2 h3 with ⟨rfl, rfl⟩ | ⟨z, k, rfl, hz, q⟩ <;> rcases bnd_rep htm h1 h4 with ⟨rfl, rfl⟩ | ⟨z', k', rfl, hz', q'⟩
  · rfl
  · have r2 : ∀ code, (Instr.sliceBound (a.eval z') h code).run P w = .ok l w := fun _ => run_bound hz' q'
    simp [Instr.sliceBounds, r2]
  · have r1 : ∀ code, (Instr.sliceBound (a.eval z) cap code).run P w = .ok h w := fun _ => run_bound hz (by omega)
    simp [Instr.sliceBounds, r1]
  · have r1 : ∀ code, (Instr.sliceBound (a.eval z) cap code).run P w = .ok h w := fun _ => run_bound hz (by omega)
    have r2 : ∀ code, (Instr.sliceBound (a.eval z') h code).run P w = .ok l w := fun _ => run_bound hz' q'
    simp [Instr.sliceBounds, r1, r2]

theorem bytes_rep {Pr : Nat → Nat → Prop} : ∀ {xs : List (List DV)} {s : List UInt8}, bytesD xs = some s → ∃ ns : List Int, xs = ns.map (fun n => [DV.int .u8 n]) ∧ s = ns.map fun n => UInt8.ofNat n.toNat
  | [], s, h => by simp [bytesD] at h; subst h; exact ⟨[], rfl, rfl⟩
  | x :: xs, s, h => by
    unfold bytesD at h
    split at h
    · rename_i heq; cases heq
    · rename_i n l heq
      injection heq with e1 e2
      subst e1
      subst e2
      obtain ⟨r, h1, h2⟩ := Option.bind_eq_some_iff.1 h
      injection h2 with h2
      subst h2
      obtain ⟨ns, rfl, rfl⟩ := bytes_rep (Pr := Pr) h1
      exact ⟨n :: ns, rfl, rfl⟩
    · cases h

theorem flat_single {α β : Type} (f : α → β) (ns : List α) : (ns.map fun n => [f n]).flatten = ns.map f := by induction ns <;> simp_all
theorem cvbs_sound {src dst e : TypeId} (hs : P.underlying src = some (.slice e)) (he : P.underlying e = some (.int .u8)) (hd : P.underlying dst = some .string) {xs : List (List DV)} {s : List UInt8} {v : Value} (hr : RD w E.Pr (.sl xs) v) (h : bytesD xs = some s) :
    (convert src dst v).run P w = .ok (.string ⟨s.toArray⟩) w := by
  obtain ⟨ns, rfl, rfl⟩ := bytes_rep (Pr := E.Pr) h
  cases hr with
  | sl _ A c sz b o hc hsz hA hC =>
    by_cases hn : ns = []
    · subst hn
      cases A with
      | none => exact run_convert_bytes_nil w src e hs he 0 c dst hd
      | some ad =>
        obtain ⟨b', o', sp⟩ := ad
        simp only [List.map_nil, List.length_nil]
        simp [convert, run_underlying hs, run_underlying hd, run_underlying he, Conv.bytesToString, loadCells, loadCellsFrom]
        rfl
    · rw [hA (by simpa using hn)]
      have hf := flat_single (DV.int .u8) ns
      rw [hf] at hC
      have := run_convert_bytes_arg (P := P) w src e hs he b o (ns.map fun n => [DV.int .u8 n]).length c ns (by simp) (fun i hi => by
        have hi' : i < ns.length := by simpa using hi
        obtain ⟨v, h1, h2⟩ := hC.get (j := i) (x := .int .u8 ns[i]) (by simp [hi'])
        cases h2
        rw [h1]
        simp [List.getD, hi']) dst hd
      exact this

theorem mm_sound {mx : Bool} {st : St} {a : Act} (htm : ∀ i, RA E w (st.tm i) (a.tmps.getD i Go.undef)) : ∀ {ys : List Operand} {qs : List Opd} {x r : AV} {v : Value}, mapO cOpd ys = some qs → RA E w x v → mmI mx st x qs = some r →
    ∃ u, ((ys.map a.eval).foldlM (if mx then Builtin.max2 else Builtin.min2) v).run P w = .ok u w ∧ RA E w r u
  | [], _, x, r, v, h, hx, hm => by simp [mapO] at h; subst h; simp [mmI] at hm; subst hm; exact ⟨v, rfl, hx⟩
  | y :: ys, _, x, r, v, h, hx, hm => by
    simp only [mapO, Option.bind_eq_some_iff] at h
    obtain ⟨q, h1, qs, h2, h3⟩ := h
    injection h3 with h3
    subst h3
    simp only [mmI, Option.bind_eq_some_iff] at hm
    obtain ⟨p, hp, p', hp', hm⟩ := hm
    split at hm
    · rename_i hk
      have e1 := hx.int hp
      have e2 := (opd_rep htm h1).int hp'
      obtain ⟨u, h4, h5⟩ := mm_sound htm h2 (v := .int p.1 (if mx then (if p'.2 > p.2 then p'.2 else p.2) else (if p'.2 < p.2 then p'.2 else p.2))) (.d (.int _ _)) hm
      refine ⟨u, ?_, h5⟩
      rw [List.map_cons, List.foldlM_cons, e1, e2, Sem.run_bind]
      rw [← h4]
      cases mx <;> simp [Builtin.max2, Builtin.min2]
    · cases hm


/-- What is shown of an operation that writes nothing. -/
def PureOk (P : Program) (E : Env) (w : World) (o : Oper) (a : Act) (e : Eff) : Prop := ∃ v, Out P o a w v w ∧ RA E w e.v v ∧ e.wo = [] ∧ e.wt = []
theorem run_equalIn_bool (d : Nat) {t : TypeId} (hu : P.underlying t = some .bool) (x y : Bool) (w : World) : (Op.equalIn (d + 1) t (.bool x) (.bool y)).run P w = .ok (x == y) w := by
  simp only [Op.equalIn, Sem.run_bind, run_underlying hu, Result.andThen_ok, Sem.run_pure]
theorem run_equal_bool {t : TypeId} (hu : P.underlying t = some .bool) (x y : Bool) (w : World) : (Op.equal t (.bool x) (.bool y)).run P w = .ok (x == y) w := run_equalIn_bool 9999 hu x y w
theorem run_equalIn_slice (d : Nat) {t e : TypeId} (hu : P.underlying t = some (.slice e)) (x : Option Addr) (n c : Nat) (w : World) : (Op.equalIn (d + 1) t (.slice x n c) (.slice none 0 0)).run P w = .ok x.isNone w := by
  cases x <;> simp [Op.equalIn, Sem.run_bind, run_underlying hu, Result.andThen_ok]
theorem run_equal_slice {t e : TypeId} (hu : P.underlying t = some (.slice e)) (x : Option Addr) (n c : Nat) (w : World) : (Op.equal t (.slice x n c) (.slice none 0 0)).run P w = .ok x.isNone w := run_equalIn_slice 9999 hu x n c w
theorem run_equalIn_ptr (d : Nat) {t e : TypeId} (hu : P.underlying t = some (.pointer e)) (x : Option Addr) (w : World) : (Op.equalIn (d + 1) t (.pointer x) (.pointer none)).run P w = .ok x.isNone w := by
  cases x <;> simp [Op.equalIn, Sem.run_bind, run_underlying hu, Result.andThen_ok]
theorem run_equal_ptr {t e : TypeId} (hu : P.underlying t = some (.pointer e)) (x : Option Addr) (w : World) : (Op.equal t (.pointer x) (.pointer none)).run P w = .ok x.isNone w := run_equalIn_ptr 9999 hu x w

theorem pure_bin1 {o : Oper} {a : Act} {st : St} (htm : ∀ i, RA E w (st.tm i) (a.tmps.getD i Go.undef)) {e : Eff} {i : Nat} {bop : BinOp} {t yt : TypeId} {x y : Operand} {x' y' : Opd}
    (hop : o.op = .binOp bop t x y yt) (h1 : cOpd x = some x') (h3 : cOpd y = some y') (he : aop i st (.bin bop x' y') = some e) : PureOk P E w o a e := by
  have hx := opd_rep htm h1
  have hy := opd_rep htm h3
  simp only [aop] at he
  split at he
  · rename_i p q heq1 heq2
    obtain ⟨r, h4, h5⟩ := Option.bind_eq_some_iff.1 he
    injection h5 with h5
    subst h5
    rw [heq1] at hx
    rw [heq2] at hy
    generalize hv1 : a.eval x = v1 at hx
    generalize hv2 : a.eval y = v2 at hy
    cases hx with
    | d hx =>
    cases hy with
    | d hy =>
      obtain ⟨z, h6, h7⟩ := bin_rep (P := P) (t := t) hx hy h4
      refine ⟨z, out_bin hop (by rw [hv1]; intro h; subst h; cases hx) (by rw [hv1]; intro p' q' h; subst h; cases hx) (by rw [hv1, hv2]; exact h6), .d h7, rfl, rfl⟩
  · cases he
theorem pure_eqb {o : Oper} {a : Act} {st : St} (htm : ∀ i, RA E w (st.tm i) (a.tmps.getD i Go.undef)) {e : Eff} {i : Nat} {bop : BinOp} {t yt : TypeId} {x y : Operand} {x' y' : Opd}
    (hop : o.op = .binOp bop t x y yt) (hu : P.underlying t = some .bool) (h1 : cOpd x = some x') (h3 : cOpd y = some y') (neg : Bool) (h6 : (neg = false ∧ bop = .eql) ∨ (neg = true ∧ bop = .neq)) (he : aop i st (.eqb neg x' y') = some e) : PureOk P E w o a e := by
  have hx := opd_rep htm h1
  have hy := opd_rep htm h3
  simp only [aop] at he
  split at he
  · rename_i p q heq1 heq2
    injection he with he
    subst he
    rw [heq1] at hx
    rw [heq2] at hy
    generalize hv1 : a.eval x = v1 at hx
    generalize hv2 : a.eval y = v2 at hy
    cases hx with
    | d hx =>
    cases hy with
    | d hy =>
      cases hx
      cases hy
      refine ⟨.bool (if neg then !(p == q) else p == q), out_bin hop (by rw [hv1]; simp) (by rw [hv1]; simp) ?_, .d (.bool _), rfl, rfl⟩
      rw [hv1, hv2]
      rcases h6 with ⟨rfl, rfl⟩ | ⟨rfl, rfl⟩ <;> simp only [binOp, Sem.run_bind, run_equal_bool hu, Result.andThen_ok] <;> rfl
  · cases he
theorem pure_eqs {eqT : TypeId → Bool} (hEq : EqT P eqT) {o : Oper} {a : Act} {st : St} (htm : ∀ i, RA E w (st.tm i) (a.tmps.getD i Go.undef)) {e : Eff} {i : Nat} {bop : BinOp} {t yt : TypeId} {x y : Operand} {x' y' : Opd}
    (hop : o.op = .binOp bop t x y yt) (heqT : eqT t = true) {n : Nat} (hn : tsize P t = some n) (h1 : cOpd x = some x') (h3 : cOpd y = some y') (neg : Bool) (h6 : (neg = false ∧ bop = .eql) ∨ (neg = true ∧ bop = .neq)) (he : aop i st (.eqs n neg x' y') = some e) : PureOk P E w o a e := by
  have hx := opd_rep htm h1
  have hy := opd_rep htm h3
  simp only [aop] at he
  split at he
  · rename_i p q heq1 heq2
    split at he
    · cases he
    rename_i hlen
    obtain ⟨r, h7, h8⟩ := Option.bind_eq_some_iff.1 he
    injection h8 with h8
    subst h8
    rw [heq1] at hx
    rw [heq2] at hy
    generalize hv1 : a.eval x = v1 at hx
    generalize hv2 : a.eval y = v2 at hy
    cases hx with
    | agg hx =>
    cases hy with
    | agg hy =>
      obtain ⟨h9, h10⟩ := hEq t n heqT hn w E.Pr p q _ _ r (by simpa using hlen) h7 hx hy
      refine ⟨.bool (if neg then !r else r), out_bin hop (by rw [hv1]; simp) (fun _ _ _ _ => h10) ?_, .d (.bool _), rfl, rfl⟩
      rw [hv1, hv2]
      rcases h6 with ⟨rfl, rfl⟩ | ⟨rfl, rfl⟩ <;> simp only [binOp, Sem.run_bind, h9, Result.andThen_ok] <;> rfl
  · cases he
theorem isNilS_eval {a : Act} {y : Operand} (h : isNilS y = true) : a.eval y = .slice none 0 0 := by
  unfold isNilS at h
  split at h
  · rfl
  · cases h
theorem isNilP_eval {a : Act} {y : Operand} (h : isNilP y = true) : a.eval y = .pointer none := by
  unfold isNilP at h
  split at h
  · rfl
  · cases h
theorem RD.sl_some {Pr : Nat → Nat → Prop} {xs : List (List DV)} {v : Value} (h : RD w Pr (.sl xs) v) (hx : xs ≠ []) : ∃ b o c, v = .slice (some ⟨b, o, none⟩) xs.length c := by
  cases h with
  | sl _ A c sz b o hc hsz hA hC => exact ⟨b, o, c, by rw [hA hx]⟩
theorem pure_eqn {o : Oper} {a : Act} {st : St} (htm : ∀ i, RA E w (st.tm i) (a.tmps.getD i Go.undef)) {e : Eff} {i : Nat} {bop : BinOp} {t yt el : TypeId} {x y : Operand} {x' : Opd}
    (hop : o.op = .binOp bop t x y yt) (hu : P.underlying t = some (.slice el)) (h1 : cOpd x = some x') (h3 : isNilS y = true) (neg : Bool) (h6 : (neg = false ∧ bop = .eql) ∨ (neg = true ∧ bop = .neq)) (he : aop i st (.eqn neg x') = some e) : PureOk P E w o a e := by
  have hx := opd_rep htm h1
  have hy := isNilS_eval (a := a) h3
  have fin : ∀ (A : Option Addr) (n c : Nat), a.eval x = .slice A n c → e = ⟨.d (.bool (if neg then !A.isNone else A.isNone)), [], []⟩ → PureOk P E w o a e := by
    intro A n c hv he'
    subst he'
    refine ⟨.bool (if neg then !A.isNone else A.isNone), out_bin hop (by rw [hv]; simp) (by rw [hv]; simp) ?_, .d (.bool _), rfl, rfl⟩
    rw [hv, hy]
    rcases h6 with ⟨rfl, rfl⟩ | ⟨rfl, rfl⟩ <;> simp only [binOp, Sem.run_bind, run_equal_slice hu, Result.andThen_ok] <;> rfl
  simp only [aop] at he
  split at he
  · rename_i heq
    injection he with he
    rw [heq] at hx
    generalize hv : a.eval x = v at hx
    cases hx
    exact fin none 0 0 hv (by rw [← he]; cases neg <;> rfl)
  · rename_i xs heq
    split at he
    · cases he
    · rename_i hne
      injection he with he
      rw [heq] at hx
      generalize hv : a.eval x = v at hx
      cases hx with
      | d hx =>
        obtain ⟨b, o', c, rfl⟩ := hx.sl_some hne
        exact fin _ _ _ hv (by rw [← he]; cases neg <;> rfl)
  · rename_i t' e' xs heq
    split at he
    · cases he
    · rename_i hne
      injection he with he
      rw [heq] at hx
      generalize hv : a.eval x = v at hx
      cases hx with
      | row hu' hx =>
        obtain ⟨b, o', c, hq⟩ := hx.sl_some hne
        rw [hq] at hv
        exact fin _ _ _ hv (by rw [← he]; cases neg <;> rfl)
  · rename_i heq
    injection he with he
    rw [heq] at hx
    generalize hv : a.eval x = v at hx
    cases hx with
    | osl _ _ => exact fin _ _ _ hv (by rw [← he]; cases neg <;> rfl)
  · cases he
theorem pure_eqp {o : Oper} {a : Act} {st : St} (htm : ∀ i, RA E w (st.tm i) (a.tmps.getD i Go.undef)) {e : Eff} {i : Nat} {bop : BinOp} {t yt el : TypeId} {x y : Operand} {x' : Opd}
    (hop : o.op = .binOp bop t x y yt) (hu : P.underlying t = some (.pointer el)) (h1 : cOpd x = some x') (h3 : isNilP y = true) (neg : Bool) (h6 : (neg = false ∧ bop = .eql) ∨ (neg = true ∧ bop = .neq)) (he : aop i st (.eqp neg x') = some e) : PureOk P E w o a e := by
  have hx := opd_rep htm h1
  have hy := isNilP_eval (a := a) h3
  have fin : ∀ (A : Option Addr), a.eval x = .pointer A → e = ⟨.d (.bool (if neg then !A.isNone else A.isNone)), [], []⟩ → PureOk P E w o a e := by
    intro A hv he'
    subst he'
    refine ⟨.bool (if neg then !A.isNone else A.isNone), out_bin hop (by rw [hv]; simp) (by rw [hv]; simp) ?_, .d (.bool _), rfl, rfl⟩
    rw [hv, hy]
    rcases h6 with ⟨rfl, rfl⟩ | ⟨rfl, rfl⟩ <;> simp only [binOp, Sem.run_bind, run_equal_ptr hu, Result.andThen_ok] <;> rfl
  simp only [aop] at he
  split at he
  · rename_i id off heq
    injection he with he
    rw [heq] at hx
    generalize hv : a.eval x = v at hx
    cases hx
    exact fin _ hv (by rw [← he]; cases neg <;> rfl)
  · rename_i heq
    injection he with he
    rw [heq] at hx
    generalize hv : a.eval x = v at hx
    cases hx
    exact fin none hv (by rw [← he]; cases neg <;> rfl)
  · cases he

theorem run_tzero {t : TypeId} {z : List DV} (h : tzeroD P t = some z) (Pr : Nat → Nat → Prop) (w : World) : ∃ v, (zeroValue t).run P w = .ok v w ∧ All2 (RD w Pr) z v.cells.toList := by
  unfold tzeroD at h
  obtain ⟨i, h1, h2⟩ := Option.bind_eq_some_iff.1 h
  obtain ⟨v, h3, h4⟩ := Option.bind_eq_some_iff.1 h2
  refine ⟨v, by simp [zeroValue, typeInfo, h1, h3], ?_⟩
  have := mapO_rep (f := constD) (R := RD w Pr) (g := fun v => v) (fun x y h => constD_rep h) h4
  simpa using this
theorem run_places (fs : Array Field) (g : Nat → Nat) (hg : ∀ f ∈ fs, (sizeOf f.type).run P w = .ok (g f.type) w) : (fs.mapM fun f => do pure (f.offset, ← sizeOf f.type) : Sem (Array (Nat × Nat))).run P w = .ok (fs.map fun f => (f.offset, g f.type)) w := by
  rw [Array.mapM_eq_mapM_toList, Sem.run_map]
  have : ∀ l : List Field, (∀ f ∈ l, (sizeOf f.type).run P w = .ok (g f.type) w) → (l.mapM fun f => do pure (f.offset, ← sizeOf f.type) : Sem (List (Nat × Nat))).run P w = .ok (l.map fun f => (f.offset, g f.type)) w := by
    intro l
    induction l with
    | nil => intro _; rfl
    | cons f l ih =>
      intro h
      simp only [List.mapM_cons, Sem.run_bind, h f (by simp), Result.andThen_ok, Sem.run_pure, ih (fun f hf => h f (by simp [hf])), List.map_cons]
  rw [this fs.toList (fun f hf => hg f (by simpa using hf)), Result.andThen_ok]
  congr 1
  apply Array.ext'
  simp
theorem pure_build {o : Oper} {a : Act} {st : St} (htm : ∀ i, RA E w (st.tm i) (a.tmps.getD i Go.undef)) {e : Eff} {i : Nat} {t : TypeId} {parts : Array (Nat × Operand)} {fs : Array Field} {z : List DV} {ps : List (Nat × Nat × Opd)}
    (hop : o.op = .build t parts) (hu : P.underlying t = some (.struct fs)) (hfs : fs.all (fun f => (tsize P f.type).isSome) = true) (h1 : tzeroD P t = some z)
    (h3 : mapO (fun p : Nat × Operand => (fs[p.1]?).bind fun f => (tsize P f.type).bind fun s => (cOpd p.2).map fun x => (f.offset, s, x)) parts.toList = some ps) (he : aop i st (.build z ps) = some e) : PureOk P E w o a e := by
  simp only [aop, Option.bind_eq_some_iff] at he
  obtain ⟨cs, h4, h5⟩ := he
  injection h5 with h5
  subst h5
  obtain ⟨zv, hz1, hz2⟩ := run_tzero h1 E.Pr w
  have hpl := run_places (P := P) (w := w) fs (fun t => (tsize P t).getD 0) (fun f hf => by
    have := Array.all_eq_true_iff_forall_mem.1 hfs f hf
    obtain ⟨n, hn⟩ := Option.isSome_iff_exists.1 this
    rw [hn]
    exact run_tsize hn w)
  have hall : All2 (fun (p : Nat × Operand) (q : Nat × Nat × Opd) => (fs.map fun f => (f.offset, (tsize P f.type).getD 0))[p.1]? = some (q.1, q.2.1) ∧ cOpd p.2 = some q.2.2) parts.toList ps := by
    have : ∀ {l : List (Nat × Operand)} {ps : List (Nat × Nat × Opd)}, mapO (fun p : Nat × Operand => (fs[p.1]?).bind fun f => (tsize P f.type).bind fun s => (cOpd p.2).map fun x => (f.offset, s, x)) l = some ps →
        All2 (fun (p : Nat × Operand) (q : Nat × Nat × Opd) => (fs.map fun f => (f.offset, (tsize P f.type).getD 0))[p.1]? = some (q.1, q.2.1) ∧ cOpd p.2 = some q.2.2) l ps := by
      intro l
      induction l with
      | nil => intro ps h; simp [mapO] at h; subst h; exact .nil
      | cons p l ih =>
        intro ps h
        simp only [mapO, Option.bind_eq_some_iff] at h
        obtain ⟨q, ⟨f, hf, s, hs, hq⟩, r, hr, he⟩ := h
        injection he with he
        subst he
        obtain ⟨x, hx, rfl⟩ := Option.map_eq_some_iff.1 hq
        exact .cons ⟨by simp [hf, hs], hx⟩ (ih hr)
    exact this h3
  obtain ⟨us, h6, h7⟩ := fill_rep htm rfl hall hz2 h4
  refine ⟨.agg us, .inl ?_, .agg h7, rfl, rfl⟩
  have hparts : (parts.map fun (p : Nat × Operand) => (p.1, a.eval p.2)).toList = parts.toList.map fun p => (p.1, a.eval p.2) := by simp
  simp only [execOp, hop, Instr.build, Sem.run_bind, hz1, Result.andThen_ok, run_underlying hu, hpl]
  have h6' : Instr.fill (fun x => (fs.map fun f => (f.offset, (tsize P f.type).getD 0))[x]?) zv.cells (parts.map fun (p : Nat × Operand) => (p.1, a.eval p.2)).toList = some us := by rw [hparts]; exact h6
  simp only [h6', Sem.run_pure, Result.andThen_ok]

theorem pure_ss {o : Oper} {a : Act} {st : St} (htm : ∀ i, RA E w (st.tm i) (a.tmps.getD i Go.undef)) {e : Eff} {i : Nat} {t : TypeId} {x : Operand} {lo hi : Option Operand} {x' : Opd} {lo' hi' : Option Opd}
    (hop : o.op = .slice t x lo hi none) (hu : P.underlying t = some .string) (h1 : cOpd x = some x') (h2 : cOpdO lo = some lo') (h3 : cOpdO hi = some hi') (he : aop i st (.ss x' lo' hi') = some e) : PureOk P E w o a e := by
  have hx := opd_rep htm h1
  simp only [aop] at he
  split at he
  · rename_i s heq
    obtain ⟨h, h4, h5⟩ := Option.bind_eq_some_iff.1 he
    obtain ⟨l, h6, h7⟩ := Option.bind_eq_some_iff.1 h5
    injection h7 with h7
    subst h7
    rw [heq] at hx
    generalize hv : a.eval x = v at hx
    cases hx with
    | d hx =>
      cases hx
      obtain ⟨h8, h9, h10⟩ := slice_bounds (P := P) htm (Nat.le_refl _) h2 h3 h4 h6 false
      refine ⟨.string ⟨((s.take h).drop l).toArray⟩, .inl ?_, .d (.str _), rfl, rfl⟩
      have hext : (⟨s.toArray⟩ : ByteArray).extract l h = ⟨((s.take h).drop l).toArray⟩ := by
        apply ByteArray.ext
        simp [List.extract_eq_take_drop, List.drop_take]
      simp only [execOp, hop, hv, Option.map_none, Instr.sliceAt, Instr.slice, Sem.run_bind, run_underlying hu, Result.andThen_ok, Option.isSome_none, Bool.false_eq_true, if_false, string_size, h8, Sem.run_pure, hext]
  · cases he
theorem pure_sls {o : Oper} {a : Act} {st : St} (htm : ∀ i, RA E w (st.tm i) (a.tmps.getD i Go.undef)) {e : Eff} {i : Nat} {t el : TypeId} {x : Operand} {lo hi : Option Operand} {x' : Opd} {lo' hi' : Option Opd} {sz : Nat}
    (hop : o.op = .slice t x lo hi none) (hu : P.underlying t = some (.slice el)) (hs : tsize P el = some sz) (h1 : cOpd x = some x') (h2 : cOpdO lo = some lo') (h3 : cOpdO hi = some hi') (he : aop i st (.sls sz x' lo' hi') = some e) : PureOk P E w o a e := by
  have hx := opd_rep htm h1
  simp only [aop, Option.bind_eq_some_iff] at he
  obtain ⟨xs, hxs, he⟩ := he
  split at he
  · cases he
  · rename_i hall
    obtain ⟨h, h4, h5⟩ := Option.bind_eq_some_iff.1 he
    obtain ⟨l, h6, h7⟩ := Option.bind_eq_some_iff.1 h5
    injection h7 with h7
    subst h7
    have hr := hx.rows hxs
    generalize hv : a.eval x = v at hr
    cases hr with
    | sl _ A c sz' b o' hc hsz hA hC =>
      obtain ⟨h8, h9, h10⟩ := slice_bounds (P := P) htm hc h2 h3 h4 h6 true
      have hall' : ∀ y ∈ xs, y.length = sz := by
        intro y hy
        have h0 : xs.all (fun y => y.length == sz) = true := by simpa using hall
        simpa using List.all_eq_true.1 h0 y hy
      refine ⟨.slice (if c = l then A else A.map (·.add (l * sz))) (h - l) (c - l), .inl ?_, .d ?_, rfl, rfl⟩
      · simp only [execOp, hop, hv, Option.map_none, Instr.sliceAt, Instr.slice, Sem.run_bind, run_underlying hu, Result.andThen_ok, h8, run_tsize hs, Sem.run_pure]
      · have hlen : ((xs.take h).drop l).length = h - l := by simp; omega
        have hfl : ((xs.take h).drop l).flatten = ((xs.flatten.take (h * sz)).drop (l * sz)) := by
          rw [flat_drop (sz := sz) l (fun y hy => hall' y (List.mem_of_mem_take hy)), flat_take (sz := sz) h hall']
        rw [← hlen]
        refine .sl _ _ _ sz b (o' + l * sz) (by rw [hlen]; omega) (fun y hy => hall' y (List.mem_of_mem_take (List.mem_of_mem_drop hy))) (fun hne => ?_) ?_
        · have hne' : xs ≠ [] := by rintro rfl; simp at hne
          have : l < h := by
            rcases Nat.lt_or_ge l h with q | q
            · exact q
            · exact absurd (List.eq_nil_of_length_eq_zero (by rw [hlen]; omega)) hne
          rw [if_neg (by omega), hA hne']
          simp [add_lit]
        · rw [hfl]
          refine (hC.take (h * sz)).drop (l * sz) ?_
          rw [List.length_take, flat_len (sz := sz) hall']
          have e1 : l * sz ≤ h * sz := Nat.mul_le_mul_right _ h9
          have e2 : h * sz ≤ xs.length * sz := Nat.mul_le_mul_right _ h10
          omega
theorem run_fieldPlace {f : Field} {n : Nat} (hs : tsize P f.type = some n) (hn : n ≠ 0) (ad : Addr) (w : World) : (fieldPlace ad f).run P w = .ok (ad.add f.offset) w := by
  simp only [fieldPlace, Sem.run_bind, run_tsize hs, Result.andThen_ok]
  rw [if_neg hn]
  rfl
theorem pure_fad {o : Oper} {a : Act} {st : St} (htm : ∀ i, RA E w (st.tm i) (a.tmps.getD i Go.undef)) {e : Eff} {i : Nat} {s : TypeId} {x : Operand} {x' : Opd} {j : Nat} {fs : Array Field} {f : Field} {n : Nat}
    (hop : o.op = .fieldAddr s x j) (hu : P.underlying s = some (.struct fs)) (hf : fs[j]? = some f) (hs : tsize P f.type = some n) (hn : n ≠ 0) (h1 : cOpd x = some x') (he : aop i st (.fad x' f.offset) = some e) : PureOk P E w o a e := by
  have hx := opd_rep htm h1
  simp only [aop] at he
  split at he
  · rename_i id off heq
    injection he with he
    subst he
    rw [heq] at hx
    generalize hv : a.eval x = v at hx
    cases hx with
    | ptr hx =>
      refine ⟨_, .inl ?_, .ptr hx, rfl, rfl⟩
      simp only [execOp, hop, hv, Instr.fieldAt, Instr.sureAddr, Sem.run_bind, run_underlying hu, Result.andThen_ok, hf, Sem.run_pure, run_fieldPlace hs hn, add_lit]
  · rename_i cs off heq
    injection he with he
    subst he
    rw [heq] at hx
    generalize hv : a.eval x = v at hx
    cases hx with
    | elp hx =>
      refine ⟨_, .inl ?_, .elp hx, rfl, rfl⟩
      simp only [execOp, hop, hv, Instr.fieldAt, Instr.sureAddr, Sem.run_bind, run_underlying hu, Result.andThen_ok, hf, Sem.run_pure, run_fieldPlace hs hn, add_lit, Nat.add_assoc]
  · cases he
theorem pure_fld {o : Oper} {a : Act} {st : St} (htm : ∀ i, RA E w (st.tm i) (a.tmps.getD i Go.undef)) {e : Eff} {i : Nat} {s : TypeId} {x : Operand} {x' : Opd} {j : Nat} {fs : Array Field} {f : Field} {n : Option Nat}
    (hop : o.op = .field s x j) (hu : P.underlying s = some (.struct fs)) (hf : fs[j]? = some f) (hs : tload P f.type = some n) (h1 : cOpd x = some x') (he : aop i st (.fld n f.offset x') = some e) : PureOk P E w o a e := by
  have hx := opd_rep htm h1
  simp only [aop] at he
  split at he
  · rename_i cs heq
    rw [heq] at hx
    generalize hv : a.eval x = v at hx
    cases hx with
    | @agg _ arr hx =>
      cases n with
      | none =>
        obtain ⟨y, h2, h3⟩ := Option.bind_eq_some_iff.1 he
        injection h3 with h3
        subst h3
        obtain ⟨u, h4, h5⟩ := hx.get h2
        have h4' : arr[f.offset]? = some u := by simpa using h4
        refine ⟨u, .inl ?_, .d h5, rfl, rfl⟩
        simp only [execOp, hop, hv, Instr.field, Sem.run_bind, run_underlying hu, Result.andThen_ok, hf, asAgg, Sem.run_pure, tload_part hs h4']
      | some n =>
        obtain ⟨l, h2, h3⟩ := Option.bind_eq_some_iff.1 he
        injection h3 with h3
        subst h3
        obtain ⟨h4, h5, h6⟩ := (hx.drop f.offset).takeN h2
        refine ⟨.agg (arr.extract f.offset (f.offset + n)), .inl ?_, .agg ?_, rfl, rfl⟩
        · simp only [execOp, hop, hv, Instr.field, Sem.run_bind, run_underlying hu, Result.andThen_ok, hf, asAgg, Sem.run_pure, tload_parts hs]
        · have : (arr.extract f.offset (f.offset + n)).toList = (arr.toList.drop f.offset).take n := by
            rw [Array.toList_extract, List.extract_eq_take_drop]
            congr 1
            omega
          rw [this]
          exact h4
  · cases he
theorem pure_iad {o : Oper} {a : Act} {st : St} (htm : ∀ i, RA E w (st.tm i) (a.tmps.getD i Go.undef)) {e : Eff} {i : Nat} {t el : TypeId} {x y : Operand} {x' y' : Opd} {sz : Nat}
    (hop : o.op = .indexAddr t x y) (hu : P.underlying t = some (.slice el)) (hs : tsize P el = some sz) (h1 : cOpd x = some x') (h2 : cOpd y = some y') (he : aop i st (.iad sz x' y') = some e) : PureOk P E w o a e := by
  have hx := opd_rep htm h1
  simp only [aop] at he
  split at he
  · rename_i id s n heq
    obtain ⟨p, h4, he⟩ := Option.bind_eq_some_iff.1 he
    split at he
    · rename_i hcond
      obtain ⟨c1, c2, rfl⟩ := hcond
      injection he with he
      subst he
      have hy := (opd_rep htm h2).int h4
      rw [heq] at hx
      generalize hv : a.eval x = v at hx
      cases hx with
      | osl hV hc =>
        refine ⟨.pointer (some ⟨E.ρ id, p.2.toNat * s, none⟩), .inl ?_, .ptr hV, rfl, rfl⟩
        simp only [execOp, hop, hv, hy, Instr.indexAt, asIntOf, Sem.run_bind, run_underlying hu, Result.andThen_ok, Sem.run_pure, run_tsize hs, add_lit, Nat.zero_add]
        rw [Sem.run_ite, if_pos ⟨c1, c2⟩]
        simp only [Sem.run_bind, run_tsize hs, Result.andThen_ok, Sem.run_pure, add_lit, Nat.zero_add]
    · cases he
  obtain ⟨xs, h3, he⟩ := Option.bind_eq_some_iff.1 he
  obtain ⟨p, h4, he⟩ := Option.bind_eq_some_iff.1 he
  split at he
  · rename_i h0
    obtain ⟨cs, h5, h6⟩ := Option.bind_eq_some_iff.1 he
    split at h6
    · rename_i hl
      injection h6 with h6
      subst h6
      have hy := (opd_rep htm h2).int h4
      have hr := hx.rows h3
      generalize hv : a.eval x = v at hr
      cases hr with
      | sl _ A c sz' b o' hc hsz hA hC =>
        have hmem : cs ∈ xs := List.mem_of_getElem? h5
        have hsz' : sz' = sz := by rw [← hsz cs hmem, hl]
        subst hsz'
        have hlt : p.2.toNat < xs.length := (List.getElem?_eq_some_iff.1 h5).1
        have hne : xs ≠ [] := by rintro rfl; simp at hlt
        refine ⟨.pointer (some ⟨b, (o' + p.2.toNat * sz') + 0, none⟩), .inl ?_, .elp ?_, rfl, rfl⟩
        · rw [hA hne] at hv
          have hcond : 0 ≤ p.2 ∧ p.2 < (xs.length : Int) := by omega
          simp only [execOp, hop, hv, hy, Instr.indexAt, asIntOf, Sem.run_bind, run_underlying hu, Result.andThen_ok, Sem.run_pure, run_tsize hs, add_lit, Nat.add_zero]
          rw [Sem.run_ite, if_pos hcond]
          simp only [Sem.run_bind, run_tsize hs, Result.andThen_ok, Sem.run_pure, add_lit]
        · have hd := hC.drop (p.2.toNat * sz') (by rw [flat_len hsz]; exact Nat.mul_le_mul_right _ (by omega))
          rw [← flat_drop p.2.toNat hsz, List.drop_eq_getElem_cons hlt, List.flatten_cons] at hd
          have : xs[p.2.toNat] = cs := (List.getElem?_eq_some_iff.1 h5).2
          rw [this] at hd
          exact hd.split.1
    · cases h6
  · cases he
theorem pure_ixs {o : Oper} {a : Act} {st : St} (htm : ∀ i, RA E w (st.tm i) (a.tmps.getD i Go.undef)) {e : Eff} {i : Nat} {t : TypeId} {x y : Operand} {x' y' : Opd}
    (hop : o.op = .index t x y) (hu : P.underlying t = some .string) (h1 : cOpd x = some x') (h2 : cOpd y = some y') (he : aop i st (.ixs x' y') = some e) : PureOk P E w o a e := by
  have hx := opd_rep htm h1
  simp only [aop] at he
  split at he
  · rename_i s heq
    obtain ⟨p, h3, h4⟩ := Option.bind_eq_some_iff.1 he
    split at h4
    · rename_i h0
      obtain ⟨c, h5, h6⟩ := Option.bind_eq_some_iff.1 h4
      injection h6 with h6
      subst h6
      have hy := (opd_rep htm h2).int h3
      rw [heq] at hx
      generalize hv : a.eval x = v at hx
      cases hx with
      | d hx =>
        cases hx
        refine ⟨_, .inl ?_, .d (.int _ _), rfl, rfl⟩
        have hg : (⟨s.toArray⟩ : ByteArray)[p.2.toNat]? = some c := by
          have hlt := (List.getElem?_eq_some_iff.1 h5).1
          rw [getElem?_pos (⟨s.toArray⟩ : ByteArray) p.2.toNat (by simpa [ByteArray.size] using hlt)]
          have := (List.getElem?_eq_some_iff.1 h5).2
          rw [← this]
          rfl
        simp only [execOp, hop, hv, hy, Instr.index, asIntOf, Sem.run_bind, run_underlying hu, Result.andThen_ok, Sem.run_pure, if_pos h0, hg]
    · cases h4
  · cases he
theorem pure_len {o : Oper} {a : Act} {st : St} (htm : ∀ i, RA E w (st.tm i) (a.tmps.getD i Go.undef)) {e : Eff} {i : Nat} {t : TypeId} {x : Operand} {x' : Opd} {b : Bool} {c : Call}
    (hop : o.op = .call c) (hb : c.callee = .builtin .len) (hargs : c.args = #[x]) (hts : c.argTypes = #[t]) (hu : if b then P.underlying t = some .string else ∃ el, P.underlying t = some (.slice el)) (h1 : cOpd x = some x') (he : aop i st (.lenq b x') = some e) : PureOk P E w o a e := by
  have hx := opd_rep htm h1
  simp only [aop] at he
  cases b with
  | true =>
    simp only [if_true] at he hu
    split at he
    · rename_i s heq
      injection he with he
      subst he
      rw [heq] at hx
      generalize hv : a.eval x = v at hx
      cases hx with
      | d hx =>
        cases hx
        refine ⟨_, .inl ?_, .d (.int _ _), rfl, rfl⟩
        simp [execOp, hop, resolve, hb, hargs, hts, invoke, builtin, Builtin.len_, run_underlying hu, hv, goInt, string_size]
    · cases he
  | false =>
    simp only [Bool.false_eq_true, if_false] at he hu
    obtain ⟨el, hu⟩ := hu
    split at he
    · rename_i id s n heq
      injection he with he
      subst he
      rw [heq] at hx
      generalize hv : a.eval x = v at hx
      cases hx with
      | osl hV hc =>
        refine ⟨_, .inl ?_, .d (.int _ _), rfl, rfl⟩
        simp [execOp, hop, resolve, hb, hargs, hts, invoke, builtin, Builtin.len_, run_underlying hu, hv, goInt]
    obtain ⟨xs, h2, h3⟩ := Option.bind_eq_some_iff.1 he
    injection h3 with h3
    subst h3
    have hr := hx.rows h2
    generalize hv : a.eval x = v at hr
    cases hr with
    | sl _ A c' sz' b o' hc hsz hA hC =>
      refine ⟨_, .inl ?_, .d (.int _ _), rfl, rfl⟩
      simp [execOp, hop, resolve, hb, hargs, hts, invoke, builtin, Builtin.len_, run_underlying hu, hv, goInt]
theorem pure_mm {o : Oper} {a : Act} {st : St} (htm : ∀ i, RA E w (st.tm i) (a.tmps.getD i Go.undef)) {e : Eff} {i : Nat} {x : Operand} {ys : List Operand} {x' : Opd} {ys' : List Opd} {mx : Bool} {c : Call}
    (hop : o.op = .call c) (hb : c.callee = .builtin (if mx then .max else .min)) (hargs : c.args.toList = x :: ys) (h1 : cOpd x = some x') (h2 : mapO cOpd ys = some ys') (he : aop i st (.mm mx x' ys') = some e) : PureOk P E w o a e := by
  simp only [aop, Option.bind_eq_some_iff] at he
  obtain ⟨v, h3, h4⟩ := he
  injection h4 with h4
  subst h4
  obtain ⟨u, h5, h6⟩ := mm_sound (P := P) htm h2 (opd_rep htm h1) h3
  refine ⟨u, .inl ?_, h6, rfl, rfl⟩
  have hm : (c.args.map a.eval).toList = a.eval x :: ys.map a.eval := by simp [hargs]
  cases mx <;> simp only [Bool.false_eq_true, if_false, if_true] at hb h5 <;> simp [execOp, hop, resolve, hb, invoke, builtin, Builtin.max_, Builtin.min_, hargs, h5]
theorem pure_fnv {o : Oper} {a : Act} {st : St} (htm : ∀ i, RA E w (st.tm i) (a.tmps.getD i Go.undef)) {e : Eff} {i : Nat} {f : FuncId} {first caps : Array Operand} {cs : List Opd}
    (hop : o.op = .makeFunc (.func f) first caps) (h0 : first.size = 0) (h1 : mapO cOpd caps.toList = some cs) (he : aop i st (.fnv f cs) = some e) : PureOk P E w o a e := by
  have hfirst : first.map a.eval = #[] := by rw [Array.size_eq_zero_iff.1 h0]; simp
  simp only [aop, Option.bind_eq_some_iff] at he
  obtain ⟨ids, h2, h3⟩ := he
  injection h3 with h3
  subst h3
  have key : ∀ {l : List Operand} {cs : List Opd} {ids : List Nat}, mapO cOpd l = some cs → idsOf st cs = some ids → l.map a.eval = ids.map (fun i => Value.pointer (some ⟨E.ρ i, 0, none⟩)) ∧ ∀ i ∈ ids, E.V i := by
    intro l
    induction l with
    | nil => intro cs ids h h'; simp [mapO] at h; subst h; simp [idsOf] at h'; subst h'; exact ⟨rfl, by simp⟩
    | cons x l ih =>
      intro cs ids h h'
      simp only [mapO, Option.bind_eq_some_iff] at h
      obtain ⟨y, h4, r, h5, h6⟩ := h
      injection h6 with h6
      subst h6
      simp only [idsOf, Option.bind_eq_some_iff] at h'
      obtain ⟨id, h7, r', h8, h9⟩ := h'
      injection h9 with h9
      subst h9
      obtain ⟨i1, i2⟩ := ih h5 h8
      have hx := opd_rep htm h4
      split at h7
      · rename_i id' off heq
        split at h7
        · rename_i h0
          injection h7 with h7
          subst h7
          subst h0
          rw [heq] at hx
          generalize hv : a.eval x = v at hx
          cases hx with
          | ptr hx => exact ⟨by simp [hv, i1], by intro j hj; simp at hj; rcases hj with rfl | hj; exact hx; exact i2 j hj⟩
        · cases h7
      · cases h7
  obtain ⟨k1, k2⟩ := key h1 h2
  refine ⟨.func (.func f) #[] (ids.map fun i => Value.pointer (some ⟨E.ρ i, 0, none⟩)).toArray, .inl ?_, .fn k2, rfl, rfl⟩
  have hcaps : caps.map a.eval = (ids.map fun i => Value.pointer (some ⟨E.ρ i, 0, none⟩)).toArray := by rw [← k1]; apply Array.ext'; simp
  simp only [execOp, hop, Instr.makeFunc, hfirst, hcaps, Sem.run_bind, Sem.run_pure, Result.andThen_ok]
theorem aop_pure {eqT : TypeId → Bool} (hEq : EqT P eqT) {o : Oper} {a : Act} {st : St} (htm : ∀ i, RA E w (st.tm i) (a.tmps.getD i Go.undef)) (hob : ObOk E w st.ob) {op : AOp} {e : Eff} {i : Nat}
    (hc : cOp P eqT o.op = some op) (he : aop i st op = some e)
    (hn : (∀ z, op ≠ .new z) ∧ (∀ x, op ≠ .box x) ∧ (∀ t sz ps, op ≠ .mkrow t sz ps) ∧ (∀ n p x, op ≠ .st n p x) ∧ ∀ t sz bs s x, op ≠ .app t sz bs s x) :
    PureOk P E w o a e := by
  obtain ⟨n1, n2, n3, n4, n5⟩ := hn
  cases hop : o.op with
  | move x | assign x =>
    simp only [hop, cOp, Option.map_eq_some_iff] at hc
    obtain ⟨y, h1, rfl⟩ := hc
    simp only [aop] at he
    injection he with he
    subst he
    exact ⟨a.eval x, .inl (by simp only [execOp, hop]; rfl), opd_rep htm h1, rfl, rfl⟩
  | pick c x y =>
    simp only [hop, cOp, Option.bind_eq_some_iff] at hc
    obtain ⟨c', h1, x', h2, y', h3, h4⟩ := hc
    injection h4 with h4
    subst h4
    have hcr := opd_rep htm h1
    simp only [aop] at he
    split at he
    · rename_i t heq
      injection he with he
      subst he
      rw [heq] at hcr
      generalize hv : a.eval c = cv at hcr
      cases hcr with
      | d hcr =>
        cases hcr
        refine ⟨if t then a.eval x else a.eval y, .inl ?_, ?_, rfl, rfl⟩
        · simp only [execOp, hop, hv, asBool, Sem.run_bind, Sem.run_pure, Result.andThen_ok]
        · cases t
          · exact opd_rep htm h3
          · exact opd_rep htm h2
    · cases he
  | alloc t => simp only [hop, cOp, Option.map_eq_some_iff] at hc; obtain ⟨z, _, rfl⟩ := hc; exact absurd rfl (n1 z)
  | box t x => simp only [hop, cOp, Option.map_eq_some_iff] at hc; obtain ⟨z, _, rfl⟩ := hc; exact absurd rfl (n2 z)
  | build t parts =>
    simp only [hop, cOp] at hc
    split at hc
    · rename_i fs hu
      split at hc
      case isFalse => cases hc
      rename_i hfs
      obtain ⟨z, h1, h2⟩ := Option.bind_eq_some_iff.1 hc
      obtain ⟨ps, h3, rfl⟩ := Option.map_eq_some_iff.1 h2
      exact pure_build htm hop hu hfs h1 h3 he
    · cases hc
  | buildSlice t len parts =>
    simp only [hop, cOp] at hc
    split at hc
    · rename_i e' hu
      obtain ⟨i', _, h2⟩ := Option.bind_eq_some_iff.1 hc
      obtain ⟨z, _, h3⟩ := Option.bind_eq_some_iff.1 h2
      split at h3
      · obtain ⟨l, _, h4⟩ := Option.bind_eq_some_iff.1 h3
        obtain ⟨q, _, rfl⟩ := Option.map_eq_some_iff.1 h4
        exact absurd rfl (n3 _ _ _)
      · cases h3
    · cases hc
  | load t p =>
    simp only [hop, cOp, Option.bind_eq_some_iff] at hc
    obtain ⟨n, h1, h2⟩ := hc
    obtain ⟨q, h3, rfl⟩ := Option.map_eq_some_iff.1 h2
    obtain ⟨v, h4, h5⟩ := ld_sound h1 hob (opd_rep htm h3) rfl he
    exact ⟨v, .inl (by simp only [execOp, hop, Sem.run_bind, h4, Result.andThen_ok, Sem.run_pure]), h5⟩
  | store t p x =>
    simp only [hop, cOp, Option.bind_eq_some_iff] at hc
    obtain ⟨n, h1, q, h3, h4⟩ := hc
    obtain ⟨q', h5, rfl⟩ := Option.map_eq_some_iff.1 h4
    exact absurd rfl (n4 _ _ _)
  | nilCheck x =>
    simp only [hop, cOp, Option.map_eq_some_iff] at hc
    obtain ⟨y, h1, rfl⟩ := hc
    have hx := opd_rep htm h1
    simp only [aop] at he
    split at he
    · rename_i id off heq
      injection he with he
      subst he
      rw [heq] at hx
      generalize hv : a.eval x = v at hx
      cases hx with
      | ptr hx => exact ⟨_, .inl (by simp only [execOp, hop, hv]; rfl), .ptr hx, rfl, rfl⟩
    · rename_i cs off heq
      injection he with he
      subst he
      rw [heq] at hx
      generalize hv : a.eval x = v at hx
      cases hx with
      | elp hx => exact ⟨_, .inl (by simp only [execOp, hop, hv]; rfl), .elp hx, rfl, rfl⟩
    · rename_i f ids heq
      injection he with he
      subst he
      rw [heq] at hx
      generalize hv : a.eval x = v at hx
      cases hx with
      | fn hx => exact ⟨_, .inl (by simp only [execOp, hop, hv]; rfl), .fn hx, rfl, rfl⟩
    · cases he
  | binOp bop t x y yt =>
    simp only [hop, cOp] at hc
    split at hc
    case h_1 | h_2 =>
      obtain ⟨x', h1, h2⟩ := Option.bind_eq_some_iff.1 hc
      obtain ⟨y', h3, rfl⟩ := Option.map_eq_some_iff.1 h2
      exact pure_bin1 htm hop h1 h3 he
    case h_3 hu =>
      obtain ⟨x', h1, h2⟩ := Option.bind_eq_some_iff.1 hc
      obtain ⟨y', h3, h4⟩ := Option.bind_eq_some_iff.1 h2
      split at h4
      · injection h4 with h4; subst h4; exact pure_eqb htm hop hu h1 h3 false (.inl ⟨rfl, rfl⟩) he
      · injection h4 with h4; subst h4; exact pure_eqb htm hop hu h1 h3 true (.inr ⟨rfl, rfl⟩) he
      · cases h4
    case h_4 fs hu =>
      split at hc
      · rename_i heqT
        obtain ⟨n, hn, hc⟩ := Option.bind_eq_some_iff.1 hc
        obtain ⟨x', h1, h2⟩ := Option.bind_eq_some_iff.1 hc
        obtain ⟨y', h3, h4⟩ := Option.bind_eq_some_iff.1 h2
        split at h4
        · injection h4 with h4; subst h4; exact pure_eqs hEq htm hop heqT hn h1 h3 false (.inl ⟨rfl, rfl⟩) he
        · injection h4 with h4; subst h4; exact pure_eqs hEq htm hop heqT hn h1 h3 true (.inr ⟨rfl, rfl⟩) he
        · cases h4
      · cases hc
    case h_5 el hu =>
      split at hc
      · rename_i hnil
        obtain ⟨x', h1, h4⟩ := Option.bind_eq_some_iff.1 hc
        split at h4
        · injection h4 with h4; subst h4; exact pure_eqn htm hop hu h1 hnil false (.inl ⟨rfl, rfl⟩) he
        · injection h4 with h4; subst h4; exact pure_eqn htm hop hu h1 hnil true (.inr ⟨rfl, rfl⟩) he
        · cases h4
      · cases hc
    case h_6 el hu =>
      split at hc
      · rename_i hnil
        obtain ⟨x', h1, h4⟩ := Option.bind_eq_some_iff.1 hc
        split at h4
        · injection h4 with h4; subst h4; exact pure_eqp htm hop hu h1 hnil false (.inl ⟨rfl, rfl⟩) he
        · injection h4 with h4; subst h4; exact pure_eqp htm hop hu h1 hnil true (.inr ⟨rfl, rfl⟩) he
        · cases h4
      · cases hc
    case h_7 => cases hc
  | unOp uop t x =>
    simp only [hop, cOp, Option.map_eq_some_iff] at hc
    obtain ⟨y, h1, rfl⟩ := hc
    have hx := opd_rep htm h1
    simp only [aop] at he
    split at he
    · rename_i p heq
      obtain ⟨r, h2, h3⟩ := Option.bind_eq_some_iff.1 he
      injection h3 with h3
      subst h3
      rw [heq] at hx
      generalize hv : a.eval x = v at hx
      cases hx with
      | d hx =>
        have : ∃ z, (Op.unary uop v).run P w = .ok z w ∧ RD w E.Pr r z := by
          cases hx with
          | int k n => cases uop <;> simp only [unD, Option.some.injEq, reduceCtorEq] at h2; subst h2; exact ⟨_, rfl, .int _ _⟩
          | bool b => cases uop <;> simp [unD] at h2; subst h2; exact ⟨_, rfl, .bool _⟩
          | _ => simp [unD] at h2
        obtain ⟨z, h4, h5⟩ := this
        exact ⟨z, .inl (by simp only [execOp, hop, hv, Sem.run_bind, h4, Result.andThen_ok, Sem.run_pure]), .d h5, rfl, rfl⟩
    · cases he
  | convert src dst x =>
    simp only [hop, cOp] at hc
    split at hc
    · rename_i k k' hu1 hu2
      obtain ⟨y, h1, rfl⟩ := Option.map_eq_some_iff.1 hc
      simp only [aop, Option.bind_eq_some_iff] at he
      obtain ⟨p, h2, h3⟩ := he
      injection h3 with h3
      subst h3
      have hx := (opd_rep htm h1).int h2
      refine ⟨_, .inl ?_, .d (.int _ _), rfl, rfl⟩
      simp [execOp, hop, hx, convert, run_underlying hu1, run_underlying hu2, Conv.intToInt]
    · rename_i el hu1 hu2
      split at hc
      · rename_i hu3
        obtain ⟨y, h1, rfl⟩ := Option.map_eq_some_iff.1 hc
        simp only [aop, Option.bind_eq_some_iff] at he
        obtain ⟨xs, h2, s, h3, h4⟩ := he
        injection h4 with h4
        subst h4
        refine ⟨_, .inl ?_, .d (.str _), rfl, rfl⟩
        simp only [execOp, hop, Sem.run_bind, cvbs_sound hu1 hu3 hu2 ((opd_rep htm h1).rows h2) h3, Result.andThen_ok, Sem.run_pure]
      · cases hc
    · cases hc
  | makeFunc fn first caps =>
    cases fn with
    | func f =>
      simp only [hop, cOp] at hc
      split at hc
      · rename_i h0
        obtain ⟨cs, h1, rfl⟩ := Option.map_eq_some_iff.1 hc
        exact pure_fnv htm hop h0 h1 he
      · cases hc
    | _ => simp [hop, cOp] at hc
  | slice t x lo hi mx =>
    cases mx with
    | some m => simp [hop, cOp] at hc
    | none =>
      simp only [hop, cOp] at hc
      split at hc
      · rename_i hu
        obtain ⟨x', h1, h2⟩ := Option.bind_eq_some_iff.1 hc
        obtain ⟨lo', h3, h4⟩ := Option.bind_eq_some_iff.1 h2
        obtain ⟨hi', h5, rfl⟩ := Option.map_eq_some_iff.1 h4
        exact pure_ss htm hop hu h1 h3 h5 he
      · rename_i el hu
        obtain ⟨sz, h0, h1'⟩ := Option.bind_eq_some_iff.1 hc
        obtain ⟨x', h1, h2⟩ := Option.bind_eq_some_iff.1 h1'
        obtain ⟨lo', h3, h4⟩ := Option.bind_eq_some_iff.1 h2
        obtain ⟨hi', h5, rfl⟩ := Option.map_eq_some_iff.1 h4
        exact pure_sls htm hop hu h0 h1 h3 h5 he
      · cases hc
  | fieldAddr s x f =>
    simp only [hop, cOp] at hc
    split at hc
    · rename_i fs hu
      obtain ⟨fl, h1, h2⟩ := Option.bind_eq_some_iff.1 hc
      obtain ⟨z, h3, h4⟩ := Option.bind_eq_some_iff.1 h2
      split at h4
      · cases h4
      · rename_i hz
        obtain ⟨x', h5, rfl⟩ := Option.map_eq_some_iff.1 h4
        exact pure_fad htm hop hu h1 h3 hz h5 he
    · cases hc
  | field s x f =>
    simp only [hop, cOp] at hc
    split at hc
    · rename_i fs hu
      obtain ⟨fl, h1, h2⟩ := Option.bind_eq_some_iff.1 hc
      obtain ⟨n, h3, h4⟩ := Option.bind_eq_some_iff.1 h2
      obtain ⟨x', h5, rfl⟩ := Option.map_eq_some_iff.1 h4
      exact pure_fld htm hop hu h1 h3 h5 he
    · cases hc
  | indexAddr t x j =>
    simp only [hop, cOp] at hc
    split at hc
    · rename_i el hu
      obtain ⟨sz, h1, h2⟩ := Option.bind_eq_some_iff.1 hc
      split at h2
      · cases h2
      · obtain ⟨x', h3, h4⟩ := Option.bind_eq_some_iff.1 h2
        obtain ⟨j', h5, rfl⟩ := Option.map_eq_some_iff.1 h4
        exact pure_iad htm hop hu h1 h3 h5 he
    · cases hc
  | index t x j =>
    simp only [hop, cOp] at hc
    split at hc
    · rename_i hu
      obtain ⟨x', h3, h4⟩ := Option.bind_eq_some_iff.1 hc
      obtain ⟨j', h5, rfl⟩ := Option.map_eq_some_iff.1 h4
      exact pure_ixs htm hop hu h3 h5 he
    · cases hc
  | extract x j =>
    simp only [hop, cOp, Option.map_eq_some_iff] at hc
    obtain ⟨y, h1, rfl⟩ := hc
    have hx := opd_rep htm h1
    simp only [aop] at he
    split at he
    · rename_i vs heq
      obtain ⟨v, h2, h3⟩ := Option.bind_eq_some_iff.1 he
      injection h3 with h3
      subst h3
      rw [heq] at hx
      generalize hv : a.eval x = u at hx
      cases hx with
      | tup hx =>
        obtain ⟨z, h4, h5⟩ := hx.get h2
        refine ⟨z, .inl ?_, ?_, rfl, rfl⟩
        · have h4' := h4
          rw [Array.getElem?_toList] at h4'
          simp only [execOp, hop, hv, Instr.extract, h4', Sem.run_bind, Sem.run_pure, Result.andThen_ok]
        · cases h5 with
          | d h5 => exact .d h5
          | agg h5 => exact .agg h5
    · cases he
  | call c =>
    simp only [hop, cOp] at hc
    split at hc
    · rename_i b hb
      unfold cBuiltin at hc
      split at hc
      · rename_i x t ha ht
        have hargs : c.args = #[x] := by apply Array.ext'; simpa using ha
        have hts : c.argTypes = #[t] := by apply Array.ext'; simpa using ht
        split at hc
        · rename_i hu
          obtain ⟨x', h1, rfl⟩ := Option.map_eq_some_iff.1 hc
          exact pure_len (b := true) htm hop hb hargs hts hu h1 he
        · rename_i el hu
          obtain ⟨x', h1, rfl⟩ := Option.map_eq_some_iff.1 hc
          exact pure_len (b := false) htm hop hb hargs hts ⟨el, hu⟩ h1 he
        · cases hc
      · rename_i s x t u ha ht
        split at hc
        · split at hc
          · rename_i el hu
            obtain ⟨i', _, h2⟩ := Option.bind_eq_some_iff.1 hc
            obtain ⟨z, _, h3⟩ := Option.bind_eq_some_iff.1 h2
            split at h3
            · obtain ⟨s', _, h4⟩ := Option.bind_eq_some_iff.1 h3
              obtain ⟨x', _, h5⟩ := Option.bind_eq_some_iff.1 h4
              injection h5 with h5
              exact absurd h5.symm (n5 _ _ _ _ _)
            · cases h3
          · cases hc
        · cases hc
      · rename_i x ys ha
        obtain ⟨x', h1, h2⟩ := Option.bind_eq_some_iff.1 hc
        obtain ⟨ys', h3, h4⟩ := Option.bind_eq_some_iff.1 h2
        injection h4 with h4
        subst h4
        exact pure_mm (mx := true) htm hop hb ha h1 h3 he
      · rename_i x ys ha
        obtain ⟨x', h1, h2⟩ := Option.bind_eq_some_iff.1 hc
        obtain ⟨ys', h3, h4⟩ := Option.bind_eq_some_iff.1 h2
        injection h4 with h4
        subst h4
        exact pure_mm (mx := false) htm hop hb ha h1 h3 he
      · cases hc
    · obtain ⟨f', _, h2⟩ := Option.bind_eq_some_iff.1 hc
      obtain ⟨as, _, rfl⟩ := Option.map_eq_some_iff.1 h2
      simp [aop] at he
    · cases hc
  | _ => simp [hop, cOp] at hc
end Go.Ae
