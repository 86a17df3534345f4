/-
  FROM THE EVALUATOR TO A ROW: a law's arguments as the evaluator's, its answer, the row's end.
-/
import Derived.Test.YtkmmfenknekcbaaGreatAeClone
import Derived.ProofKit
import Derived.Laws.StructEq
set_option linter.unusedSimpArgs false
set_option linter.unusedVariables false
namespace Go.Ae
open Go.RowKit Go.ChangeShapes Go.WideShapes Go.ChangeAt
variable {P : Program}

/-- A struct of two whole numbers is compared as such. -/
theorem eqT_two {T I : TypeId} {f0 f1 : Field} {eqT : TypeId → Bool} (he : ∀ t, eqT t = true → t = T) (hu : P.underlying T = some (.struct #[f0, f1])) (hp : P.stoodInHeld T = false) (hg : P.eqGuardType P.depth T = false) (n0 : (f0.name == "_") = false) (n1 : (f1.name == "_") = false)
    (t0 : f0.type = I) (o0 : f0.offset = 0) (t1 : f1.type = I) (o1 : f1.offset = 1) (hI : P.underlying I = some (.int .i64)) (hs : tsize P T = some 2) : EqT P eqT := by
  intro t n ht hn w Pr cs ds xs ys r hl hq hx hy
  have := he t ht
  subst this
  rw [hs] at hn
  injection hn with hn
  subst hn
  refine ⟨?_, hg⟩
  have hi : P.underlying I = some (.int .i64) := hI
  generalize hxl : xs.toList = lx at hx
  generalize hyl : ys.toList = ly at hy
  have key : ∀ (cs ds : List DV) (lx ly : List Value) (r : Bool), cs.length = 2 → eqD cs ds = some r → All2 (RD w Pr) cs lx → All2 (RD w Pr) ds ly → ∃ k k' a a' b b', lx = [.int k a, .int k' b] ∧ ly = [.int k a', .int k' b'] ∧ r = (a == a' && b == b') := by
    intro cs ds lx ly r hl hq hx hy
    match cs, ds, hl, hq, hx, hy with
    | .int k a :: .int k' b :: [], .int k2 a' :: .int k2' b' :: [], _, hq, .cons h1 (.cons h2 .nil), .cons g1 (.cons g2 .nil) =>
      cases h1
      cases h2
      cases g1
      cases g2
      simp only [eqD] at hq
      split at hq
      · split at hq
        · rename_i e1 e2
          simp only [Option.bind_some, Option.some.injEq, Bool.and_true] at hq
          subst e1 e2
          exact ⟨k, k', a, a', b, b', rfl, rfl, hq.symm⟩
        · cases hq
      · cases hq
    | .int _ _ :: .int _ _ :: [], [], _, hq, _, _ => simp [eqD] at hq
    | .int _ _ :: .int _ _ :: [], [.int _ _], _, hq, _, _ => simp only [eqD] at hq; split at hq <;> simp at hq
    | .int _ _ :: .int _ _ :: [], .int _ _ :: .int _ _ :: _ :: _, _, hq, _, _ => simp only [eqD] at hq; split at hq <;> simp [eqD] at hq
    | .int _ _ :: .int _ _ :: [], .int _ _ :: .bool _ :: _, _, hq, _, _ => simp only [eqD] at hq; split at hq <;> simp at hq
    | .int _ _ :: .int _ _ :: [], .int _ _ :: .str _ :: _, _, hq, _, _ => simp only [eqD] at hq; split at hq <;> simp at hq
    | .int _ _ :: .int _ _ :: [], .int _ _ :: .sl _ :: _, _, hq, _, _ => simp only [eqD] at hq; split at hq <;> simp at hq
    | .int _ _ :: .int _ _ :: [], .bool _ :: _, _, hq, _, _ => simp [eqD] at hq
    | .int _ _ :: .int _ _ :: [], .str _ :: _, _, hq, _, _ => simp [eqD] at hq
    | .int _ _ :: .int _ _ :: [], .sl _ :: _, _, hq, _, _ => simp [eqD] at hq
    | .int _ _ :: .bool _ :: [], ds, _, hq, _, _ => (cases ds with
      | nil => simp [eqD] at hq
      | cons x l => cases x <;> cases l <;> simp [eqD] at hq)
    | .int _ _ :: .str _ :: [], ds, _, hq, _, _ => (cases ds with
      | nil => simp [eqD] at hq
      | cons x l => cases x <;> cases l <;> simp [eqD] at hq)
    | .int _ _ :: .sl _ :: [], ds, _, hq, _, _ => (cases ds with
      | nil => simp [eqD] at hq
      | cons x l => cases x <;> cases l <;> simp [eqD] at hq)
    | .bool _ :: _, ds, _, hq, _, _ => simp [eqD] at hq
    | .str _ :: _, ds, _, hq, _, _ => simp [eqD] at hq
    | .sl _ :: _, ds, _, hq, _, _ => simp [eqD] at hq
  obtain ⟨k, k', a, a', b, b', e1, e2, rfl⟩ := key cs ds lx ly r hl hq hx hy
  have hxs : xs = #[.int k a, .int k' b] := by apply Array.ext'; rw [hxl, e1]
  have hys : ys = #[.int k a', .int k' b'] := by apply Array.ext'; rw [hyl, e2]
  subst hxs hys
  have hf : P.fieldsOf t = #[f0, f1] := by simp [Program.fieldsOf, hu]
  have hli : tload P I = some none := by simp [tload, hI]
  show (Op.equalIn (9999 + 1) t _ _).run P w = _
  rw [run_equalIn_struct (P := P) w 9999 t _ _ (by rw [hf]; exact hu) hp, hf]
  have q0 : ∀ (u v : Value) , (part f0.type #[u, v] f0.offset).run P w = .ok u w := fun u v => by rw [t0, o0]; exact tload_part hli rfl
  have q1 : ∀ (u v : Value) , (part f1.type #[u, v] f1.offset).run P w = .ok v w := fun u v => by rw [t1, o1]; exact tload_part hli rfl
  have m0 : f0.name ≠ "_" := by simpa using n0
  have m1 : f1.name ≠ "_" := by simpa using n1
  have r0 := run_equalIn_int (P := P) w 9998 f0.type k .i64 a a' (by rw [t0]; exact hI)
  have r1 := run_equalIn_int (P := P) w 9998 f1.type k' .i64 b b' (by rw [t1]; exact hI)
  simp only [Op.eqFields, if_pos m0, if_pos m1, Sem.run_bind, q0, q1, r0, r1, Result.andThen_ok]
  cases h1 : (a == a') <;> cases h2 : (b == b') <;> simp [q1, r1, h2]

/-- The cells that are there, all of them, held still. -/
def allPr (w : World) : Nat → Nat → Prop := fun b j => (w.cell? ⟨b, j, none⟩).isSome = true
def env0 (w : World) : Env := { ρ := fun _ => 0, V := fun _ => False, τ := fun _ => Go.undef, ε := fun _ => 0, U := fun _ => False, Pr := allPr w }
/-- A law that the evaluator says is true, is. -/
theorem law_walk {f : FuncId} {g : Fun} (hf : Fits P f g) {args : List AV} {vals : List Value} {w : World} (ha : All2 (RA (env0 w) w) args vals) (hg : g args [] = some (.d (.bool true), [])) :
    Calls P f vals.toArray w fun e w' => e = .returned (.bool true) ∧ Below w.heap.size w w' := by
  have hin : CallIn (env0 w) w args [] vals := ⟨ha, fun i => by simp [env0], fun _ h => h, by simp, fun i j hi => by simp at hi, fun i hi => by simp at hi, fun b j hp => by
    obtain ⟨v, hv⟩ := Option.isSome_iff_exists.1 hp
    exact World.block_lt_of_cell? w ⟨b, j, none⟩ hv⟩
  refine (hf args [] _ _ hg (env0 w) w vals hin).mono ?_
  rintro e w' ⟨v, rfl, hout⟩
  obtain ⟨⟨Pr', old, new, h1, h2, _, _, _, hres⟩, _, hfr, hos, htape, hout', hsize⟩ := hout
  refine ⟨?_, hos, htape, hout', hsize, fun k hk => hfr k hk (fun i hi => by simp at hi)⟩
  cases hres with
  | d h => cases h; rfl

theorem trodAll_below {H : Type} {enc : TypeId × Value → H} {W W' : World} (hl : laidOutB P = true) (hb : Below W.heap.size W W') : ∀ {ts : List TypeId} {vs : List Value} {ds : List (DataW H)} {ps : List MemPlace},
    (∀ t ∈ ts, P.readableRec t = true ∧ t < P.types.size) → (∀ p ∈ ps, p.block < W.heap.size) → DataW.TrodAll enc P W 0 (fun _ => true) true ts vs ds ps → DataW.TrodAll enc P W' 0 (fun b => decide (b < W.heap.size)) true ts vs ds ps
  | [], [], [], _, _, _, h => h
  | t :: ts, v :: vs, d :: ds, ps, hr, hp, h => by
    obtain ⟨p, q, h1, h2, rfl⟩ := h
    obtain ⟨r1, r2⟩ := hr t (by simp)
    exact ⟨p, q, Below.trod hl r1 r2 h1 hb (fun x hx => hp x (by simp [hx])), trodAll_below hl hb (fun t ht => hr t (by simp [ht])) (fun x hx => hp x (by simp [hx])) h2, rfl⟩
  | [], _ :: _, _, _, _, _, h => h.elim
  | [], [], _ :: _, _, _, _, h => h.elim
  | _ :: _, [], _, _, _, _, h => h.elim
  | _ :: _, _ :: _, [], _, _, _, h => h.elim

/-- A row's end: true, what came in reads as it did. -/
theorem post_below {H : Type} {enc : TypeId × Value → H} {f : Func} {s : ChangeSpec} {W W' : World} {args : Array Value} {ds : List (DataW H)} {before : List MemPlace} {tb : TypeId} (hl : laidOutB P = true) (hvars : s.vars = [])
    (hW : DataW.Whole enc P f.params.toList s.vars false W args.toList ds [] before) (hr : ∀ t ∈ f.params.toList, P.readableRec t = true ∧ t < P.types.size) (hb : Below W.heap.size W W') (hrt : f.resultTypes = #[tb]) (htb : P.underlying tb = some .bool)
    (h1 : (s.fn H (ds ++ [])).results = [.lit (.bool true)]) (h2 : (s.fn H (ds ++ [])).args = ds) (h3 : (s.fn H (ds ++ [])).vars = []) : s.post enc P f false true false false W args (.bool true) W' := by
  have hW' := hW
  obtain ⟨p, q, hA, hV, rfl, _, _⟩ := hW
  rw [hvars] at hV
  cases hV
  refine ⟨ds, [], p ++ [], [], p, [], hW', ?_, ?_, ?_, ?_, fun h => by cases h⟩
  · rw [h1, hrt]
    exact trodAll_mk1 (shut_bool htb true)
  · rw [h2]
    exact trodAll_below hl hb hr hA.lt hA
  · rw [h3, hvars]
    rfl
  · exact hb.frame _
end Go.Ae
