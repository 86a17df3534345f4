/-
  strings.indexFunc, handed a function of the program that looks at a rune alone: by the shelf's contract.
-/
import Derived.Test.YtkmmfenknekcbaaGreatAeClone
import Derived.Shelf.GgClosure.StringsIndexFunc
set_option linter.unusedSimpArgs false
set_option linter.unusedVariables false
namespace Go.Ae
open Go.RowKit Go.Proofs Go.Shelf
variable {P : Program}
/-- A function of a rune that answers p. -/
def RunePred (P : Program) (f0 : FuncId) (p : Nat → Bool) : Prop := ∀ (W : World) (x : Nat), FnGives P f0 #[] #[encR x] (.bool (p x)) W
def gIdx (f0 : FuncId) (p : Nat → Bool) : Fun := fun args obs => match args with
  | [.d (.str s), .fn f [], .d (.bool t)] => if f = f0 then some (.d (.int .i64 (Lib.idxFunc p t ⟨s.toArray⟩)), obs) else none
  | _ => none
/-- What makes memory and turns nothing that was there, answers data. -/
theorem out_below {E : Env} {w w' : World} {args : List AV} {vals : List Value} {obs : List (List DV)} (hin : CallIn E w args obs vals) (hb : Below w.heap.size w w') {x : DV} {v : Value} (h : RD w' E.Pr x v) : CallOut P E w obs.length (.d x) obs v w' := by
  have hc : ∀ b j, E.Pr b j → w'.cell? ⟨b, j, none⟩ = w.cell? ⟨b, j, none⟩ := fun b j hp => World.cell?_of_block (a := ⟨b, j, none⟩) (hb.block b (hin.prB b j hp))
  refine ⟨⟨E.Pr, obs, [], by simp, rfl, fun _ _ h => h, fun _ _ h => .inl h, fun i cs hi => ?_, .d h⟩, hc, fun b hlt _ => hb.block b hlt, hb.os, hb.tape, hb.output, hb.size⟩
  obtain ⟨vs, T, h1, h2⟩ := hin.ob i cs hi
  have hlt : E.ρ i < w.heap.size := by
    by_cases hx : E.ρ i < w.heap.size
    · exact hx
    · rw [Array.getElem?_eq_none (by omega)] at h1; cases h1
  exact ⟨vs, T, (hb.block _ hlt).trans h1, h2.imp fun _ _ q => q.move hc fun _ _ h => h⟩
theorem idx_fits {ρ : Ren} (L : Lays.n315 P ρ) {f0 : FuncId} {p : Nat → Bool} (he : Enters P f0) (hp : RunePred P f0 p) : Fits P (ρ.f 315) (gIdx f0 p) := by
  intro args obs r obs' h E w vals hin
  unfold gIdx at h
  split at h
  · rename_i s f t
    split at h
    · rename_i hf
      subst hf
      injection h with h
      injection h with h1 h2
      subst h1 h2
      have ha := hin.args
      cases ha with
      | cons a0 ha =>
        cases ha with
        | cons a1 ha =>
          cases ha with
          | cons a2 ha =>
            cases ha
            cases a0 with
            | d a0 =>
              cases a0
              cases a1 with
              | fn hv =>
                cases a2 with
                | d a2 =>
                  cases a2
                  refine (Any.strings_indexFunc L f #[] (run_callFunc_enter he) p t ⟨s.toArray⟩ w (fun W x _ => hp W x)).mono ?_
                  rintro e w' ⟨rfl, hb⟩
                  exact ⟨_, rfl, out_below hin hb (.int _ _)⟩
    · cases h
  · cases h
/-- May this rune not be in a text? -/
def badR (x : Nat) : Bool := decide ((x : Int) < 32) || (decide ((x : Int) > 126) || ((x : Int) == 34))
end Go.Ae
