/-
  WALKS BY THE EVALUATOR: a loop by an invariant, arithmetic that is not wrapped.
-/
import Derived.Test.YtkmmfenknekcbaaGreatAeSimp
import Derived.IntWalk
set_option linter.unusedSimpArgs false
set_option linter.unusedVariables false
namespace Go.Ae
abbrev iv (n : Int) : AV := .d (.int .i64 n)
abbrev bv (b : Bool) : AV := .d (.bool b)
abbrev sv (s : List UInt8) : AV := .d (.str s)
/-- A loop, by an invariant whose measure falls with each round. -/
theorem loopW_inv {cl : FuncId → Fun} {a : ACode} {K : Kt} {r : Res} (I : Nat → St → Prop)
    (step : ∀ m st, I m st → ∀ L : St → Option Res, (∀ m' st', m' < m → I m' st' → L st' = some r) → evW cl a (thenK L K) st = some r) : ∀ m st, I m st → loopW (evW cl a) K st = some r := by
  intro m
  induction m using Nat.strongRecOn with
  | ind m ih => exact fun st h => loopW_round (step m st h _ fun m' st' hm h' => ih m' hm st' h')
/-- It ends, and of its result something holds. -/
def AeEnds (x : Option Res) (R : Res → Prop) : Prop := ∃ r, x = some r ∧ R r
@[simp] theorem comes_some (r : Res) (R : Res → Prop) : AeEnds (some r) R ↔ R r := ⟨fun ⟨_, h, h'⟩ => by injection h with h; subst h; exact h', fun h => ⟨r, rfl, h⟩⟩
theorem AeEnds.mono {x : Option Res} {R S : Res → Prop} (h : AeEnds x R) (k : ∀ r, R r → S r) : AeEnds x S := h.imp fun r ⟨h1, h2⟩ => ⟨h1, k r h2⟩
theorem loopW_comes {cl : FuncId → Fun} {a : ACode} {K : Kt} {R : Res → Prop} (I : Nat → St → Prop)
    (step : ∀ m st, I m st → ∀ L : St → Option Res, (∀ m' st', m' < m → I m' st' → AeEnds (L st') R) → AeEnds (evW cl a (thenK L K) st) R) : ∀ m st, I m st → AeEnds (loopW (evW cl a) K st) R := by
  intro m
  induction m using Nat.strongRecOn with
  | ind m ih =>
    intro st h
    obtain ⟨r, h1, h2⟩ := step m st h _ fun m' st' hm h' => ih m' hm st' h'
    exact ⟨r, loopW_round h1, h2⟩
theorem comes_round {cl : FuncId → Fun} {a : ACode} {K : Kt} {st : St} {R : Res → Prop} (h : AeEnds (evW cl a (thenK (loopW (evW cl a) K) K) st) R) : AeEnds (loopW (evW cl a) K st) R := h.imp fun _ ⟨h1, h2⟩ => ⟨loopW_round h1, h2⟩
/-- A call ends as its body ends. -/
theorem comes_body {A : AProg} {f : FuncId} {af : AFun} (he : A.ext f = none) (hf : A.fn f = some af) {args : List AV} {obs : List (List DV)} {R : Res → Prop} (hl : args.length = af.np)
    (h : AeEnds (evW (call A) af.code (finalK af.res obs.length) (init args obs)) R) : AeEnds (call A f args obs) R := h.imp fun _ ⟨h1, h2⟩ => ⟨call_body he hf hl h1, h2⟩
theorem wrapI (x : Int) (h : -9223372036854775808 ≤ x) (h' : x ≤ 9223372036854775807) : IntKind.wrap .i64 x = x := IntWalk.i64_in x ⟨h, h'⟩
theorem wrapU8 (x : Int) (h : 0 ≤ x) (h' : x ≤ 255) : IntKind.wrap .u8 x = x := IntWalk.u8_in x ⟨h, h'⟩
theorem wrapI32 (x : Int) (h : -2147483648 ≤ x) (h' : x ≤ 2147483647) : IntKind.wrap .i32 x = x := IntWalk.i32_in x ⟨h, h'⟩
/-- The numbers that an int holds. -/
def I64 (x : Int) : Prop := -9223372036854775808 ≤ x ∧ x ≤ 9223372036854775807
theorem wrap_range (x : Int) : -9223372036854775808 ≤ IntKind.wrap .i64 x ∧ IntKind.wrap .i64 x ≤ 9223372036854775807 := by
  rw [IntKind.wrap_i64]; omega
end Go.Ae
