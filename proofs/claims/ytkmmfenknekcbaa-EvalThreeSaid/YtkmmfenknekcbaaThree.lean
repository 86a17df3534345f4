/-
  EvalThree returns true, whatever its two arguments, and they read as they did: at the nine that its guard lets in by carrying it out, at all others since the guard shuts them out.
-/
import Derived.Test.YtkmmfenknekcbaaThreeA
import Derived.Test.YtkmmfenknekcbaaThreeB
import Derived.Test.YtkmmfenknekcbaaThreeC
import Derived.Test.YtkmmfenknekcbaaAeSimp
namespace Go.Proofs.Ytkmmfenknekcbaa
open Go.Ae Go.RowKit Go.ChangeShapes Go.WideShapes Go.ChangeAt

def iv (n : Int) : AV := .d (.int .i64 n)
theorem three_head : ∃ rest, af6.code =
    (.seq (.rg [⟨(some 4), .mv (.k (.d (.bool false))), none⟩])
    (.seq (.seq (.rg [⟨(some 16), .mv (.t 0), none⟩,
      ⟨(some 17), .bin .lss (.t 16) (.k (.d (.int .i64 0))), none⟩,
      ⟨(some 18), .mv (.t 17), none⟩,
      ⟨(some 19), .mv (.t 0), some (18, false)⟩,
      ⟨(some 20), .bin .gtr (.t 19) (.k (.d (.int .i64 2))), some (18, false)⟩,
      ⟨(some 21), .pick (.t 18) (.k (.d (.bool true))) (.t 20), none⟩,
      ⟨(some 22), .mv (.t 21), none⟩,
      ⟨(some 23), .mv (.t 1), some (22, false)⟩,
      ⟨(some 24), .bin .lss (.t 23) (.k (.d (.int .i64 0))), some (22, false)⟩,
      ⟨(some 25), .pick (.t 22) (.k (.d (.bool true))) (.t 24), none⟩,
      ⟨(some 26), .mv (.t 25), none⟩,
      ⟨(some 27), .mv (.t 1), some (26, false)⟩,
      ⟨(some 28), .bin .gtr (.t 27) (.k (.d (.int .i64 2))), some (26, false)⟩,
      ⟨(some 29), .pick (.t 26) (.k (.d (.bool true))) (.t 28), none⟩])
    (.cond (.t 29)
      (.seq (.rg [⟨(some 4), .mv (.k (.d (.bool true))), none⟩])
      .ret)
      .skip)) rest)) := ⟨_, rfl⟩
theorem three_out (a b : Int) (h : a < 0 ∨ 2 < a ∨ b < 0 ∨ 2 < b) : call A 6 [iv a, iv b] [] = some (.d (.bool true), []) := by
  refine call_body (af := af6) rfl (fnT6) rfl ?_
  obtain ⟨rest, hr⟩ := three_head
  rw [hr]
  have hres : af6.res = [.t 4] := rfl
  rw [hres]
  by_cases h1 : a < 0
  · simp -implicitDefEqProofs [iv, h1]
  · by_cases h2 : 2 < a
    · simp -implicitDefEqProofs [iv, h1, h2]
    · by_cases h3 : b < 0
      · simp -implicitDefEqProofs [iv, h1, h2, h3]
      · have h4 : 2 < b := by omega
        simp -implicitDefEqProofs [iv, h1, h2, h3, h4]
theorem three (a b : Int) : call A 6 [iv a, iv b] [] = some (.d (.bool true), []) := by
  by_cases h : a < 0 ∨ 2 < a ∨ b < 0 ∨ 2 < b
  · exact three_out a b h
  · have ha : a = 0 ∨ a = 1 ∨ a = 2 := by omega
    have hb : b = 0 ∨ b = 1 ∨ b = 2 := by omega
    rcases ha with rfl | rfl | rfl <;> rcases hb with rfl | rfl | rfl
    · exact call_iff.2 ⟨300, t00⟩
    · exact call_iff.2 ⟨300, t01⟩
    · exact call_iff.2 ⟨300, t02⟩
    · exact call_iff.2 ⟨300, t10⟩
    · exact call_iff.2 ⟨300, t11⟩
    · exact call_iff.2 ⟨300, t12⟩
    · exact call_iff.2 ⟨300, t20⟩
    · exact call_iff.2 ⟨300, t21⟩
    · exact call_iff.2 ⟨300, t22⟩

theorem Try.own : ownKnob Try.prog.godebug = none := by kernel_rfl
theorem Try.laidOut : laidOutB Try.prog = true := by kernel_rfl

set_option maxRecDepth 100000 in
theorem three_lifted (os : Os) (started : os.Started) (H : Type) (enc : TypeId × Value → H) :
    ReturnsInHanded {} Try.checked os 6 .any (Rows.evalThreeSpec.pre6 enc Try.prog Try.f6 Rows.evalThreeRow.domain false) (Rows.evalThreeSpec.post enc Try.prog Try.f6 false true false false) := by
  refine returnsInHanded_of_change (C := Try.checked) Try.own started (by kernel_rfl) Try.func6
    (ChangeSpec.witness6 (enc := enc) (C := Try.checked) false ⟨#[], #[.int .i64 0, .int .i64 0], []⟩ 8 (by kernel_rfl) (by kernel_rfl) (by kernel_rfl) (by kernel_rfl)) ?_
  intro W base args ds gs before hval0 hW hcnd _
  have hval : ∀ (j : Nat) t v, Try.f6.params[j]? = some t → args[j]? = some v → Value.okWide Try.prog W .any base t v := hval0
  have hW' := hW
  obtain ⟨p, q, hA0, hV, rfl, hfz, hnd⟩ := hW
  have hA : DataW.TrodAll enc Try.prog W 0 (fun _ => true) true Try.f6.params.toList args.toList ds p := hA0
  rw [Try.params6] at hA hval
  obtain ⟨v0, v1, d0, d1, p0, p1, rfl, rfl, rfl, h0, h1⟩ := trodAll_two hA
  obtain ⟨rfl, rfl⟩ := trodVars_none hV
  obtain ⟨a, rfl, rfl, rfl, wa⟩ := open_int Try.underlying3 (hval 0 3 v0 rfl rfl) h0
  obtain ⟨b, rfl, rfl, rfl, wb⟩ := open_int Try.underlying3 (hval 1 3 v1 rfl rfl) h1
  clear hA0 hval0
  refine (law_walk (fits 6) (args := [iv a, iv b]) (vals := [.int .i64 a, .int .i64 b]) (w := W) (.cons (.d (.int _ _)) (.cons (.d (.int _ _)) .nil)) (three a b)).mono fun e W' ⟨he, hw⟩ => ?_
  subst he
  exact ⟨_, rfl, post_below Try.laidOut rfl hW' (by rw [Try.params6]; intro t ht; simp at ht; subst ht; exact ⟨by kernel_rfl, of_decide_eq_true (by kernel_rfl)⟩) hw (tb := 4) rfl Try.underlying4 rfl rfl rfl⟩

/-- EvalThree returns true whatever it is given. -/
theorem evalThree_holds : Rows.EvalThreeSaid :=
  OpenClaim.holds_of_wide 6 Try.f6 rfl rfl rfl rfl rfl rfl rfl ⟨rfl, rfl, rfl, rfl, rfl⟩ rfl rfl rfl rfl rfl (by kernel_rfl) Try.func6 (by kernel_rfl)
    (of_decide_eq_true (by kernel_rfl)) (by unfold Func.isWrapper; first | (rw [if_pos (by decide +kernel)]; kernel_rfl) | (rw [if_neg (by decide +kernel)]; exact ⟨rfl, rfl⟩))
    (fun os started H enc _ => three_lifted os started H enc)
end Go.Proofs.Ytkmmfenknekcbaa
