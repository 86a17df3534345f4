/-
  WALKS: dossierref6: call, leaf, choose, Eval: it is evalS.
-/
import Derived.Test.YtkmmfenknekcbaaGreatWRef6d
set_option linter.unusedSimpArgs false
set_option linter.unusedVariables false
set_option maxRecDepth 100000
namespace Go.Proofs.YtkmmfenknekcbaaGreat
open Go Go.Ae Go.Ds
theorem w_ref5_Kids (k : Int) : call A 26 [iv k] [] = some (iv (kidsN k), []) := by
  refine call_body (af := af26) rfl fnT26 rfl ?_
  by_cases h1 : k = 1
  · subst h1; simp -implicitDefEqProofs [af26, kidsN]
  by_cases h2 : k = 2
  · subst h2; simp -implicitDefEqProofs [af26, kidsN]
  by_cases h3 : k = 3
  · subst h3; simp -implicitDefEqProofs [af26, kidsN]
  by_cases h4 : k = 4
  · subst h4; simp -implicitDefEqProofs [af26, kidsN]
  by_cases h5 : k = 5
  · subst h5; simp -implicitDefEqProofs [af26, kidsN]
  by_cases h6 : k = 6
  · subst h6; simp -implicitDefEqProofs [af26, kidsN]
  by_cases h7 : k = 7
  · subst h7; simp -implicitDefEqProofs [af26, kidsN]
  by_cases h8 : k = 8
  · subst h8; simp -implicitDefEqProofs [af26, kidsN]
  by_cases h9 : k = 9
  · subst h9; simp -implicitDefEqProofs [af26, kidsN]
  by_cases h10 : k = 10
  · subst h10; simp -implicitDefEqProofs [af26, kidsN]
  by_cases h11 : k = 11
  · subst h11; simp -implicitDefEqProofs [af26, kidsN]
  simp -implicitDefEqProofs [af26, kidsN, h1, h2, h3, h4, h5, h6, h7, h8, h9, h10, h11]
theorem w_ref6_call (n : Str) (l : List V) (hl : l.length ≤ 140737488351232) (hok : ∀ v ∈ l, isV v 0 = true) : call A 32 [sv n, .d (.sl (l.map encV))] [] = some (encR (callV n l), []) := by
  refine call_body (af := af32) rfl fnT32 rfl ?_
  unfold callV
  by_cases h1 : n = wMin ∨ n = wMax ∨ n = wSum
  · have c := w_ref6_many n h1 l hl hok
    rw [if_pos h1]
    rcases h1 with rfl | rfl | rfl <;> simp -implicitDefEqProofs [af32, c]
  · rw [if_neg h1]
    simp only [not_or] at h1
    by_cases h2 : n = wCat
    · subst h2
      have c := w_ref6_cat l hl hok
      simp -implicitDefEqProofs only [if_true]
      simp -implicitDefEqProofs only [encR] at c ⊢
      generalize (if l = [] ∨ allK 3 l = false then (nullV, 0) else catV (catAll l)) = R at c ⊢
      simp -implicitDefEqProofs [af32, c]
    · rw [if_neg h2]
      match l, hl, hok with
      | [], _, _ =>
        by_cases a1 : n = wAbs
        · subst a1; simp -implicitDefEqProofs [af32, encV_mk]
        by_cases a2 : n = wFloor
        · subst a2; simp -implicitDefEqProofs [af32, encV_mk]
        by_cases a3 : n = wCeil
        · subst a3; simp -implicitDefEqProofs [af32, encV_mk]
        by_cases a4 : n = wNot
        · subst a4; simp -implicitDefEqProofs [af32, encV_mk]
        by_cases a5 : n = wMod
        · subst a5; simp -implicitDefEqProofs [af32, encV_mk]
        by_cases a6 : n = wLen
        · subst a6; simp -implicitDefEqProofs [af32, encV_mk]
        by_cases a7 : n = wCount
        · subst a7; simp -implicitDefEqProofs [af32, encV_mk]
        by_cases a8 : n = wHas
        · subst a8; simp -implicitDefEqProofs [af32, encV_mk]
        simp -implicitDefEqProofs [af32, h1, h2, a1, a2, a3, a4, a5, a6, a7, a8, encV_mk]
      | [v], _, hok =>
        have hv := hok v (by simp)
        have hD := isV_D hv
        change _ = some (encR (oneV n v, 0), [])
        rcases v with ⟨k, b, m, s, t, l'⟩
        simp only [V.m, V.s] at hD
        have cn := w_ref2_Not (.mk k b m s t l')
        have cw := fun x => w_ref6_whole x
        rw [encV_mk] at cn
        by_cases a1 : n = wAbs
        · subst a1
          have c := w_ref6_one wAbs (.inl rfl) m s hD
          by_cases hk : k = 2
          · subst hk
            by_cases hm : m < 0 <;> simp -implicitDefEqProofs [af32, encV_mk, c, oneV, V.k, V.m, V.s, hm]
          · simp -implicitDefEqProofs [af32, encV_mk, hk, oneV, V.k, V.m, V.s]
        by_cases a2 : n = wFloor
        · subst a2
          have c := w_ref6_one wFloor (.inr (.inl rfl)) m s hD
          by_cases hk : k = 2
          · subst hk
            simp -implicitDefEqProofs [af32, encV_mk, c, oneV, V.k, V.m, V.s]
          · simp -implicitDefEqProofs [af32, encV_mk, hk, oneV, V.k, V.m, V.s]
        by_cases a3 : n = wCeil
        · subst a3
          have c := w_ref6_one wCeil (.inr (.inr rfl)) m s hD
          by_cases hk : k = 2
          · subst hk
            simp -implicitDefEqProofs [af32, encV_mk, c, oneV, V.k, V.m, V.s]
          · simp -implicitDefEqProofs [af32, encV_mk, hk, oneV, V.k, V.m, V.s]
        by_cases a4 : n = wNot
        · subst a4
          have e : oneV wNot (.mk k b m s t l') = notV (.mk k b m s t l') := by simp [oneV]
          rw [e]
          generalize notV (.mk k b m s t l') = R at cn ⊢
          simp -implicitDefEqProofs [af32, encV_mk, cn]
        by_cases a5 : n = wMod
        · subst a5; simp -implicitDefEqProofs [af32, encV_mk, oneV, V.k]
        by_cases a6 : n = wLen
        · subst a6
          by_cases hk : k = 3
          · subst hk
            simp -implicitDefEqProofs [af32, encV_mk, cw, oneV, V.k, V.t]
          · simp -implicitDefEqProofs [af32, encV_mk, hk, oneV, V.k]
        by_cases a7 : n = wCount
        · subst a7
          by_cases hk : k = 4
          · subst hk
            simp -implicitDefEqProofs [af32, encV_mk, cw, oneV, V.k, V.l]
          · simp -implicitDefEqProofs [af32, encV_mk, hk, oneV, V.k]
        by_cases a8 : n = wHas
        · subst a8; simp -implicitDefEqProofs [af32, encV_mk, oneV, V.k]
        simp -implicitDefEqProofs [af32, h1, h2, a1, a2, a3, a4, a5, a6, a7, a8, encV_mk, oneV]
      | [a, b], hl2, hok =>
        have ha := hok a (by simp)
        have hb := hok b (by simp)
        change _ = some (encR (twoV n a b, 0), [])
        have ch := w_ref6_has a.l b (by have := (isV_L ha).1; omega) (isV_L ha).2 hb
        have cm := w_ref6_mod a.m a.s b.m b.s (isV_D ha) (isV_D hb)
        have ca := w_ref6_all 2 [a, b] hl2
        simp only [List.map_cons, List.map_nil] at ca
        by_cases a1 : n = wAbs
        · subst a1; simp -implicitDefEqProofs [af32, encV_mk, twoV]
        by_cases a2 : n = wFloor
        · subst a2; simp -implicitDefEqProofs [af32, encV_mk, twoV]
        by_cases a3 : n = wCeil
        · subst a3; simp -implicitDefEqProofs [af32, encV_mk, twoV]
        by_cases a4 : n = wNot
        · subst a4; simp -implicitDefEqProofs [af32, encV_mk, twoV]
        by_cases a6 : n = wLen
        · subst a6; simp -implicitDefEqProofs [af32, encV_mk, twoV]
        by_cases a7 : n = wCount
        · subst a7; simp -implicitDefEqProofs [af32, encV_mk, twoV]
        by_cases a5 : n = wMod
        · subst a5
          cases hA : allK 2 [a, b] with
          | false =>
            rw [hA] at ca
            have e : twoV wMod a b = nullV := by
              simp [allK] at hA
              unfold twoV
              by_cases hk : a.k = 2
              · simp [hk, hA hk]
              · simp [hk]
            rw [e]
            simp -implicitDefEqProofs [af32, ca, encV_mk]
          | true =>
            rw [hA] at ca
            simp [allK] at hA
            have e : twoV wMod a b = (if a.s = 0 ∧ b.s = 0 ∧ b.m ≠ 0 then numV (modP a.m b.m) 0 else nullV) := by
              simp [twoV, hA.1, hA.2]
            rw [e]
            generalize (if a.s = 0 ∧ b.s = 0 ∧ b.m ≠ 0 then numV (modP a.m b.m) 0 else nullV) = R at cm ⊢
            rcases a with ⟨k, b1, m, s, t, l'⟩
            rcases b with ⟨k2, b2, m2, s2, t2, l2⟩
            simp only [V.m, V.s, encV_mk] at cm ca ⊢
            simp -implicitDefEqProofs [af32, ca, cm, encV_mk]
        by_cases a8 : n = wHas
        · subst a8
          rcases a with ⟨k, b1, m, s, t, l'⟩
          rcases b with ⟨k2, b2, m2, s2, t2, l2⟩
          by_cases hk : k = 4
          · subst hk
            have e : twoV wHas (.mk 4 b1 m s t l') (.mk k2 b2 m2 s2 t2 l2) = truthV (l'.any fun x => decide (cmpV x (.mk k2 b2 m2 s2 t2 l2) = 0)) := by simp [twoV, V.k, V.l]
            rw [e]
            simp only [V.l] at ch
            generalize (l'.any fun x => decide (cmpV x (.mk k2 b2 m2 s2 t2 l2) = 0)) = R at ch ⊢
            simp only [encV_mk] at ch ⊢
            simp -implicitDefEqProofs [af32, ch, encV_mk]
          · simp -implicitDefEqProofs [af32, hk, encV_mk, twoV, V.k]
        simp -implicitDefEqProofs [af32, h1, h2, a1, a2, a3, a4, a5, a6, a7, a8, encV_mk, twoV]
      | a :: b :: d :: l, hl, _ =>
        have z1 : ¬ (l.length : Int) + 1 + 1 + 1 = 1 := by omega
        have z2 : ¬ (l.length : Int) + 1 + 1 + 1 = 2 := by omega
        by_cases a1 : n = wAbs
        · subst a1; simp -implicitDefEqProofs [af32, encV_mk, z1]
        by_cases a2 : n = wFloor
        · subst a2; simp -implicitDefEqProofs [af32, encV_mk, z1]
        by_cases a3 : n = wCeil
        · subst a3; simp -implicitDefEqProofs [af32, encV_mk, z1]
        by_cases a4 : n = wNot
        · subst a4; simp -implicitDefEqProofs [af32, encV_mk, z1]
        by_cases a6 : n = wLen
        · subst a6; simp -implicitDefEqProofs [af32, encV_mk, z1]
        by_cases a7 : n = wCount
        · subst a7; simp -implicitDefEqProofs [af32, encV_mk, z1]
        by_cases a5 : n = wMod
        · subst a5; simp -implicitDefEqProofs [af32, encV_mk, z2]
        by_cases a8 : n = wHas
        · subst a8; simp -implicitDefEqProofs [af32, encV_mk, z2]
        simp -implicitDefEqProofs [af32, h1, h2, a1, a2, a3, a4, a5, a6, a7, a8, encV_mk]
end Go.Proofs.YtkmmfenknekcbaaGreat
