/- The compiled code of this seat's functions, printed by a program; each is what the compiler's function makes of the model's code (kernel_rfl). -/
import Derived.Test.YtkmmfenknekcbaaGreatAeComp
import Derived.Test.YtkmmfenknekcbaaGreatProg
set_option linter.unusedSimpArgs false
set_option linter.unusedVariables false
set_option maxRecDepth 100000
namespace Go.Proofs.YtkmmfenknekcbaaGreat
open Go.Ae
def eqT (t : TypeId) : Bool := t == 23
/-- gosem.cut.init -/
noncomputable def af2 : AFun := { np := 0, nt := 1, res := [], code :=
(.rg [⟨(some 0), .call (.k (.fn 1 [])) [], none⟩]) }
theorem af2_ok : cFun Tryz.prog eqT Tryz.f2 = some af2 := by kernel_rfl
/-- dossier/dossierlaw6.EvalTells -/
noncomputable def af3 : AFun := { np := 2, nt := 44, res := [.t 4], code :=
(.seq (.rg [⟨(some 2), .box (.t 0), none⟩,
  ⟨(some 4), .mv (.k (.d (.bool false))), none⟩])
(.seq (.seq (.rg [⟨(some 9), .ld (some 8) (.t 2), none⟩,
  ⟨(some 10), .call (.k (.fn 9 [])) [(.t 9)], none⟩,
  ⟨(some 11), .bin .geq (.t 10) (.k (.d (.int .i64 400))), none⟩,
  ⟨(some 12), .mv (.t 11), none⟩,
  ⟨(some 13), .mv (.t 1), some (12, false)⟩,
  ⟨(some 14), .call (.k (.fn 10 [])) [(.t 13)], some (12, false)⟩,
  ⟨(some 15), .un .not (.t 14), some (12, false)⟩,
  ⟨(some 16), .pick (.t 12) (.k (.d (.bool true))) (.t 15), none⟩])
(.cond (.t 16)
  (.seq (.rg [⟨(some 4), .mv (.k (.d (.bool true))), none⟩])
  .ret)
  .skip))
(.seq (.rg [⟨(some 18), .ld (some 8) (.t 2), none⟩,
  ⟨(some 19), .mv (.t 1), none⟩,
  ⟨(some 20), .call (.k (.fn 11 [])) [(.t 18), (.t 19)], none⟩,
  ⟨(some 17), .mv (.t 20), none⟩,
  ⟨(some 21), .ext (.t 17) 0, none⟩,
  ⟨(some 22), .ext (.t 17) 1, none⟩,
  ⟨(some 5), .new [.d (.int .i64 0), .d (.bool false), .d (.int .i64 0), .d (.int .i64 0), .d (.str []), .nils], none⟩,
  ⟨none, .st 6 (.t 5) (.t 21), none⟩,
  ⟨(some 6), .mv (.t 22), none⟩])
(.seq (.rg [⟨(some 24), .ld (some 8) (.t 2), none⟩,
  ⟨(some 25), .mv (.t 1), none⟩,
  ⟨(some 26), .call (.k (.fn 12 [])) [(.t 24), (.t 25)], none⟩,
  ⟨(some 23), .mv (.t 26), none⟩,
  ⟨(some 27), .ext (.t 23) 0, none⟩,
  ⟨(some 28), .ext (.t 23) 1, none⟩,
  ⟨(some 7), .new [.d (.int .i64 0), .d (.bool false), .d (.int .i64 0), .d (.int .i64 0), .d (.str []), .nils], none⟩,
  ⟨none, .st 6 (.t 7) (.t 27), none⟩,
  ⟨(some 8), .mv (.t 28), none⟩])
(.seq (.rg [⟨(some 29), .ld (some 6) (.t 5), none⟩,
  ⟨(some 30), .ld (some 6) (.t 7), none⟩,
  ⟨(some 31), .call (.k (.fn 13 [])) [(.t 29), (.t 30)], none⟩,
  ⟨(some 32), .mv (.t 31), none⟩,
  ⟨(some 33), .mv (.t 6), some (32, true)⟩,
  ⟨(some 34), .mv (.t 8), some (32, true)⟩,
  ⟨(some 35), .bin .eql (.t 33) (.t 34), some (32, true)⟩,
  ⟨(some 36), .pick (.t 32) (.t 35) (.k (.d (.bool false))), none⟩,
  ⟨(some 37), .mv (.t 36), none⟩,
  ⟨(some 38), .ld (some 6) (.t 5), some (37, true)⟩,
  ⟨(some 39), .call (.k (.fn 14 [])) [(.t 38)], some (37, true)⟩,
  ⟨(some 40), .pick (.t 37) (.t 39) (.k (.d (.bool false))), none⟩,
  ⟨(some 41), .mv (.t 40), none⟩,
  ⟨(some 42), .call (.k (.fn 15 [])) [], some (41, true)⟩,
  ⟨(some 43), .pick (.t 41) (.t 42) (.k (.d (.bool false))), none⟩,
  ⟨(some 4), .mv (.t 43), none⟩])
.ret))))) }
theorem af3_ok : cFun Tryz.prog eqT Tryz.f3 = some af3 := by kernel_rfl
/-- dossier/dossierlaw6.EvalTexts -/
noncomputable def af4 : AFun := { np := 2, nt := 56, res := [.t 4], code :=
(.seq (.rg [⟨(some 4), .mv (.k (.d (.bool false))), none⟩])
(.seq (.seq (.rg [⟨(some 12), .mv (.t 0), none⟩,
  ⟨(some 13), .lenq true (.t 12), none⟩,
  ⟨(some 14), .bin .gtr (.t 13) (.k (.d (.int .i64 250))), none⟩,
  ⟨(some 15), .mv (.t 14), none⟩,
  ⟨(some 16), .mv (.t 1), some (15, false)⟩,
  ⟨(some 17), .call (.k (.fn 10 [])) [(.t 16)], some (15, false)⟩,
  ⟨(some 18), .un .not (.t 17), some (15, false)⟩,
  ⟨(some 19), .pick (.t 15) (.k (.d (.bool true))) (.t 18), none⟩])
(.cond (.t 19)
  (.seq (.rg [⟨(some 4), .mv (.k (.d (.bool true))), none⟩])
  .ret)
  .skip))
(.seq (.rg [⟨(some 21), .mv (.t 0), none⟩,
  ⟨(some 22), .call (.k (.fn 16 [])) [(.t 21)], none⟩,
  ⟨(some 20), .mv (.t 22), none⟩,
  ⟨(some 23), .ext (.t 20) 0, none⟩,
  ⟨(some 24), .ext (.t 20) 1, none⟩,
  ⟨(some 25), .ext (.t 20) 2, none⟩,
  ⟨(some 5), .new [.d (.int .i64 0), .d (.bool false), .d (.int .i64 0), .d (.int .i64 0), .d (.str []), .d (.bool false), .d (.bool false), .nils], none⟩,
  ⟨none, .st 8 (.t 5) (.t 23), none⟩,
  ⟨(some 6), .mv (.t 24), none⟩,
  ⟨(some 7), .mv (.t 25), none⟩])
(.seq (.seq (.rg [⟨(some 26), .mv (.t 7), none⟩,
  ⟨(some 27), .bin .neq (.t 26) (.k (.d (.int .i64 0))), none⟩])
(.cond (.t 27)
  (.seq (.rg [⟨(some 28), .call (.k (.fn 15 [])) [], none⟩,
    ⟨(some 4), .mv (.t 28), none⟩])
  .ret)
  .skip))
(.seq (.rg [⟨(some 30), .ld (some 8) (.t 5), none⟩,
  ⟨(some 31), .mv (.t 1), none⟩,
  ⟨(some 32), .call (.k (.fn 11 [])) [(.t 30), (.t 31)], none⟩,
  ⟨(some 29), .mv (.t 32), none⟩,
  ⟨(some 33), .ext (.t 29) 0, none⟩,
  ⟨(some 34), .ext (.t 29) 1, none⟩,
  ⟨(some 8), .new [.d (.int .i64 0), .d (.bool false), .d (.int .i64 0), .d (.int .i64 0), .d (.str []), .nils], none⟩,
  ⟨none, .st 6 (.t 8) (.t 33), none⟩,
  ⟨(some 9), .mv (.t 34), none⟩])
(.seq (.rg [⟨(some 36), .ld (some 8) (.t 5), none⟩,
  ⟨(some 37), .mv (.t 1), none⟩,
  ⟨(some 38), .call (.k (.fn 12 [])) [(.t 36), (.t 37)], none⟩,
  ⟨(some 35), .mv (.t 38), none⟩,
  ⟨(some 39), .ext (.t 35) 0, none⟩,
  ⟨(some 40), .ext (.t 35) 1, none⟩,
  ⟨(some 10), .new [.d (.int .i64 0), .d (.bool false), .d (.int .i64 0), .d (.int .i64 0), .d (.str []), .nils], none⟩,
  ⟨none, .st 6 (.t 10) (.t 39), none⟩,
  ⟨(some 11), .mv (.t 40), none⟩])
(.seq (.rg [⟨(some 41), .ld (some 6) (.t 8), none⟩,
  ⟨(some 42), .ld (some 6) (.t 10), none⟩,
  ⟨(some 43), .call (.k (.fn 13 [])) [(.t 41), (.t 42)], none⟩,
  ⟨(some 44), .mv (.t 43), none⟩,
  ⟨(some 45), .mv (.t 9), some (44, true)⟩,
  ⟨(some 46), .mv (.t 11), some (44, true)⟩,
  ⟨(some 47), .bin .eql (.t 45) (.t 46), some (44, true)⟩,
  ⟨(some 48), .pick (.t 44) (.t 47) (.k (.d (.bool false))), none⟩,
  ⟨(some 49), .mv (.t 48), none⟩,
  ⟨(some 50), .ld (some 6) (.t 8), some (49, true)⟩,
  ⟨(some 51), .call (.k (.fn 14 [])) [(.t 50)], some (49, true)⟩,
  ⟨(some 52), .pick (.t 49) (.t 51) (.k (.d (.bool false))), none⟩,
  ⟨(some 53), .mv (.t 52), none⟩,
  ⟨(some 54), .call (.k (.fn 15 [])) [], some (53, true)⟩,
  ⟨(some 55), .pick (.t 53) (.t 54) (.k (.d (.bool false))), none⟩,
  ⟨(some 4), .mv (.t 55), none⟩])
.ret))))))) }
theorem af4_ok : cFun Tryz.prog eqT Tryz.f4 = some af4 := by kernel_rfl
/-- dossier/dossierlaw6.EvalRels -/
noncomputable def af5 : AFun := { np := 3, nt := 81, res := [.t 6], code :=
(.seq (.rg [⟨(some 4), .box (.t 1), none⟩,
  ⟨(some 5), .box (.t 2), none⟩,
  ⟨(some 6), .mv (.k (.d (.bool false))), none⟩])
(.seq (.seq (.rg [⟨(some 9), .mv (.t 0), none⟩,
  ⟨(some 10), .lenq true (.t 9), none⟩,
  ⟨(some 11), .bin .gtr (.t 10) (.k (.d (.int .i64 20))), none⟩,
  ⟨(some 12), .mv (.t 11), none⟩,
  ⟨(some 13), .fad (.t 4) 5, some (12, false)⟩,
  ⟨(some 14), .ld none (.t 13), some (12, false)⟩,
  ⟨(some 15), .lenq false (.t 14), some (12, false)⟩,
  ⟨(some 16), .bin .gtr (.t 15) (.k (.d (.int .i64 20))), some (12, false)⟩,
  ⟨(some 17), .pick (.t 12) (.k (.d (.bool true))) (.t 16), none⟩,
  ⟨(some 18), .mv (.t 17), none⟩,
  ⟨(some 19), .fad (.t 5) 5, some (18, false)⟩,
  ⟨(some 20), .ld none (.t 19), some (18, false)⟩,
  ⟨(some 21), .lenq false (.t 20), some (18, false)⟩,
  ⟨(some 22), .bin .gtr (.t 21) (.k (.d (.int .i64 20))), some (18, false)⟩,
  ⟨(some 23), .pick (.t 18) (.k (.d (.bool true))) (.t 22), none⟩,
  ⟨(some 24), .mv (.t 23), none⟩,
  ⟨(some 25), .ld (some 6) (.t 4), some (24, false)⟩,
  ⟨(some 26), .call (.k (.fn 14 [])) [(.t 25)], some (24, false)⟩,
  ⟨(some 27), .un .not (.t 26), some (24, false)⟩,
  ⟨(some 28), .pick (.t 24) (.k (.d (.bool true))) (.t 27), none⟩,
  ⟨(some 29), .mv (.t 28), none⟩,
  ⟨(some 30), .ld (some 6) (.t 5), some (29, false)⟩,
  ⟨(some 31), .call (.k (.fn 14 [])) [(.t 30)], some (29, false)⟩,
  ⟨(some 32), .un .not (.t 31), some (29, false)⟩,
  ⟨(some 33), .pick (.t 29) (.k (.d (.bool true))) (.t 32), none⟩])
(.cond (.t 33)
  (.seq (.rg [⟨(some 6), .mv (.k (.d (.bool true))), none⟩])
  .ret)
  .skip))
(.seq (.rd [⟨(some 34), .ld (some 6) (.t 4), none⟩,
  ⟨(some 35), .ld (some 6) (.t 5), none⟩,
  ⟨(some 36), .call (.k (.fn 17 [])) [(.k (.d (.str [60]))), (.t 34), (.t 35)], none⟩,
  ⟨(some 37), .ld (some 6) (.t 4), none⟩,
  ⟨(some 38), .ld (some 6) (.t 5), none⟩,
  ⟨(some 39), .call (.k (.fn 17 [])) [(.k (.d (.str [62, 61]))), (.t 37), (.t 38)], none⟩,
  ⟨(some 7), .new [.d (.int .i64 0), .d (.bool false), .d (.int .i64 0), .d (.int .i64 0), .d (.str []), .nils], none⟩,
  ⟨(some 8), .new [.d (.int .i64 0), .d (.bool false), .d (.int .i64 0), .d (.int .i64 0), .d (.str []), .nils], none⟩,
  ⟨none, .st 6 (.t 7) (.t 36), none⟩,
  ⟨none, .st 6 (.t 8) (.t 39), none⟩] [(2, 3), (2, 4), (0, 5), (1, 5), (0, 6), (1, 6), (2, 6), (3, 6), (4, 6), (5, 6), (0, 7), (1, 7), (2, 7), (3, 7), (4, 7), (5, 7), (6, 7), (3, 8), (4, 8)])
(.seq (.seq (.rg [⟨(some 40), .fad (.t 7) 0, none⟩,
  ⟨(some 41), .ld none (.t 40), none⟩,
  ⟨(some 42), .fad (.t 8) 0, none⟩,
  ⟨(some 43), .ld none (.t 42), none⟩,
  ⟨(some 44), .bin .neq (.t 41) (.t 43), none⟩,
  ⟨(some 45), .mv (.t 44), none⟩,
  ⟨(some 46), .fad (.t 7) 0, some (45, false)⟩,
  ⟨(some 47), .ld none (.t 46), some (45, false)⟩,
  ⟨(some 48), .bin .eql (.t 47) (.k (.d (.int .i64 1))), some (45, false)⟩,
  ⟨(some 49), .mv (.t 48), some (45, false)⟩,
  ⟨(some 50), .fad (.t 7) 1, some (49, true)⟩,
  ⟨(some 51), .ld none (.t 50), some (49, true)⟩,
  ⟨(some 52), .fad (.t 8) 1, some (49, true)⟩,
  ⟨(some 53), .ld none (.t 52), some (49, true)⟩,
  ⟨(some 54), .eqb false (.t 51) (.t 53), some (49, true)⟩,
  ⟨(some 55), .pick (.t 49) (.t 54) (.k (.d (.bool false))), some (45, false)⟩,
  ⟨(some 56), .pick (.t 45) (.k (.d (.bool true))) (.t 55), none⟩])
(.cond (.t 56)
  (.seq (.rg [⟨(some 6), .mv (.k (.d (.bool false))), none⟩])
  .ret)
  .skip))
(.seq (.rd [⟨(some 57), .mv (.t 0), none⟩,
  ⟨(some 58), .ld (some 6) (.t 4), none⟩,
  ⟨(some 59), .ld (some 6) (.t 5), none⟩,
  ⟨(some 60), .call (.k (.fn 17 [])) [(.t 57), (.t 58), (.t 59)], none⟩,
  ⟨(some 61), .mv (.t 0), none⟩,
  ⟨(some 62), .ld (some 6) (.t 4), none⟩,
  ⟨(some 63), .ld (some 6) (.t 5), none⟩,
  ⟨(some 64), .call (.k (.fn 18 [])) [(.t 61), (.t 62), (.t 63)], none⟩,
  ⟨(some 65), .call (.k (.fn 13 [])) [(.t 60), (.t 64)], none⟩,
  ⟨(some 66), .mv (.t 65), none⟩,
  ⟨(some 67), .ld (some 6) (.t 4), some (66, true)⟩,
  ⟨(some 68), .ld (some 6) (.t 5), some (66, true)⟩,
  ⟨(some 69), .call (.k (.fn 17 [])) [(.k (.d (.str [61]))), (.t 67), (.t 68)], some (66, true)⟩,
  ⟨(some 70), .fld none 1 (.t 69), some (66, true)⟩,
  ⟨(some 71), .ld (some 6) (.t 4), some (66, true)⟩,
  ⟨(some 72), .ld (some 6) (.t 5), some (66, true)⟩,
  ⟨(some 73), .call (.k (.fn 17 [])) [(.k (.d (.str [33, 61]))), (.t 71), (.t 72)], some (66, true)⟩,
  ⟨(some 74), .fld none 1 (.t 73), some (66, true)⟩,
  ⟨(some 75), .un .not (.t 74), some (66, true)⟩,
  ⟨(some 76), .eqb false (.t 70) (.t 75), some (66, true)⟩,
  ⟨(some 77), .pick (.t 66) (.t 76) (.k (.d (.bool false))), none⟩,
  ⟨(some 78), .mv (.t 77), none⟩,
  ⟨(some 79), .call (.k (.fn 15 [])) [], some (78, true)⟩,
  ⟨(some 80), .pick (.t 78) (.t 79) (.k (.d (.bool false))), none⟩,
  ⟨(some 6), .mv (.t 80), none⟩] [(3, 5), (3, 6), (1, 7), (2, 7), (1, 8), (2, 8), (5, 8), (6, 8), (3, 10), (7, 10), (8, 10), (3, 11), (7, 11), (8, 11), (1, 12), (2, 12), (3, 12), (5, 12), (6, 12), (7, 12), (8, 12), (3, 14), (7, 14), (8, 14), (12, 14), (3, 15), (7, 15), (8, 15), (12, 15), (1, 16), (2, 16), (3, 16), (5, 16), (6, 16), (7, 16), (8, 16), (10, 16), (11, 16), (1, 22), (2, 22), (3, 22), (5, 22), (6, 22), (7, 22), (8, 22), (10, 22), (11, 22), (12, 22), (14, 22), (15, 22), (16, 22)])
.ret))))) }
theorem af5_ok : cFun Tryz.prog eqT Tryz.f5 = some af5 := by kernel_rfl
/-- dossier/dossierlaw6.EvalIfs -/
noncomputable def af6 : AFun := { np := 3, nt := 100, res := [.t 6], code :=
(.seq (.rg [⟨(some 3), .box (.t 0), none⟩,
  ⟨(some 6), .mv (.k (.d (.bool false))), none⟩])
(.seq (.seq (.rg [⟨(some 15), .fad (.t 3) 5, none⟩,
  ⟨(some 16), .ld none (.t 15), none⟩,
  ⟨(some 17), .lenq false (.t 16), none⟩,
  ⟨(some 18), .bin .gtr (.t 17) (.k (.d (.int .i64 20))), none⟩,
  ⟨(some 19), .mv (.t 18), none⟩,
  ⟨(some 20), .ld (some 6) (.t 3), some (19, false)⟩,
  ⟨(some 21), .call (.k (.fn 14 [])) [(.t 20)], some (19, false)⟩,
  ⟨(some 22), .un .not (.t 21), some (19, false)⟩,
  ⟨(some 23), .pick (.t 19) (.k (.d (.bool true))) (.t 22), none⟩,
  ⟨(some 24), .mv (.t 23), none⟩,
  ⟨(some 25), .mv (.t 1), some (24, false)⟩,
  ⟨(some 26), .bin .lss (.t 25) (.k (.d (.int .i64 0))), some (24, false)⟩,
  ⟨(some 27), .pick (.t 24) (.k (.d (.bool true))) (.t 26), none⟩,
  ⟨(some 28), .mv (.t 27), none⟩,
  ⟨(some 29), .mv (.t 1), some (28, false)⟩,
  ⟨(some 30), .bin .gtr (.t 29) (.k (.d (.int .i64 1000))), some (28, false)⟩,
  ⟨(some 31), .pick (.t 28) (.k (.d (.bool true))) (.t 30), none⟩,
  ⟨(some 32), .mv (.t 31), none⟩,
  ⟨(some 33), .mv (.t 2), some (32, false)⟩,
  ⟨(some 34), .bin .lss (.t 33) (.k (.d (.int .i64 0))), some (32, false)⟩,
  ⟨(some 35), .pick (.t 32) (.k (.d (.bool true))) (.t 34), none⟩,
  ⟨(some 36), .mv (.t 35), none⟩,
  ⟨(some 37), .mv (.t 2), some (36, false)⟩,
  ⟨(some 38), .bin .gtr (.t 37) (.k (.d (.int .i64 1000))), some (36, false)⟩,
  ⟨(some 39), .pick (.t 36) (.k (.d (.bool true))) (.t 38), none⟩])
(.cond (.t 39)
  (.seq (.rg [⟨(some 6), .mv (.k (.d (.bool true))), none⟩])
  .ret)
  .skip))
(.seq (.rg [⟨(some 40), .build [.int .i64 0, .bool false, .int .i64 0, .int .i64 0, .str [], .bool false, .bool false, .sl []] [(0, 1, (.k (.d (.int .i64 77))))], none⟩,
  ⟨(some 7), .new [.d (.int .i64 0), .d (.bool false), .d (.int .i64 0), .d (.int .i64 0), .d (.str []), .d (.bool false), .d (.bool false), .nils], none⟩,
  ⟨none, .st 8 (.t 7) (.t 40), none⟩])
(.seq (.rg [⟨(some 41), .mv (.t 1), none⟩,
  ⟨(some 42), .build [.int .i64 0, .int .i64 0] [(0, 1, (.t 41))], none⟩,
  ⟨(some 43), .build [.int .i64 0, .bool false, .int .i64 0, .int .i64 0, .str [], .bool false, .bool false, .sl []] [(0, 1, (.k (.d (.int .i64 3)))), (2, 2, (.t 42))], none⟩,
  ⟨(some 8), .new [.d (.int .i64 0), .d (.bool false), .d (.int .i64 0), .d (.int .i64 0), .d (.str []), .d (.bool false), .d (.bool false), .nils], none⟩,
  ⟨none, .st 8 (.t 8) (.t 43), none⟩])
(.seq (.rg [⟨(some 44), .ld (some 6) (.t 3), none⟩,
  ⟨(some 45), .build [.str [], .int .i64 0, .bool false, .int .i64 0, .int .i64 0, .str [], .sl []] [(0, 1, (.k (.d (.str [99])))), (1, 6, (.t 44))], none⟩,
  ⟨(some 46), .mkrow 48 7 [(.t 45)], none⟩,
  ⟨(some 9), .mv (.t 46), none⟩])
(.seq (.rg [⟨(some 47), .build [.int .i64 0, .bool false, .int .i64 0, .int .i64 0, .str [], .bool false, .bool false, .sl []] [(0, 1, (.k (.d (.int .i64 5)))), (4, 1, (.k (.d (.str [99]))))], none⟩,
  ⟨(some 10), .new [.d (.int .i64 0), .d (.bool false), .d (.int .i64 0), .d (.int .i64 0), .d (.str []), .d (.bool false), .d (.bool false), .nils], none⟩,
  ⟨none, .st 8 (.t 10) (.t 47), none⟩])
(.seq (.rg [⟨(some 49), .ld (some 8) (.t 10), none⟩,
  ⟨(some 50), .ld (some 8) (.t 8), none⟩,
  ⟨(some 51), .ld (some 8) (.t 7), none⟩,
  ⟨(some 52), .mkrow 26 8 [(.t 49), (.t 50), (.t 51)], none⟩,
  ⟨(some 53), .build [.int .i64 0, .bool false, .int .i64 0, .int .i64 0, .str [], .bool false, .bool false, .sl []] [(0, 1, (.k (.d (.int .i64 8)))), (7, 1, (.t 52))], none⟩,
  ⟨(some 54), .mv (.t 9), none⟩,
  ⟨(some 55), .call (.k (.fn 11 [])) [(.t 53), (.t 54)], none⟩,
  ⟨(some 48), .mv (.t 55), none⟩,
  ⟨(some 56), .ext (.t 48) 0, none⟩,
  ⟨(some 57), .ext (.t 48) 1, none⟩,
  ⟨(some 11), .new [.d (.int .i64 0), .d (.bool false), .d (.int .i64 0), .d (.int .i64 0), .d (.str []), .nils], none⟩,
  ⟨none, .st 6 (.t 11) (.t 56), none⟩,
  ⟨(some 12), .mv (.t 57), none⟩])
(.seq (.rg [⟨(some 59), .ld (some 8) (.t 10), none⟩,
  ⟨(some 60), .ld (some 8) (.t 7), none⟩,
  ⟨(some 61), .ld (some 8) (.t 8), none⟩,
  ⟨(some 62), .mkrow 26 8 [(.t 59), (.t 60), (.t 61)], none⟩,
  ⟨(some 63), .build [.int .i64 0, .bool false, .int .i64 0, .int .i64 0, .str [], .bool false, .bool false, .sl []] [(0, 1, (.k (.d (.int .i64 8)))), (7, 1, (.t 62))], none⟩,
  ⟨(some 64), .mv (.t 9), none⟩,
  ⟨(some 65), .call (.k (.fn 11 [])) [(.t 63), (.t 64)], none⟩,
  ⟨(some 58), .mv (.t 65), none⟩,
  ⟨(some 66), .ext (.t 58) 0, none⟩,
  ⟨(some 67), .ext (.t 58) 1, none⟩,
  ⟨(some 13), .new [.d (.int .i64 0), .d (.bool false), .d (.int .i64 0), .d (.int .i64 0), .d (.str []), .nils], none⟩,
  ⟨none, .st 6 (.t 13) (.t 66), none⟩,
  ⟨(some 14), .mv (.t 67), none⟩])
(.seq (.seq (.rg [⟨(some 68), .ld (some 6) (.t 3), none⟩,
  ⟨(some 69), .call (.k (.fn 19 [])) [(.t 68)], none⟩])
(.cond (.t 69)
  (.seq (.rd [⟨(some 70), .mv (.t 12), none⟩,
    ⟨(some 71), .bin .eql (.t 70) (.k (.d (.int .i64 0))), none⟩,
    ⟨(some 72), .mv (.t 71), none⟩,
    ⟨(some 73), .ld (some 6) (.t 11), some (72, true)⟩,
    ⟨(some 74), .mv (.t 1), some (72, true)⟩,
    ⟨(some 75), .call (.k (.fn 20 [])) [(.t 74)], some (72, true)⟩,
    ⟨(some 76), .call (.k (.fn 13 [])) [(.t 73), (.t 75)], some (72, true)⟩,
    ⟨(some 77), .pick (.t 72) (.t 76) (.k (.d (.bool false))), none⟩,
    ⟨(some 78), .mv (.t 77), none⟩,
    ⟨(some 79), .mv (.t 14), some (78, true)⟩,
    ⟨(some 80), .bin .eql (.t 79) (.k (.d (.int .i64 1))), some (78, true)⟩,
    ⟨(some 81), .pick (.t 78) (.t 80) (.k (.d (.bool false))), none⟩,
    ⟨(some 82), .mv (.t 81), none⟩,
    ⟨(some 83), .call (.k (.fn 15 [])) [], some (82, true)⟩,
    ⟨(some 84), .pick (.t 82) (.t 83) (.k (.d (.bool false))), none⟩,
    ⟨(some 6), .mv (.t 84), none⟩] [(3, 5), (3, 13), (5, 13), (6, 13)])
  .ret)
  .skip))
(.seq (.rd [⟨(some 85), .mv (.t 14), none⟩,
  ⟨(some 86), .bin .eql (.t 85) (.k (.d (.int .i64 0))), none⟩,
  ⟨(some 87), .mv (.t 86), none⟩,
  ⟨(some 88), .ld (some 6) (.t 13), some (87, true)⟩,
  ⟨(some 89), .mv (.t 1), some (87, true)⟩,
  ⟨(some 90), .call (.k (.fn 20 [])) [(.t 89)], some (87, true)⟩,
  ⟨(some 91), .call (.k (.fn 13 [])) [(.t 88), (.t 90)], some (87, true)⟩,
  ⟨(some 92), .pick (.t 87) (.t 91) (.k (.d (.bool false))), none⟩,
  ⟨(some 93), .mv (.t 92), none⟩,
  ⟨(some 94), .mv (.t 12), some (93, true)⟩,
  ⟨(some 95), .bin .eql (.t 94) (.k (.d (.int .i64 1))), some (93, true)⟩,
  ⟨(some 96), .pick (.t 93) (.t 95) (.k (.d (.bool false))), none⟩,
  ⟨(some 97), .mv (.t 96), none⟩,
  ⟨(some 98), .call (.k (.fn 15 [])) [], some (97, true)⟩,
  ⟨(some 99), .pick (.t 97) (.t 98) (.k (.d (.bool false))), none⟩,
  ⟨(some 6), .mv (.t 99), none⟩] [(3, 5), (3, 13), (5, 13), (6, 13)])
.ret)))))))))) }
theorem af6_ok : cFun Tryz.prog eqT Tryz.f6 = some af6 := by kernel_rfl
/-- dossier/dossierlaw6.EvalNames -/
noncomputable def af7 : AFun := { np := 2, nt := 60, res := [.t 4], code :=
(.seq (.rg [⟨(some 4), .mv (.k (.d (.bool false))), none⟩])
(.seq (.seq (.rg [⟨(some 8), .mv (.t 0), none⟩,
  ⟨(some 9), .call (.k (.fn 10 [])) [(.t 8)], none⟩,
  ⟨(some 10), .un .not (.t 9), none⟩,
  ⟨(some 11), .mv (.t 10), none⟩,
  ⟨(some 12), .mv (.t 1), some (11, false)⟩,
  ⟨(some 13), .lenq true (.t 12), some (11, false)⟩,
  ⟨(some 14), .bin .gtr (.t 13) (.k (.d (.int .i64 50))), some (11, false)⟩,
  ⟨(some 15), .pick (.t 11) (.k (.d (.bool true))) (.t 14), none⟩])
(.cond (.t 15)
  (.seq (.rg [⟨(some 4), .mv (.k (.d (.bool true))), none⟩])
  .ret)
  .skip))
(.seq (.rg [⟨(some 17), .mv (.t 1), none⟩,
  ⟨(some 18), .build [.int .i64 0, .bool false, .int .i64 0, .int .i64 0, .str [], .bool false, .bool false, .sl []] [(0, 1, (.k (.d (.int .i64 5)))), (4, 1, (.t 17))], none⟩,
  ⟨(some 19), .mv (.t 0), none⟩,
  ⟨(some 20), .call (.k (.fn 11 [])) [(.t 18), (.t 19)], none⟩,
  ⟨(some 16), .mv (.t 20), none⟩,
  ⟨(some 21), .ext (.t 16) 0, none⟩,
  ⟨(some 22), .ext (.t 16) 1, none⟩,
  ⟨(some 5), .new [.d (.int .i64 0), .d (.bool false), .d (.int .i64 0), .d (.int .i64 0), .d (.str []), .nils], none⟩,
  ⟨none, .st 6 (.t 5) (.t 21), none⟩,
  ⟨(some 6), .mv (.t 22), none⟩])
(.seq (.seq (.rg [⟨(some 7), .mv (.k (.d (.int .i64 0))), none⟩])
(.block 0
  (.loop
    (.seq (.seq (.rg [⟨(some 23), .mv (.t 7), none⟩,
      ⟨(some 24), .mv (.t 0), none⟩,
      ⟨(some 25), .lenq false (.t 24), none⟩,
      ⟨(some 26), .bin .lss (.t 23) (.t 25), none⟩])
    (.cond (.t 26)
      .skip
      (.exit 0)))
    (.seq (.block 1
      (.seq (.rg [⟨(some 29), .mv (.t 0), none⟩,
        ⟨(some 30), .mv (.t 7), none⟩,
        ⟨(some 31), .iad 7 (.t 29) (.t 30), none⟩,
        ⟨(some 32), .fad (.t 31) 0, none⟩,
        ⟨(some 33), .ld none (.t 32), none⟩,
        ⟨(some 34), .mv (.t 1), none⟩,
        ⟨(some 35), .bin .eql (.t 33) (.t 34), none⟩])
      (.cond (.t 35)
        (.seq (.rd [⟨(some 36), .mv (.t 6), none⟩,
          ⟨(some 37), .bin .eql (.t 36) (.k (.d (.int .i64 0))), none⟩,
          ⟨(some 38), .mv (.t 37), none⟩,
          ⟨(some 39), .ld (some 6) (.t 5), some (38, true)⟩,
          ⟨(some 40), .mv (.t 0), some (38, true)⟩,
          ⟨(some 41), .mv (.t 7), some (38, true)⟩,
          ⟨(some 42), .iad 7 (.t 40) (.t 41), some (38, true)⟩,
          ⟨(some 43), .fad (.t 42) 1, some (38, true)⟩,
          ⟨(some 44), .ld (some 6) (.t 43), some (38, true)⟩,
          ⟨(some 45), .call (.k (.fn 13 [])) [(.t 39), (.t 44)], some (38, true)⟩,
          ⟨(some 46), .pick (.t 38) (.t 45) (.k (.d (.bool false))), none⟩,
          ⟨(some 47), .mv (.t 46), none⟩,
          ⟨(some 48), .call (.k (.fn 15 [])) [], some (47, true)⟩,
          ⟨(some 49), .pick (.t 47) (.t 48) (.k (.d (.bool false))), none⟩,
          ⟨(some 4), .mv (.t 49), none⟩] [(3, 12), (8, 12), (9, 12)])
        .ret)
        .skip)))
    (.rg [⟨(some 27), .mv (.t 7), none⟩,
      ⟨(some 28), .bin .add (.t 27) (.k (.d (.int .i64 1))), none⟩,
      ⟨(some 7), .mv (.t 28), none⟩]))))))
(.seq (.rg [⟨(some 50), .mv (.t 6), none⟩,
  ⟨(some 51), .bin .eql (.t 50) (.k (.d (.int .i64 0))), none⟩,
  ⟨(some 52), .mv (.t 51), none⟩,
  ⟨(some 53), .fad (.t 5) 0, some (52, true)⟩,
  ⟨(some 54), .ld none (.t 53), some (52, true)⟩,
  ⟨(some 55), .bin .eql (.t 54) (.k (.d (.int .i64 0))), some (52, true)⟩,
  ⟨(some 56), .pick (.t 52) (.t 55) (.k (.d (.bool false))), none⟩,
  ⟨(some 57), .mv (.t 56), none⟩,
  ⟨(some 58), .call (.k (.fn 15 [])) [], some (57, true)⟩,
  ⟨(some 59), .pick (.t 57) (.t 58) (.k (.d (.bool false))), none⟩,
  ⟨(some 4), .mv (.t 59), none⟩])
.ret))))) }
theorem af7_ok : cFun Tryz.prog eqT Tryz.f7 = some af7 := by kernel_rfl
/-- dossier/dossierlaw6.EvalCats -/
noncomputable def af8 : AFun := { np := 2, nt := 116, res := [.t 4], code :=
(.seq (.rg [⟨(some 4), .mv (.k (.d (.bool false))), none⟩])
(.seq (.rg [⟨(some 14), .mv (.t 0), none⟩,
  ⟨(some 15), .build [.int .i64 0, .bool false, .int .i64 0, .int .i64 0, .str [], .sl []] [(0, 1, (.k (.d (.int .i64 3)))), (4, 1, (.t 14))], none⟩,
  ⟨(some 16), .mv (.t 1), none⟩,
  ⟨(some 17), .build [.int .i64 0, .bool false, .int .i64 0, .int .i64 0, .str [], .sl []] [(0, 1, (.k (.d (.int .i64 3)))), (4, 1, (.t 16))], none⟩,
  ⟨(some 5), .new [.d (.int .i64 0), .d (.bool false), .d (.int .i64 0), .d (.int .i64 0), .d (.str []), .nils], none⟩,
  ⟨(some 6), .new [.d (.int .i64 0), .d (.bool false), .d (.int .i64 0), .d (.int .i64 0), .d (.str []), .nils], none⟩,
  ⟨none, .st 6 (.t 5) (.t 15), none⟩,
  ⟨none, .st 6 (.t 6) (.t 17), none⟩])
(.seq (.seq (.rg [⟨(some 18), .mv (.t 0), none⟩,
  ⟨(some 19), .lenq true (.t 18), none⟩,
  ⟨(some 20), .mv (.t 1), none⟩,
  ⟨(some 21), .lenq true (.t 20), none⟩,
  ⟨(some 22), .bin .add (.t 19) (.t 21), none⟩,
  ⟨(some 23), .bin .gtr (.t 22) (.k (.d (.int .i64 100))), none⟩,
  ⟨(some 24), .mv (.t 23), none⟩,
  ⟨(some 25), .ld (some 6) (.t 5), some (24, false)⟩,
  ⟨(some 26), .call (.k (.fn 14 [])) [(.t 25)], some (24, false)⟩,
  ⟨(some 27), .un .not (.t 26), some (24, false)⟩,
  ⟨(some 28), .pick (.t 24) (.k (.d (.bool true))) (.t 27), none⟩,
  ⟨(some 29), .mv (.t 28), none⟩,
  ⟨(some 30), .ld (some 6) (.t 6), some (29, false)⟩,
  ⟨(some 31), .call (.k (.fn 14 [])) [(.t 30)], some (29, false)⟩,
  ⟨(some 32), .un .not (.t 31), some (29, false)⟩,
  ⟨(some 33), .pick (.t 29) (.k (.d (.bool true))) (.t 32), none⟩])
(.cond (.t 33)
  (.seq (.rg [⟨(some 4), .mv (.k (.d (.bool true))), none⟩])
  .ret)
  .skip))
(.seq (.rg [⟨(some 34), .ld (some 6) (.t 5), none⟩,
  ⟨(some 35), .build [.str [], .int .i64 0, .bool false, .int .i64 0, .int .i64 0, .str [], .sl []] [(0, 1, (.k (.d (.str [97])))), (1, 6, (.t 34))], none⟩,
  ⟨(some 36), .ld (some 6) (.t 6), none⟩,
  ⟨(some 37), .build [.str [], .int .i64 0, .bool false, .int .i64 0, .int .i64 0, .str [], .sl []] [(0, 1, (.k (.d (.str [98])))), (1, 6, (.t 36))], none⟩,
  ⟨(some 38), .mkrow 48 7 [(.t 35), (.t 37)], none⟩,
  ⟨(some 7), .mv (.t 38), none⟩])
(.seq (.rg [⟨(some 40), .mv (.t 7), none⟩,
  ⟨(some 41), .call (.k (.fn 21 [])) [(.k (.d (.str [97, 32, 43, 32, 98]))), (.t 40)], none⟩,
  ⟨(some 39), .mv (.t 41), none⟩,
  ⟨(some 42), .ext (.t 39) 0, none⟩,
  ⟨(some 43), .ext (.t 39) 1, none⟩,
  ⟨(some 8), .new [.d (.int .i64 0), .d (.bool false), .d (.int .i64 0), .d (.int .i64 0), .d (.str []), .nils], none⟩,
  ⟨none, .st 6 (.t 8) (.t 42), none⟩,
  ⟨(some 9), .mv (.t 43), none⟩])
(.seq (.rg [⟨(some 45), .mv (.t 7), none⟩,
  ⟨(some 46), .call (.k (.fn 21 [])) [(.k (.d (.str [99, 97, 116, 40, 97, 44, 32, 98, 41]))), (.t 45)], none⟩,
  ⟨(some 44), .mv (.t 46), none⟩,
  ⟨(some 47), .ext (.t 44) 0, none⟩,
  ⟨(some 48), .ext (.t 44) 1, none⟩,
  ⟨(some 10), .new [.d (.int .i64 0), .d (.bool false), .d (.int .i64 0), .d (.int .i64 0), .d (.str []), .nils], none⟩,
  ⟨none, .st 6 (.t 10) (.t 47), none⟩,
  ⟨(some 11), .mv (.t 48), none⟩])
(.seq (.rg [⟨(some 50), .mv (.t 7), none⟩,
  ⟨(some 51), .call (.k (.fn 21 [])) [(.k (.d (.str [108, 101, 110, 40, 97, 41]))), (.t 50)], none⟩,
  ⟨(some 49), .mv (.t 51), none⟩,
  ⟨(some 52), .ext (.t 49) 0, none⟩,
  ⟨(some 53), .ext (.t 49) 1, none⟩,
  ⟨(some 12), .new [.d (.int .i64 0), .d (.bool false), .d (.int .i64 0), .d (.int .i64 0), .d (.str []), .nils], none⟩,
  ⟨none, .st 6 (.t 12) (.t 52), none⟩,
  ⟨(some 13), .mv (.t 53), none⟩])
(.seq (.seq (.rd [⟨(some 54), .mv (.t 13), none⟩,
  ⟨(some 55), .bin .neq (.t 54) (.k (.d (.int .i64 0))), none⟩,
  ⟨(some 56), .mv (.t 55), none⟩,
  ⟨(some 57), .ld (some 6) (.t 12), some (56, false)⟩,
  ⟨(some 58), .mv (.t 0), some (56, false)⟩,
  ⟨(some 59), .lenq true (.t 58), some (56, false)⟩,
  ⟨(some 60), .call (.k (.fn 20 [])) [(.t 59)], some (56, false)⟩,
  ⟨(some 61), .call (.k (.fn 13 [])) [(.t 57), (.t 60)], some (56, false)⟩,
  ⟨(some 62), .un .not (.t 61), some (56, false)⟩,
  ⟨(some 63), .pick (.t 56) (.k (.d (.bool true))) (.t 62), none⟩] [(3, 6)])
(.cond (.t 63)
  (.seq (.rg [⟨(some 4), .mv (.k (.d (.bool false))), none⟩])
  .ret)
  .skip))
(.seq (.seq (.rg [⟨(some 64), .mv (.t 0), none⟩,
  ⟨(some 65), .lenq true (.t 64), none⟩,
  ⟨(some 66), .mv (.t 1), none⟩,
  ⟨(some 67), .lenq true (.t 66), none⟩,
  ⟨(some 68), .bin .add (.t 65) (.t 67), none⟩,
  ⟨(some 69), .bin .gtr (.t 68) (.k (.d (.int .i64 16))), none⟩])
(.cond (.t 69)
  (.seq (.rg [⟨(some 70), .mv (.t 9), none⟩,
    ⟨(some 71), .bin .eql (.t 70) (.k (.d (.int .i64 3))), none⟩,
    ⟨(some 72), .mv (.t 71), none⟩,
    ⟨(some 73), .mv (.t 11), some (72, true)⟩,
    ⟨(some 74), .bin .eql (.t 73) (.k (.d (.int .i64 3))), some (72, true)⟩,
    ⟨(some 75), .pick (.t 72) (.t 74) (.k (.d (.bool false))), none⟩,
    ⟨(some 76), .mv (.t 75), none⟩,
    ⟨(some 77), .fad (.t 8) 0, some (76, true)⟩,
    ⟨(some 78), .ld none (.t 77), some (76, true)⟩,
    ⟨(some 79), .bin .eql (.t 78) (.k (.d (.int .i64 0))), some (76, true)⟩,
    ⟨(some 80), .pick (.t 76) (.t 79) (.k (.d (.bool false))), none⟩,
    ⟨(some 81), .mv (.t 80), none⟩,
    ⟨(some 82), .fad (.t 10) 0, some (81, true)⟩,
    ⟨(some 83), .ld none (.t 82), some (81, true)⟩,
    ⟨(some 84), .bin .eql (.t 83) (.k (.d (.int .i64 0))), some (81, true)⟩,
    ⟨(some 85), .pick (.t 81) (.t 84) (.k (.d (.bool false))), none⟩,
    ⟨(some 86), .mv (.t 85), none⟩,
    ⟨(some 87), .call (.k (.fn 15 [])) [], some (86, true)⟩,
    ⟨(some 88), .pick (.t 86) (.t 87) (.k (.d (.bool false))), none⟩,
    ⟨(some 4), .mv (.t 88), none⟩])
  .ret)
  .skip))
(.seq (.rg [⟨(some 89), .mv (.t 9), none⟩,
  ⟨(some 90), .bin .eql (.t 89) (.k (.d (.int .i64 0))), none⟩,
  ⟨(some 91), .mv (.t 90), none⟩,
  ⟨(some 92), .mv (.t 11), some (91, true)⟩,
  ⟨(some 93), .bin .eql (.t 92) (.k (.d (.int .i64 0))), some (91, true)⟩,
  ⟨(some 94), .pick (.t 91) (.t 93) (.k (.d (.bool false))), none⟩,
  ⟨(some 95), .mv (.t 94), none⟩,
  ⟨(some 96), .fad (.t 8) 0, some (95, true)⟩,
  ⟨(some 97), .ld none (.t 96), some (95, true)⟩,
  ⟨(some 98), .bin .eql (.t 97) (.k (.d (.int .i64 3))), some (95, true)⟩,
  ⟨(some 99), .pick (.t 95) (.t 98) (.k (.d (.bool false))), none⟩,
  ⟨(some 100), .mv (.t 99), none⟩,
  ⟨(some 101), .fad (.t 8) 4, some (100, true)⟩,
  ⟨(some 102), .ld none (.t 101), some (100, true)⟩,
  ⟨(some 103), .mv (.t 0), some (100, true)⟩,
  ⟨(some 104), .mv (.t 1), some (100, true)⟩,
  ⟨(some 105), .bin .add (.t 103) (.t 104), some (100, true)⟩,
  ⟨(some 106), .bin .eql (.t 102) (.t 105), some (100, true)⟩,
  ⟨(some 107), .pick (.t 100) (.t 106) (.k (.d (.bool false))), none⟩,
  ⟨(some 108), .mv (.t 107), none⟩,
  ⟨(some 109), .ld (some 6) (.t 8), some (108, true)⟩,
  ⟨(some 110), .ld (some 6) (.t 10), some (108, true)⟩,
  ⟨(some 111), .call (.k (.fn 13 [])) [(.t 109), (.t 110)], some (108, true)⟩,
  ⟨(some 112), .pick (.t 108) (.t 111) (.k (.d (.bool false))), none⟩,
  ⟨(some 113), .mv (.t 112), none⟩,
  ⟨(some 114), .call (.k (.fn 15 [])) [], some (113, true)⟩,
  ⟨(some 115), .pick (.t 113) (.t 114) (.k (.d (.bool false))), none⟩,
  ⟨(some 4), .mv (.t 115), none⟩])
.ret)))))))))) }
theorem af8_ok : cFun Tryz.prog eqT Tryz.f8 = some af8 := by kernel_rfl
/-- dossier/dossierlaw6.size -/
noncomputable def af9 : AFun := { np := 1, nt := 33, res := [.t 2], code :=
(.seq (.rg [⟨(some 1), .box (.t 0), none⟩,
  ⟨(some 2), .mv (.k (.d (.int .i64 0))), none⟩])
(.seq (.rg [⟨(some 5), .fad (.t 1) 4, none⟩,
  ⟨(some 6), .ld none (.t 5), none⟩,
  ⟨(some 7), .lenq true (.t 6), none⟩,
  ⟨(some 8), .bin .add (.k (.d (.int .i64 1))) (.t 7), none⟩,
  ⟨(some 9), .fad (.t 1) 7, none⟩,
  ⟨(some 10), .ld none (.t 9), none⟩,
  ⟨(some 11), .lenq false (.t 10), none⟩,
  ⟨(some 12), .bin .add (.t 8) (.t 11), none⟩,
  ⟨(some 3), .mv (.t 12), none⟩])
(.seq (.seq (.rg [⟨(some 4), .mv (.k (.d (.int .i64 0))), none⟩])
(.block 0
  (.loop
    (.seq (.seq (.rg [⟨(some 13), .mv (.t 4), none⟩,
      ⟨(some 14), .fad (.t 1) 7, none⟩,
      ⟨(some 15), .ld none (.t 14), none⟩,
      ⟨(some 16), .lenq false (.t 15), none⟩,
      ⟨(some 17), .bin .lss (.t 13) (.t 16), none⟩,
      ⟨(some 18), .mv (.t 17), none⟩,
      ⟨(some 19), .mv (.t 3), some (18, true)⟩,
      ⟨(some 20), .bin .lss (.t 19) (.k (.d (.int .i64 400))), some (18, true)⟩,
      ⟨(some 21), .pick (.t 18) (.t 20) (.k (.d (.bool false))), none⟩])
    (.cond (.t 21)
      .skip
      (.exit 0)))
    (.seq (.block 1
      (.rg [⟨(some 24), .mv (.t 3), none⟩,
        ⟨(some 25), .fad (.t 1) 7, none⟩,
        ⟨(some 26), .ld none (.t 25), none⟩,
        ⟨(some 27), .mv (.t 4), none⟩,
        ⟨(some 28), .iad 8 (.t 26) (.t 27), none⟩,
        ⟨(some 29), .ld (some 8) (.t 28), none⟩,
        ⟨(some 30), .call (.k (.fn 9 [])) [(.t 29)], none⟩,
        ⟨(some 31), .bin .add (.t 24) (.t 30), none⟩,
        ⟨(some 3), .mv (.t 31), none⟩]))
    (.rg [⟨(some 22), .mv (.t 4), none⟩,
      ⟨(some 23), .bin .add (.t 22) (.k (.d (.int .i64 1))), none⟩,
      ⟨(some 4), .mv (.t 23), none⟩]))))))
(.seq (.rg [⟨(some 32), .mv (.t 3), none⟩,
  ⟨(some 2), .mv (.t 32), none⟩])
.ret)))) }
theorem af9_ok : cFun Tryz.prog eqT Tryz.f9 = some af9 := by kernel_rfl
/-- dossier/dossierlaw6.may -/
noncomputable def af10 : AFun := { np := 1, nt := 39, res := [.t 2], code :=
(.seq (.rg [⟨(some 2), .mv (.k (.d (.bool false))), none⟩])
(.seq (.seq (.rg [⟨(some 4), .mv (.t 0), none⟩,
  ⟨(some 5), .lenq false (.t 4), none⟩,
  ⟨(some 6), .bin .gtr (.t 5) (.k (.d (.int .i64 20))), none⟩])
(.cond (.t 6)
  (.seq (.rg [⟨(some 2), .mv (.k (.d (.bool false))), none⟩])
  .ret)
  .skip))
(.seq (.seq (.rg [⟨(some 3), .mv (.k (.d (.int .i64 0))), none⟩])
(.block 0
  (.loop
    (.seq (.seq (.rg [⟨(some 7), .mv (.t 3), none⟩,
      ⟨(some 8), .mv (.t 0), none⟩,
      ⟨(some 9), .lenq false (.t 8), none⟩,
      ⟨(some 10), .bin .lss (.t 7) (.t 9), none⟩])
    (.cond (.t 10)
      .skip
      (.exit 0)))
    (.seq (.block 1
      (.seq (.rg [⟨(some 13), .mv (.t 0), none⟩,
        ⟨(some 14), .mv (.t 3), none⟩,
        ⟨(some 15), .iad 7 (.t 13) (.t 14), none⟩,
        ⟨(some 16), .fad (.t 15) 0, none⟩,
        ⟨(some 17), .ld none (.t 16), none⟩,
        ⟨(some 18), .lenq true (.t 17), none⟩,
        ⟨(some 19), .bin .gtr (.t 18) (.k (.d (.int .i64 50))), none⟩,
        ⟨(some 20), .mv (.t 19), none⟩,
        ⟨(some 21), .mv (.t 0), some (20, false)⟩,
        ⟨(some 22), .mv (.t 3), some (20, false)⟩,
        ⟨(some 23), .iad 7 (.t 21) (.t 22), some (20, false)⟩,
        ⟨(some 24), .fad (.t 23) 1, some (20, false)⟩,
        ⟨(some 25), .fad (.t 24) 5, some (20, false)⟩,
        ⟨(some 26), .ld none (.t 25), some (20, false)⟩,
        ⟨(some 27), .lenq false (.t 26), some (20, false)⟩,
        ⟨(some 28), .bin .gtr (.t 27) (.k (.d (.int .i64 20))), some (20, false)⟩,
        ⟨(some 29), .pick (.t 20) (.k (.d (.bool true))) (.t 28), none⟩,
        ⟨(some 30), .mv (.t 29), none⟩,
        ⟨(some 31), .mv (.t 0), some (30, false)⟩,
        ⟨(some 32), .mv (.t 3), some (30, false)⟩,
        ⟨(some 33), .iad 7 (.t 31) (.t 32), some (30, false)⟩,
        ⟨(some 34), .fad (.t 33) 1, some (30, false)⟩,
        ⟨(some 35), .ld (some 6) (.t 34), some (30, false)⟩,
        ⟨(some 36), .call (.k (.fn 14 [])) [(.t 35)], some (30, false)⟩,
        ⟨(some 37), .un .not (.t 36), some (30, false)⟩,
        ⟨(some 38), .pick (.t 30) (.k (.d (.bool true))) (.t 37), none⟩])
      (.cond (.t 38)
        (.seq (.rg [⟨(some 2), .mv (.k (.d (.bool false))), none⟩])
        .ret)
        .skip)))
    (.rg [⟨(some 11), .mv (.t 3), none⟩,
      ⟨(some 12), .bin .add (.t 11) (.k (.d (.int .i64 1))), none⟩,
      ⟨(some 3), .mv (.t 12), none⟩]))))))
(.seq (.rg [⟨(some 2), .mv (.k (.d (.bool true))), none⟩])
.ret)))) }
theorem af10_ok : cFun Tryz.prog eqT Tryz.f10 = some af10 := by kernel_rfl
/-- dossier/eval.Eval -/
noncomputable def af11 : AFun := { np := 2, nt := 61, res := [.c 4 (some 6), .t 5], code :=
(.seq (.rg [⟨(some 2), .box (.t 0), none⟩,
  ⟨(some 4), .new [.d (.int .i64 0), .d (.bool false), .d (.int .i64 0), .d (.int .i64 0), .d (.str []), .nils], none⟩,
  ⟨(some 5), .mv (.k (.d (.int .i64 0))), none⟩])
(.seq (.seq (.rg [⟨(some 11), .ld (some 8) (.t 2), none⟩,
  ⟨(some 12), .call (.k (.fn 22 [])) [(.t 11)], none⟩,
  ⟨(some 13), .un .not (.t 12), none⟩])
(.cond (.t 13)
  (.seq (.rg [⟨(some 14), .build [.int .i64 0, .bool false, .int .i64 0, .int .i64 0, .str [], .sl []] [], none⟩,
    ⟨none, .st 6 (.t 4) (.t 14), none⟩,
    ⟨(some 5), .mv (.k (.d (.int .i64 1))), none⟩])
  .ret)
  .skip))
(.seq (.block 0
  (.seq (.rg [⟨(some 16), .fad (.t 2) 0, none⟩,
    ⟨(some 17), .ld none (.t 16), none⟩,
    ⟨(some 18), .bin .eql (.t 17) (.k (.d (.int .i64 8))), none⟩,
    ⟨(some 15), .mv (.t 18), none⟩])
  (.cond (.t 15)
    (.seq (.rg [⟨(some 19), .ld (some 8) (.t 2), none⟩,
      ⟨(some 20), .mv (.t 1), none⟩,
      ⟨(some 21), .call (.k (.fn 23 [])) [(.t 19), (.t 20)], none⟩,
      ⟨(some 22), .ext (.t 21) 0, none⟩,
      ⟨(some 23), .ext (.t 21) 1, none⟩,
      ⟨none, .st 6 (.t 4) (.t 22), none⟩,
      ⟨(some 5), .mv (.t 23), none⟩])
    .ret)
    (.seq (.rg [⟨(some 25), .fad (.t 2) 0, none⟩,
      ⟨(some 26), .ld none (.t 25), none⟩,
      ⟨(some 27), .call (.k (.fn 24 [])) [(.t 26)], none⟩,
      ⟨(some 24), .mv (.t 27), none⟩])
    (.cond (.t 24)
      (.seq (.rg [⟨(some 28), .ld (some 8) (.t 2), none⟩,
        ⟨(some 29), .mv (.t 1), none⟩,
        ⟨(some 30), .call (.k (.fn 25 [])) [(.t 28), (.k (.nils)), (.t 29)], none⟩,
        ⟨(some 31), .ext (.t 30) 0, none⟩,
        ⟨(some 32), .ext (.t 30) 1, none⟩,
        ⟨none, .st 6 (.t 4) (.t 31), none⟩,
        ⟨(some 5), .mv (.t 32), none⟩])
      .ret)
      .skip)))))
(.seq (.rg [⟨(some 6), .mv (.k (.nils)), none⟩])
(.seq (.seq (.rg [⟨(some 33), .fad (.t 2) 7, none⟩,
  ⟨(some 34), .ld none (.t 33), none⟩,
  ⟨(some 35), .lenq false (.t 34), none⟩,
  ⟨(some 36), .mv (.k (.d (.int .i64 0))), none⟩])
(.block 1
  (.loop
    (.seq (.rg [⟨(some 37), .bin .lss (.t 36) (.t 35), none⟩])
    (.seq (.cond (.t 37)
      .skip
      (.exit 1))
    (.seq (.block 2
      (.seq (.rg [⟨(some 38), .iad 8 (.t 34) (.t 36), none⟩,
        ⟨(some 39), .ld (some 8) (.t 38), none⟩,
        ⟨(some 8), .new [.d (.int .i64 0), .d (.bool false), .d (.int .i64 0), .d (.int .i64 0), .d (.str []), .d (.bool false), .d (.bool false), .nils], none⟩,
        ⟨none, .st 8 (.t 8) (.t 39), none⟩])
      (.seq (.rg [⟨(some 41), .ld (some 8) (.t 8), none⟩,
        ⟨(some 42), .mv (.t 1), none⟩,
        ⟨(some 43), .call (.k (.fn 11 [])) [(.t 41), (.t 42)], none⟩,
        ⟨(some 40), .mv (.t 43), none⟩,
        ⟨(some 44), .ext (.t 40) 0, none⟩,
        ⟨(some 45), .ext (.t 40) 1, none⟩,
        ⟨(some 9), .new [.d (.int .i64 0), .d (.bool false), .d (.int .i64 0), .d (.int .i64 0), .d (.str []), .nils], none⟩,
        ⟨none, .st 6 (.t 9) (.t 44), none⟩,
        ⟨(some 10), .mv (.t 45), none⟩])
      (.seq (.seq (.rg [⟨(some 46), .mv (.t 10), none⟩,
        ⟨(some 47), .bin .neq (.t 46) (.k (.d (.int .i64 0))), none⟩])
      (.cond (.t 47)
        (.seq (.rg [⟨(some 48), .build [.int .i64 0, .bool false, .int .i64 0, .int .i64 0, .str [], .sl []] [], none⟩,
          ⟨(some 49), .mv (.t 10), none⟩,
          ⟨none, .st 6 (.t 4) (.t 48), none⟩,
          ⟨(some 5), .mv (.t 49), none⟩])
        .ret)
        .skip))
      (.rg [⟨(some 50), .mv (.t 6), none⟩,
        ⟨(some 51), .ld (some 6) (.t 9), none⟩,
        ⟨(some 52), .mkrow 32 6 [(.t 51)], none⟩,
        ⟨(some 53), .app 32 6 72 (.t 50) (.t 52), none⟩,
        ⟨(some 6), .mv (.t 53), none⟩])))))
    (.rg [⟨(some 54), .bin .add (.t 36) (.k (.d (.int .i64 1))), none⟩,
      ⟨(some 36), .mv (.t 54), none⟩])))))))
(.seq (.rg [⟨(some 55), .ld (some 8) (.t 2), none⟩,
  ⟨(some 56), .mv (.t 6), none⟩,
  ⟨(some 57), .mv (.t 1), none⟩,
  ⟨(some 58), .call (.k (.fn 25 [])) [(.t 55), (.t 56), (.t 57)], none⟩,
  ⟨(some 59), .ext (.t 58) 0, none⟩,
  ⟨(some 60), .ext (.t 58) 1, none⟩,
  ⟨none, .st 6 (.t 4) (.t 59), none⟩,
  ⟨(some 5), .mv (.t 60), none⟩])
.ret)))))) }
theorem af11_ok : cFun Tryz.prog eqT Tryz.f11 = some af11 := by kernel_rfl
/-- dossier/dossierref6.Eval -/
noncomputable def af12 : AFun := { np := 2, nt := 134, res := [.c 4 (some 6), .t 5], code :=
(.seq (.rg [⟨(some 2), .box (.t 0), none⟩,
  ⟨(some 4), .new [.d (.int .i64 0), .d (.bool false), .d (.int .i64 0), .d (.int .i64 0), .d (.str []), .nils], none⟩,
  ⟨(some 5), .mv (.k (.d (.int .i64 0))), none⟩])
(.seq (.rg [⟨(some 11), .fad (.t 2) 0, none⟩,
  ⟨(some 12), .ld none (.t 11), none⟩,
  ⟨(some 13), .call (.k (.fn 26 [])) [(.t 12)], none⟩,
  ⟨(some 6), .mv (.t 13), none⟩])
(.seq (.seq (.rg [⟨(some 14), .mv (.t 6), none⟩,
  ⟨(some 15), .bin .eql (.t 14) (.k (.d (.int .i64 (-2)))), none⟩,
  ⟨(some 16), .mv (.t 15), none⟩,
  ⟨(some 17), .mv (.t 6), some (16, false)⟩,
  ⟨(some 18), .bin .gtr (.t 17) (.k (.d (.int .i64 0))), some (16, false)⟩,
  ⟨(some 19), .mv (.t 18), some (16, false)⟩,
  ⟨(some 20), .mv (.t 6), some (19, true)⟩,
  ⟨(some 21), .fad (.t 2) 7, some (19, true)⟩,
  ⟨(some 22), .ld none (.t 21), some (19, true)⟩,
  ⟨(some 23), .lenq false (.t 22), some (19, true)⟩,
  ⟨(some 24), .bin .neq (.t 20) (.t 23), some (19, true)⟩,
  ⟨(some 25), .pick (.t 19) (.t 24) (.k (.d (.bool false))), some (16, false)⟩,
  ⟨(some 26), .pick (.t 16) (.k (.d (.bool true))) (.t 25), none⟩])
(.cond (.t 26)
  (.seq (.rg [⟨(some 27), .build [.int .i64 0, .bool false, .int .i64 0, .int .i64 0, .str [], .sl []] [], none⟩,
    ⟨none, .st 6 (.t 4) (.t 27), none⟩,
    ⟨(some 5), .mv (.k (.d (.int .i64 1))), none⟩])
  .ret)
  .skip))
(.seq (.seq (.rg [⟨(some 28), .fad (.t 2) 0, none⟩,
  ⟨(some 29), .ld none (.t 28), none⟩,
  ⟨(some 30), .bin .eql (.t 29) (.k (.d (.int .i64 8))), none⟩])
(.cond (.t 30)
  (.seq (.rg [⟨(some 31), .ld (some 8) (.t 2), none⟩,
    ⟨(some 32), .mv (.t 1), none⟩,
    ⟨(some 33), .call (.k (.fn 27 [])) [(.t 31), (.t 32)], none⟩,
    ⟨(some 34), .ext (.t 33) 0, none⟩,
    ⟨(some 35), .ext (.t 33) 1, none⟩,
    ⟨none, .st 6 (.t 4) (.t 34), none⟩,
    ⟨(some 5), .mv (.t 35), none⟩])
  .ret)
  .skip))
(.seq (.seq (.rg [⟨(some 36), .mv (.t 6), none⟩,
  ⟨(some 37), .bin .eql (.t 36) (.k (.d (.int .i64 0))), none⟩])
(.cond (.t 37)
  (.seq (.rg [⟨(some 38), .ld (some 8) (.t 2), none⟩,
    ⟨(some 39), .mv (.t 1), none⟩,
    ⟨(some 40), .call (.k (.fn 28 [])) [(.t 38), (.t 39)], none⟩,
    ⟨(some 41), .ext (.t 40) 0, none⟩,
    ⟨(some 42), .ext (.t 40) 1, none⟩,
    ⟨none, .st 6 (.t 4) (.t 41), none⟩,
    ⟨(some 5), .mv (.t 42), none⟩])
  .ret)
  .skip))
(.seq (.rg [⟨(some 7), .mv (.k (.nils)), none⟩])
(.seq (.seq (.rg [⟨(some 8), .mv (.k (.d (.int .i64 0))), none⟩])
(.block 0
  (.loop
    (.seq (.seq (.rg [⟨(some 43), .mv (.t 8), none⟩,
      ⟨(some 44), .fad (.t 2) 7, none⟩,
      ⟨(some 45), .ld none (.t 44), none⟩,
      ⟨(some 46), .lenq false (.t 45), none⟩,
      ⟨(some 47), .bin .lss (.t 43) (.t 46), none⟩])
    (.cond (.t 47)
      .skip
      (.exit 0)))
    (.seq (.block 1
      (.seq (.rg [⟨(some 51), .fad (.t 2) 7, none⟩,
        ⟨(some 52), .ld none (.t 51), none⟩,
        ⟨(some 53), .mv (.t 8), none⟩,
        ⟨(some 54), .iad 8 (.t 52) (.t 53), none⟩,
        ⟨(some 55), .ld (some 8) (.t 54), none⟩,
        ⟨(some 56), .mv (.t 1), none⟩,
        ⟨(some 57), .call (.k (.fn 12 [])) [(.t 55), (.t 56)], none⟩,
        ⟨(some 50), .mv (.t 57), none⟩,
        ⟨(some 58), .ext (.t 50) 0, none⟩,
        ⟨(some 59), .ext (.t 50) 1, none⟩,
        ⟨(some 9), .new [.d (.int .i64 0), .d (.bool false), .d (.int .i64 0), .d (.int .i64 0), .d (.str []), .nils], none⟩,
        ⟨none, .st 6 (.t 9) (.t 58), none⟩,
        ⟨(some 10), .mv (.t 59), none⟩])
      (.seq (.seq (.rg [⟨(some 60), .mv (.t 10), none⟩,
        ⟨(some 61), .bin .neq (.t 60) (.k (.d (.int .i64 0))), none⟩])
      (.cond (.t 61)
        (.seq (.rg [⟨(some 62), .build [.int .i64 0, .bool false, .int .i64 0, .int .i64 0, .str [], .sl []] [], none⟩,
          ⟨(some 63), .mv (.t 10), none⟩,
          ⟨none, .st 6 (.t 4) (.t 62), none⟩,
          ⟨(some 5), .mv (.t 63), none⟩])
        .ret)
        .skip))
      (.rg [⟨(some 64), .mv (.t 7), none⟩,
        ⟨(some 65), .ld (some 6) (.t 9), none⟩,
        ⟨(some 66), .mkrow 32 6 [(.t 65)], none⟩,
        ⟨(some 67), .app 32 6 72 (.t 64) (.t 66), none⟩,
        ⟨(some 7), .mv (.t 67), none⟩]))))
    (.rg [⟨(some 48), .mv (.t 8), none⟩,
      ⟨(some 49), .bin .add (.t 48) (.k (.d (.int .i64 1))), none⟩,
      ⟨(some 8), .mv (.t 49), none⟩]))))))
(.seq (.seq (.rg [⟨(some 68), .fad (.t 2) 0, none⟩,
  ⟨(some 69), .ld none (.t 68), none⟩])
(.block 2
  (.seq (.rg [⟨(some 71), .bin .eql (.t 69) (.k (.d (.int .i64 6))), none⟩,
    ⟨(some 70), .mv (.t 71), none⟩])
  (.cond (.t 70)
    (.seq (.rd [⟨(some 72), .fad (.t 2) 4, none⟩,
      ⟨(some 73), .ld none (.t 72), none⟩,
      ⟨(some 74), .mv (.t 7), none⟩,
      ⟨(some 75), .iad 6 (.t 74) (.k (.d (.int .i64 0))), none⟩,
      ⟨(some 76), .ld (some 6) (.t 75), none⟩,
      ⟨(some 77), .mv (.t 7), none⟩,
      ⟨(some 78), .iad 6 (.t 77) (.k (.d (.int .i64 1))), none⟩,
      ⟨(some 79), .ld (some 6) (.t 78), none⟩,
      ⟨(some 80), .call (.k (.fn 29 [])) [(.t 73), (.t 76), (.t 79)], none⟩,
      ⟨(some 81), .ext (.t 80) 0, none⟩,
      ⟨(some 82), .ext (.t 80) 1, none⟩,
      ⟨none, .st 6 (.t 4) (.t 81), none⟩,
      ⟨(some 5), .mv (.t 82), none⟩] [])
    .ret)
    (.seq (.rg [⟨(some 84), .bin .eql (.t 69) (.k (.d (.int .i64 7))), none⟩,
      ⟨(some 83), .mv (.t 84), none⟩])
    (.cond (.t 83)
      (.seq (.seq (.rg [⟨(some 85), .mv (.t 7), none⟩,
        ⟨(some 86), .iad 6 (.t 85) (.k (.d (.int .i64 0))), none⟩,
        ⟨(some 87), .fad (.t 86) 0, none⟩,
        ⟨(some 88), .ld none (.t 87), none⟩,
        ⟨(some 89), .bin .neq (.t 88) (.k (.d (.int .i64 2))), none⟩])
      (.cond (.t 89)
        (.seq (.rg [⟨(some 90), .build [.int .i64 0, .bool false, .int .i64 0, .int .i64 0, .str [], .sl []] [], none⟩,
          ⟨none, .st 6 (.t 4) (.t 90), none⟩,
          ⟨(some 5), .mv (.k (.d (.int .i64 0))), none⟩])
        .ret)
        .skip))
      (.seq (.rd [⟨(some 91), .mv (.t 7), none⟩,
        ⟨(some 92), .iad 6 (.t 91) (.k (.d (.int .i64 0))), none⟩,
        ⟨(some 93), .fad (.t 92) 2, none⟩,
        ⟨(some 94), .fad (.t 93) 0, none⟩,
        ⟨(some 95), .ld none (.t 94), none⟩,
        ⟨(some 96), .un .neg (.t 95), none⟩,
        ⟨(some 97), .mv (.t 7), none⟩,
        ⟨(some 98), .iad 6 (.t 97) (.k (.d (.int .i64 0))), none⟩,
        ⟨(some 99), .fad (.t 98) 2, none⟩,
        ⟨(some 100), .fad (.t 99) 1, none⟩,
        ⟨(some 101), .ld none (.t 100), none⟩,
        ⟨(some 102), .build [.int .i64 0, .int .i64 0] [(0, 1, (.t 96)), (1, 1, (.t 101))], none⟩,
        ⟨(some 103), .call (.k (.fn 30 [])) [(.t 102), (.k (.d (.int .i64 0)))], none⟩,
        ⟨(some 104), .ext (.t 103) 0, none⟩,
        ⟨(some 105), .ext (.t 103) 1, none⟩,
        ⟨none, .st 6 (.t 4) (.t 104), none⟩,
        ⟨(some 5), .mv (.t 105), none⟩] [(4, 12), (10, 12)])
      .ret))
      (.seq (.rg [⟨(some 107), .bin .eql (.t 69) (.k (.d (.int .i64 9))), none⟩,
        ⟨(some 106), .mv (.t 107), none⟩])
      (.cond (.t 106)
        (.seq (.rg [⟨(some 108), .mv (.t 7), none⟩,
          ⟨(some 109), .call (.k (.fn 31 [])) [(.t 108)], none⟩,
          ⟨(some 110), .ext (.t 109) 0, none⟩,
          ⟨(some 111), .ext (.t 109) 1, none⟩,
          ⟨none, .st 6 (.t 4) (.t 110), none⟩,
          ⟨(some 5), .mv (.t 111), none⟩])
        .ret)
        (.seq (.rg [⟨(some 113), .bin .eql (.t 69) (.k (.d (.int .i64 10))), none⟩,
          ⟨(some 112), .mv (.t 113), none⟩])
        (.cond (.t 112)
          (.seq (.rg [⟨(some 114), .fad (.t 2) 4, none⟩,
            ⟨(some 115), .ld none (.t 114), none⟩,
            ⟨(some 116), .mv (.t 7), none⟩,
            ⟨(some 117), .call (.k (.fn 32 [])) [(.t 115), (.t 116)], none⟩,
            ⟨(some 118), .ext (.t 117) 0, none⟩,
            ⟨(some 119), .ext (.t 117) 1, none⟩,
            ⟨none, .st 6 (.t 4) (.t 118), none⟩,
            ⟨(some 5), .mv (.t 119), none⟩])
          .ret)
          .skip))))))))))
(.seq (.rd [⟨(some 120), .mv (.t 7), none⟩,
  ⟨(some 121), .iad 6 (.t 120) (.k (.d (.int .i64 0))), none⟩,
  ⟨(some 122), .ld (some 6) (.t 121), none⟩,
  ⟨(some 123), .mv (.t 7), none⟩,
  ⟨(some 124), .iad 6 (.t 123) (.k (.d (.int .i64 1))), none⟩,
  ⟨(some 125), .ld (some 6) (.t 124), none⟩,
  ⟨(some 126), .mv (.t 7), none⟩,
  ⟨(some 127), .iad 6 (.t 126) (.k (.d (.int .i64 2))), none⟩,
  ⟨(some 128), .ld (some 6) (.t 127), none⟩,
  ⟨(some 129), .fad (.t 2) 5, none⟩,
  ⟨(some 130), .ld none (.t 129), none⟩,
  ⟨(some 131), .fad (.t 2) 6, none⟩,
  ⟨(some 132), .ld none (.t 131), none⟩,
  ⟨(some 133), .call (.k (.fn 33 [])) [(.t 122), (.t 125), (.t 128), (.t 130), (.t 132)], none⟩,
  ⟨none, .st 6 (.t 4) (.t 133), none⟩,
  ⟨(some 5), .mv (.k (.d (.int .i64 0))), none⟩] [])
.ret))))))))) }
theorem af12_ok : cFun Tryz.prog eqT Tryz.f12 = some af12 := by kernel_rfl
/-- dossier/dossierref12.SameVal -/
noncomputable def af13 : AFun := { np := 2, nt := 60, res := [.t 4], code :=
(.seq (.rg [⟨(some 2), .box (.t 0), none⟩,
  ⟨(some 3), .box (.t 1), none⟩,
  ⟨(some 4), .mv (.k (.d (.bool false))), none⟩])
(.seq (.seq (.rg [⟨(some 6), .fad (.t 2) 0, none⟩,
  ⟨(some 7), .ld none (.t 6), none⟩,
  ⟨(some 8), .fad (.t 3) 0, none⟩,
  ⟨(some 9), .ld none (.t 8), none⟩,
  ⟨(some 10), .bin .neq (.t 7) (.t 9), none⟩,
  ⟨(some 11), .mv (.t 10), none⟩,
  ⟨(some 12), .fad (.t 2) 1, some (11, false)⟩,
  ⟨(some 13), .ld none (.t 12), some (11, false)⟩,
  ⟨(some 14), .fad (.t 3) 1, some (11, false)⟩,
  ⟨(some 15), .ld none (.t 14), some (11, false)⟩,
  ⟨(some 16), .eqb true (.t 13) (.t 15), some (11, false)⟩,
  ⟨(some 17), .pick (.t 11) (.k (.d (.bool true))) (.t 16), none⟩,
  ⟨(some 18), .mv (.t 17), none⟩,
  ⟨(some 19), .fad (.t 2) 2, some (18, false)⟩,
  ⟨(some 20), .ld (some 2) (.t 19), some (18, false)⟩,
  ⟨(some 21), .fad (.t 3) 2, some (18, false)⟩,
  ⟨(some 22), .ld (some 2) (.t 21), some (18, false)⟩,
  ⟨(some 23), .eqs 2 true (.t 20) (.t 22), some (18, false)⟩,
  ⟨(some 24), .pick (.t 18) (.k (.d (.bool true))) (.t 23), none⟩,
  ⟨(some 25), .mv (.t 24), none⟩,
  ⟨(some 26), .fad (.t 2) 4, some (25, false)⟩,
  ⟨(some 27), .ld none (.t 26), some (25, false)⟩,
  ⟨(some 28), .fad (.t 3) 4, some (25, false)⟩,
  ⟨(some 29), .ld none (.t 28), some (25, false)⟩,
  ⟨(some 30), .bin .neq (.t 27) (.t 29), some (25, false)⟩,
  ⟨(some 31), .pick (.t 25) (.k (.d (.bool true))) (.t 30), none⟩,
  ⟨(some 32), .mv (.t 31), none⟩,
  ⟨(some 33), .fad (.t 2) 5, some (32, false)⟩,
  ⟨(some 34), .ld none (.t 33), some (32, false)⟩,
  ⟨(some 35), .lenq false (.t 34), some (32, false)⟩,
  ⟨(some 36), .fad (.t 3) 5, some (32, false)⟩,
  ⟨(some 37), .ld none (.t 36), some (32, false)⟩,
  ⟨(some 38), .lenq false (.t 37), some (32, false)⟩,
  ⟨(some 39), .bin .neq (.t 35) (.t 38), some (32, false)⟩,
  ⟨(some 40), .pick (.t 32) (.k (.d (.bool true))) (.t 39), none⟩])
(.cond (.t 40)
  (.seq (.rg [⟨(some 4), .mv (.k (.d (.bool false))), none⟩])
  .ret)
  .skip))
(.seq (.seq (.rg [⟨(some 5), .mv (.k (.d (.int .i64 0))), none⟩])
(.block 0
  (.loop
    (.seq (.seq (.rg [⟨(some 41), .mv (.t 5), none⟩,
      ⟨(some 42), .fad (.t 2) 5, none⟩,
      ⟨(some 43), .ld none (.t 42), none⟩,
      ⟨(some 44), .lenq false (.t 43), none⟩,
      ⟨(some 45), .bin .lss (.t 41) (.t 44), none⟩])
    (.cond (.t 45)
      .skip
      (.exit 0)))
    (.seq (.block 1
      (.seq (.rd [⟨(some 48), .fad (.t 2) 5, none⟩,
        ⟨(some 49), .ld none (.t 48), none⟩,
        ⟨(some 50), .mv (.t 5), none⟩,
        ⟨(some 51), .iad 6 (.t 49) (.t 50), none⟩,
        ⟨(some 52), .ld (some 6) (.t 51), none⟩,
        ⟨(some 53), .fad (.t 3) 5, none⟩,
        ⟨(some 54), .ld none (.t 53), none⟩,
        ⟨(some 55), .mv (.t 5), none⟩,
        ⟨(some 56), .iad 6 (.t 54) (.t 55), none⟩,
        ⟨(some 57), .ld (some 6) (.t 56), none⟩,
        ⟨(some 58), .call (.k (.fn 13 [])) [(.t 52), (.t 57)], none⟩,
        ⟨(some 59), .un .not (.t 58), none⟩] [(1, 10), (6, 10)])
      (.cond (.t 59)
        (.seq (.rg [⟨(some 4), .mv (.k (.d (.bool false))), none⟩])
        .ret)
        .skip)))
    (.rg [⟨(some 46), .mv (.t 5), none⟩,
      ⟨(some 47), .bin .add (.t 46) (.k (.d (.int .i64 1))), none⟩,
      ⟨(some 5), .mv (.t 47), none⟩]))))))
(.seq (.rg [⟨(some 4), .mv (.k (.d (.bool true))), none⟩])
.ret)))) }
theorem af13_ok : cFun Tryz.prog eqT Tryz.f13 = some af13 := by kernel_rfl
/-- dossier/dossierref2.Is -/
noncomputable def af14 : AFun := { np := 1, nt := 5, res := [.t 2], code :=
(.seq (.rg [⟨(some 1), .box (.t 0), none⟩,
  ⟨(some 2), .mv (.k (.d (.bool false))), none⟩])
(.seq (.rg [⟨(some 3), .ld (some 6) (.t 1), none⟩,
  ⟨(some 4), .call (.k (.fn 34 [])) [(.t 3), (.k (.d (.int .i64 0)))], none⟩,
  ⟨(some 2), .mv (.t 4), none⟩])
.ret)) }
theorem af14_ok : cFun Tryz.prog eqT Tryz.f14 = some af14 := by kernel_rfl
/-- dossier/dossierlaw6.known -/
noncomputable def af15 : AFun := { np := 0, nt := 20, res := [.t 0], code :=
(.seq (.rg [⟨(some 0), .mv (.k (.d (.bool false))), none⟩])
(.seq (.rg [⟨(some 4), .call (.k (.fn 21 [])) [(.k (.d (.str [115, 117, 109, 40, 91, 49, 44, 32, 50, 44, 32, 51, 93, 41, 32, 47, 32, 52]))), (.k (.nils))], none⟩,
  ⟨(some 3), .mv (.t 4), none⟩,
  ⟨(some 5), .ext (.t 3) 0, none⟩,
  ⟨(some 6), .ext (.t 3) 1, none⟩,
  ⟨(some 1), .new [.d (.int .i64 0), .d (.bool false), .d (.int .i64 0), .d (.int .i64 0), .d (.str []), .nils], none⟩,
  ⟨none, .st 6 (.t 1) (.t 5), none⟩,
  ⟨(some 2), .mv (.t 6), none⟩])
(.seq (.rg [⟨(some 7), .mv (.t 2), none⟩,
  ⟨(some 8), .bin .eql (.t 7) (.k (.d (.int .i64 0))), none⟩,
  ⟨(some 9), .mv (.t 8), none⟩,
  ⟨(some 10), .fad (.t 1) 0, some (9, true)⟩,
  ⟨(some 11), .ld none (.t 10), some (9, true)⟩,
  ⟨(some 12), .bin .eql (.t 11) (.k (.d (.int .i64 2))), some (9, true)⟩,
  ⟨(some 13), .pick (.t 9) (.t 12) (.k (.d (.bool false))), none⟩,
  ⟨(some 14), .mv (.t 13), none⟩,
  ⟨(some 15), .fad (.t 1) 2, some (14, true)⟩,
  ⟨(some 16), .ld (some 2) (.t 15), some (14, true)⟩,
  ⟨(some 17), .build [.int .i64 0, .int .i64 0] [(0, 1, (.k (.d (.int .i64 15)))), (1, 1, (.k (.d (.int .i64 1))))], some (14, true)⟩,
  ⟨(some 18), .eqs 2 false (.t 16) (.t 17), some (14, true)⟩,
  ⟨(some 19), .pick (.t 14) (.t 18) (.k (.d (.bool false))), none⟩,
  ⟨(some 0), .mv (.t 19), none⟩])
.ret))) }
theorem af15_ok : cFun Tryz.prog eqT Tryz.f15 = some af15 := by kernel_rfl
/-- dossier/dossierref4.Parse -/
noncomputable def af16 : AFun := { np := 1, nt := 50, res := [.c 2 (some 8), .t 3, .t 4], code :=
(.seq (.rg [⟨(some 2), .new [.d (.int .i64 0), .d (.bool false), .d (.int .i64 0), .d (.int .i64 0), .d (.str []), .d (.bool false), .d (.bool false), .nils], none⟩,
  ⟨(some 3), .mv (.k (.d (.int .i64 0))), none⟩,
  ⟨(some 4), .mv (.k (.d (.int .i64 0))), none⟩])
(.seq (.rg [⟨(some 13), .mv (.t 0), none⟩,
  ⟨(some 14), .call (.k (.fn 35 [])) [(.t 13)], none⟩,
  ⟨(some 12), .mv (.t 14), none⟩,
  ⟨(some 15), .ext (.t 12) 0, none⟩,
  ⟨(some 16), .ext (.t 12) 1, none⟩,
  ⟨(some 17), .ext (.t 12) 2, none⟩,
  ⟨(some 5), .mv (.t 15), none⟩,
  ⟨(some 6), .mv (.t 16), none⟩,
  ⟨(some 7), .mv (.t 17), none⟩])
(.seq (.seq (.rg [⟨(some 18), .mv (.t 7), none⟩,
  ⟨(some 19), .bin .neq (.t 18) (.k (.d (.int .i64 0))), none⟩])
(.cond (.t 19)
  (.seq (.rg [⟨(some 20), .build [.int .i64 0, .bool false, .int .i64 0, .int .i64 0, .str [], .bool false, .bool false, .sl []] [], none⟩,
    ⟨(some 21), .mv (.t 6), none⟩,
    ⟨(some 22), .mv (.t 7), none⟩,
    ⟨none, .st 8 (.t 2) (.t 20), none⟩,
    ⟨(some 3), .mv (.t 21), none⟩,
    ⟨(some 4), .mv (.t 22), none⟩])
  .ret)
  .skip))
(.seq (.rg [⟨(some 24), .mv (.t 5), none⟩,
  ⟨(some 25), .mv (.t 6), none⟩,
  ⟨(some 26), .call (.k (.fn 36 [])) [(.t 24), (.k (.d (.int .i64 0))), (.t 25)], none⟩,
  ⟨(some 23), .mv (.t 26), none⟩,
  ⟨(some 27), .ext (.t 23) 0, none⟩,
  ⟨(some 28), .ext (.t 23) 1, none⟩,
  ⟨(some 29), .ext (.t 23) 2, none⟩,
  ⟨(some 30), .ext (.t 23) 3, none⟩,
  ⟨(some 8), .new [.d (.int .i64 0), .d (.bool false), .d (.int .i64 0), .d (.int .i64 0), .d (.str []), .d (.bool false), .d (.bool false), .nils], none⟩,
  ⟨none, .st 8 (.t 8) (.t 27), none⟩,
  ⟨(some 9), .mv (.t 28), none⟩,
  ⟨(some 10), .mv (.t 29), none⟩,
  ⟨(some 11), .mv (.t 30), none⟩])
(.seq (.block 0
  (.seq (.rg [⟨(some 32), .mv (.t 11), none⟩,
    ⟨(some 33), .bin .neq (.t 32) (.k (.d (.int .i64 0))), none⟩,
    ⟨(some 31), .mv (.t 33), none⟩])
  (.cond (.t 31)
    (.seq (.rg [⟨(some 34), .build [.int .i64 0, .bool false, .int .i64 0, .int .i64 0, .str [], .bool false, .bool false, .sl []] [], none⟩,
      ⟨(some 35), .mv (.t 10), none⟩,
      ⟨(some 36), .mv (.t 11), none⟩,
      ⟨none, .st 8 (.t 2) (.t 34), none⟩,
      ⟨(some 3), .mv (.t 35), none⟩,
      ⟨(some 4), .mv (.t 36), none⟩])
    .ret)
    (.seq (.rg [⟨(some 38), .mv (.t 9), none⟩,
      ⟨(some 39), .mv (.t 5), none⟩,
      ⟨(some 40), .lenq false (.t 39), none⟩,
      ⟨(some 41), .bin .lss (.t 38) (.t 40), none⟩,
      ⟨(some 37), .mv (.t 41), none⟩])
    (.cond (.t 37)
      (.seq (.rd [⟨(some 42), .build [.int .i64 0, .bool false, .int .i64 0, .int .i64 0, .str [], .bool false, .bool false, .sl []] [], none⟩,
        ⟨(some 43), .mv (.t 5), none⟩,
        ⟨(some 44), .mv (.t 9), none⟩,
        ⟨(some 45), .iad 3 (.t 43) (.t 44), none⟩,
        ⟨(some 46), .fad (.t 45) 2, none⟩,
        ⟨(some 47), .ld none (.t 46), none⟩,
        ⟨none, .st 8 (.t 2) (.t 42), none⟩,
        ⟨(some 3), .mv (.t 47), none⟩,
        ⟨(some 4), .mv (.k (.d (.int .i64 2))), none⟩] [(5, 6)])
      .ret)
      .skip)))))
(.seq (.rg [⟨(some 48), .ld (some 8) (.t 8), none⟩,
  ⟨(some 49), .mv (.t 6), none⟩,
  ⟨none, .st 8 (.t 2) (.t 48), none⟩,
  ⟨(some 3), .mv (.t 49), none⟩,
  ⟨(some 4), .mv (.k (.d (.int .i64 0))), none⟩])
.ret)))))) }
theorem af16_ok : cFun Tryz.prog eqT Tryz.f16 = some af16 := by kernel_rfl
/-- dossier/eval.Rel -/
noncomputable def af17 : AFun := { np := 3, nt := 60, res := [.c 6 (some 6)], code :=
(.seq (.rg [⟨(some 4), .box (.t 1), none⟩,
  ⟨(some 5), .box (.t 2), none⟩,
  ⟨(some 6), .new [.d (.int .i64 0), .d (.bool false), .d (.int .i64 0), .d (.int .i64 0), .d (.str []), .nils], none⟩])
(.seq (.seq (.rg [⟨(some 8), .mv (.t 0), none⟩])
(.block 0
  (.seq (.rg [⟨(some 10), .bin .eql (.t 8) (.k (.d (.str [61]))), none⟩,
    ⟨(some 9), .mv (.t 10), none⟩])
  (.cond (.t 9)
    (.seq (.rg [⟨(some 11), .ld (some 6) (.t 4), none⟩,
      ⟨(some 12), .ld (some 6) (.t 5), none⟩,
      ⟨(some 13), .call (.k (.fn 38 [])) [(.t 11), (.t 12)], none⟩,
      ⟨(some 14), .call (.k (.fn 37 [])) [(.t 13)], none⟩,
      ⟨none, .st 6 (.t 6) (.t 14), none⟩])
    .ret)
    (.seq (.rg [⟨(some 16), .bin .eql (.t 8) (.k (.d (.str [33, 61]))), none⟩,
      ⟨(some 15), .mv (.t 16), none⟩])
    (.cond (.t 15)
      (.seq (.rg [⟨(some 17), .ld (some 6) (.t 4), none⟩,
        ⟨(some 18), .ld (some 6) (.t 5), none⟩,
        ⟨(some 19), .call (.k (.fn 38 [])) [(.t 17), (.t 18)], none⟩,
        ⟨(some 20), .un .not (.t 19), none⟩,
        ⟨(some 21), .call (.k (.fn 37 [])) [(.t 20)], none⟩,
        ⟨none, .st 6 (.t 6) (.t 21), none⟩])
      .ret)
      .skip))))))
(.seq (.seq (.rg [⟨(some 22), .ld (some 6) (.t 4), none⟩,
  ⟨(some 23), .ld (some 6) (.t 5), none⟩,
  ⟨(some 24), .mkrow 32 6 [(.t 22), (.t 23)], none⟩,
  ⟨(some 25), .call (.k (.fn 39 [])) [(.k (.d (.int .i64 2))), (.t 24)], none⟩,
  ⟨(some 26), .un .not (.t 25), none⟩,
  ⟨(some 27), .mv (.t 26), none⟩,
  ⟨(some 28), .ld (some 6) (.t 4), some (27, true)⟩,
  ⟨(some 29), .ld (some 6) (.t 5), some (27, true)⟩,
  ⟨(some 30), .mkrow 32 6 [(.t 28), (.t 29)], some (27, true)⟩,
  ⟨(some 31), .call (.k (.fn 39 [])) [(.k (.d (.int .i64 3))), (.t 30)], some (27, true)⟩,
  ⟨(some 32), .un .not (.t 31), some (27, true)⟩,
  ⟨(some 33), .pick (.t 27) (.t 32) (.k (.d (.bool false))), none⟩])
(.cond (.t 33)
  (.seq (.rg [⟨(some 34), .build [.int .i64 0, .bool false, .int .i64 0, .int .i64 0, .str [], .sl []] [], none⟩,
    ⟨none, .st 6 (.t 6) (.t 34), none⟩])
  .ret)
  .skip))
(.seq (.rg [⟨(some 35), .ld (some 6) (.t 4), none⟩,
  ⟨(some 36), .ld (some 6) (.t 5), none⟩,
  ⟨(some 37), .call (.k (.fn 40 [])) [(.t 35), (.t 36)], none⟩,
  ⟨(some 7), .mv (.t 37), none⟩])
(.seq (.seq (.rg [⟨(some 38), .mv (.t 0), none⟩])
(.block 1
  (.seq (.rg [⟨(some 40), .bin .eql (.t 38) (.k (.d (.str [60]))), none⟩,
    ⟨(some 39), .mv (.t 40), none⟩])
  (.cond (.t 39)
    (.seq (.rg [⟨(some 41), .mv (.t 7), none⟩,
      ⟨(some 42), .bin .lss (.t 41) (.k (.d (.int .i64 0))), none⟩,
      ⟨(some 43), .call (.k (.fn 37 [])) [(.t 42)], none⟩,
      ⟨none, .st 6 (.t 6) (.t 43), none⟩])
    .ret)
    (.seq (.rg [⟨(some 45), .bin .eql (.t 38) (.k (.d (.str [60, 61]))), none⟩,
      ⟨(some 44), .mv (.t 45), none⟩])
    (.cond (.t 44)
      (.seq (.rg [⟨(some 46), .mv (.t 7), none⟩,
        ⟨(some 47), .bin .leq (.t 46) (.k (.d (.int .i64 0))), none⟩,
        ⟨(some 48), .call (.k (.fn 37 [])) [(.t 47)], none⟩,
        ⟨none, .st 6 (.t 6) (.t 48), none⟩])
      .ret)
      (.seq (.rg [⟨(some 50), .bin .eql (.t 38) (.k (.d (.str [62]))), none⟩,
        ⟨(some 49), .mv (.t 50), none⟩])
      (.cond (.t 49)
        (.seq (.rg [⟨(some 51), .mv (.t 7), none⟩,
          ⟨(some 52), .bin .gtr (.t 51) (.k (.d (.int .i64 0))), none⟩,
          ⟨(some 53), .call (.k (.fn 37 [])) [(.t 52)], none⟩,
          ⟨none, .st 6 (.t 6) (.t 53), none⟩])
        .ret)
        (.seq (.rg [⟨(some 55), .bin .eql (.t 38) (.k (.d (.str [62, 61]))), none⟩,
          ⟨(some 54), .mv (.t 55), none⟩])
        (.cond (.t 54)
          (.seq (.rg [⟨(some 56), .mv (.t 7), none⟩,
            ⟨(some 57), .bin .geq (.t 56) (.k (.d (.int .i64 0))), none⟩,
            ⟨(some 58), .call (.k (.fn 37 [])) [(.t 57)], none⟩,
            ⟨none, .st 6 (.t 6) (.t 58), none⟩])
          .ret)
          .skip))))))))))
(.seq (.rg [⟨(some 59), .build [.int .i64 0, .bool false, .int .i64 0, .int .i64 0, .str [], .sl []] [], none⟩,
  ⟨none, .st 6 (.t 6) (.t 59), none⟩])
.ret)))))) }
theorem af17_ok : cFun Tryz.prog eqT Tryz.f17 = some af17 := by kernel_rfl
/-- dossier/dossierref6.Rel -/
noncomputable def af18 : AFun := { np := 3, nt := 60, res := [.c 6 (some 6)], code :=
(.seq (.rg [⟨(some 4), .box (.t 1), none⟩,
  ⟨(some 5), .box (.t 2), none⟩,
  ⟨(some 6), .new [.d (.int .i64 0), .d (.bool false), .d (.int .i64 0), .d (.int .i64 0), .d (.str []), .nils], none⟩])
(.seq (.rg [⟨(some 8), .ld (some 6) (.t 4), none⟩,
  ⟨(some 9), .ld (some 6) (.t 5), none⟩,
  ⟨(some 10), .call (.k (.fn 41 [])) [(.t 8), (.t 9)], none⟩,
  ⟨(some 7), .mv (.t 10), none⟩])
(.seq (.seq (.rg [⟨(some 11), .mv (.t 0), none⟩])
(.block 0
  (.seq (.rg [⟨(some 13), .bin .eql (.t 11) (.k (.d (.str [61]))), none⟩,
    ⟨(some 12), .mv (.t 13), none⟩])
  (.cond (.t 12)
    (.seq (.rg [⟨(some 14), .mv (.t 7), none⟩,
      ⟨(some 15), .bin .eql (.t 14) (.k (.d (.int .i64 0))), none⟩,
      ⟨(some 16), .call (.k (.fn 42 [])) [(.t 15)], none⟩,
      ⟨none, .st 6 (.t 6) (.t 16), none⟩])
    .ret)
    (.seq (.rg [⟨(some 18), .bin .eql (.t 11) (.k (.d (.str [33, 61]))), none⟩,
      ⟨(some 17), .mv (.t 18), none⟩])
    (.cond (.t 17)
      (.seq (.rg [⟨(some 19), .mv (.t 7), none⟩,
        ⟨(some 20), .bin .neq (.t 19) (.k (.d (.int .i64 0))), none⟩,
        ⟨(some 21), .call (.k (.fn 42 [])) [(.t 20)], none⟩,
        ⟨none, .st 6 (.t 6) (.t 21), none⟩])
      .ret)
      .skip))))))
(.seq (.seq (.rg [⟨(some 22), .fad (.t 4) 0, none⟩,
  ⟨(some 23), .ld none (.t 22), none⟩,
  ⟨(some 24), .fad (.t 5) 0, none⟩,
  ⟨(some 25), .ld none (.t 24), none⟩,
  ⟨(some 26), .bin .neq (.t 23) (.t 25), none⟩,
  ⟨(some 27), .mv (.t 26), none⟩,
  ⟨(some 28), .fad (.t 4) 0, some (27, false)⟩,
  ⟨(some 29), .ld none (.t 28), some (27, false)⟩,
  ⟨(some 30), .bin .neq (.t 29) (.k (.d (.int .i64 2))), some (27, false)⟩,
  ⟨(some 31), .mv (.t 30), some (27, false)⟩,
  ⟨(some 32), .fad (.t 4) 0, some (31, true)⟩,
  ⟨(some 33), .ld none (.t 32), some (31, true)⟩,
  ⟨(some 34), .bin .neq (.t 33) (.k (.d (.int .i64 3))), some (31, true)⟩,
  ⟨(some 35), .pick (.t 31) (.t 34) (.k (.d (.bool false))), some (27, false)⟩,
  ⟨(some 36), .pick (.t 27) (.k (.d (.bool true))) (.t 35), none⟩])
(.cond (.t 36)
  (.seq (.rg [⟨(some 37), .build [.int .i64 0, .bool false, .int .i64 0, .int .i64 0, .str [], .sl []] [], none⟩,
    ⟨none, .st 6 (.t 6) (.t 37), none⟩])
  .ret)
  .skip))
(.seq (.seq (.rg [⟨(some 38), .mv (.t 0), none⟩])
(.block 1
  (.seq (.rg [⟨(some 40), .bin .eql (.t 38) (.k (.d (.str [60]))), none⟩,
    ⟨(some 39), .mv (.t 40), none⟩])
  (.cond (.t 39)
    (.seq (.rg [⟨(some 41), .mv (.t 7), none⟩,
      ⟨(some 42), .bin .lss (.t 41) (.k (.d (.int .i64 0))), none⟩,
      ⟨(some 43), .call (.k (.fn 42 [])) [(.t 42)], none⟩,
      ⟨none, .st 6 (.t 6) (.t 43), none⟩])
    .ret)
    (.seq (.rg [⟨(some 45), .bin .eql (.t 38) (.k (.d (.str [60, 61]))), none⟩,
      ⟨(some 44), .mv (.t 45), none⟩])
    (.cond (.t 44)
      (.seq (.rg [⟨(some 46), .mv (.t 7), none⟩,
        ⟨(some 47), .bin .leq (.t 46) (.k (.d (.int .i64 0))), none⟩,
        ⟨(some 48), .call (.k (.fn 42 [])) [(.t 47)], none⟩,
        ⟨none, .st 6 (.t 6) (.t 48), none⟩])
      .ret)
      (.seq (.rg [⟨(some 50), .bin .eql (.t 38) (.k (.d (.str [62]))), none⟩,
        ⟨(some 49), .mv (.t 50), none⟩])
      (.cond (.t 49)
        (.seq (.rg [⟨(some 51), .mv (.t 7), none⟩,
          ⟨(some 52), .bin .gtr (.t 51) (.k (.d (.int .i64 0))), none⟩,
          ⟨(some 53), .call (.k (.fn 42 [])) [(.t 52)], none⟩,
          ⟨none, .st 6 (.t 6) (.t 53), none⟩])
        .ret)
        (.seq (.rg [⟨(some 55), .bin .eql (.t 38) (.k (.d (.str [62, 61]))), none⟩,
          ⟨(some 54), .mv (.t 55), none⟩])
        (.cond (.t 54)
          (.seq (.rg [⟨(some 56), .mv (.t 7), none⟩,
            ⟨(some 57), .bin .geq (.t 56) (.k (.d (.int .i64 0))), none⟩,
            ⟨(some 58), .call (.k (.fn 42 [])) [(.t 57)], none⟩,
            ⟨none, .st 6 (.t 6) (.t 58), none⟩])
          .ret)
          .skip))))))))))
(.seq (.rg [⟨(some 59), .build [.int .i64 0, .bool false, .int .i64 0, .int .i64 0, .str [], .sl []] [], none⟩,
  ⟨none, .st 6 (.t 6) (.t 59), none⟩])
.ret)))))) }
theorem af18_ok : cFun Tryz.prog eqT Tryz.f18 = some af18 := by kernel_rfl
/-- dossier/dossierref2.Truth -/
noncomputable def af19 : AFun := { np := 1, nt := 10, res := [.t 2], code :=
(.seq (.rg [⟨(some 1), .box (.t 0), none⟩,
  ⟨(some 2), .mv (.k (.d (.bool false))), none⟩])
(.seq (.rg [⟨(some 3), .fad (.t 1) 0, none⟩,
  ⟨(some 4), .ld none (.t 3), none⟩,
  ⟨(some 5), .bin .eql (.t 4) (.k (.d (.int .i64 1))), none⟩,
  ⟨(some 6), .mv (.t 5), none⟩,
  ⟨(some 7), .fad (.t 1) 1, some (6, true)⟩,
  ⟨(some 8), .ld none (.t 7), some (6, true)⟩,
  ⟨(some 9), .pick (.t 6) (.t 8) (.k (.d (.bool false))), none⟩,
  ⟨(some 2), .mv (.t 9), none⟩])
.ret)) }
theorem af19_ok : cFun Tryz.prog eqT Tryz.f19 = some af19 := by kernel_rfl
/-- dossier/dossierlaw6.num -/
noncomputable def af20 : AFun := { np := 1, nt := 6, res := [.c 2 (some 6)], code :=
(.seq (.rg [⟨(some 2), .new [.d (.int .i64 0), .d (.bool false), .d (.int .i64 0), .d (.int .i64 0), .d (.str []), .nils], none⟩])
(.seq (.rg [⟨(some 3), .mv (.t 0), none⟩,
  ⟨(some 4), .build [.int .i64 0, .int .i64 0] [(0, 1, (.t 3))], none⟩,
  ⟨(some 5), .build [.int .i64 0, .bool false, .int .i64 0, .int .i64 0, .str [], .sl []] [(0, 1, (.k (.d (.int .i64 2)))), (2, 2, (.t 4))], none⟩,
  ⟨none, .st 6 (.t 2) (.t 5), none⟩])
.ret)) }
theorem af20_ok : cFun Tryz.prog eqT Tryz.f20 = some af20 := by kernel_rfl
/-- dossier/dossierlaw6.told -/
noncomputable def af21 : AFun := { np := 2, nt := 23, res := [.c 4 (some 6), .t 5], code :=
(.seq (.rg [⟨(some 4), .new [.d (.int .i64 0), .d (.bool false), .d (.int .i64 0), .d (.int .i64 0), .d (.str []), .nils], none⟩,
  ⟨(some 5), .mv (.k (.d (.int .i64 0))), none⟩])
(.seq (.rg [⟨(some 10), .mv (.t 0), none⟩,
  ⟨(some 11), .call (.k (.fn 16 [])) [(.t 10)], none⟩,
  ⟨(some 9), .mv (.t 11), none⟩,
  ⟨(some 12), .ext (.t 9) 0, none⟩,
  ⟨(some 13), .ext (.t 9) 1, none⟩,
  ⟨(some 14), .ext (.t 9) 2, none⟩,
  ⟨(some 6), .new [.d (.int .i64 0), .d (.bool false), .d (.int .i64 0), .d (.int .i64 0), .d (.str []), .d (.bool false), .d (.bool false), .nils], none⟩,
  ⟨none, .st 8 (.t 6) (.t 12), none⟩,
  ⟨(some 7), .mv (.t 13), none⟩,
  ⟨(some 8), .mv (.t 14), none⟩])
(.seq (.seq (.rg [⟨(some 15), .mv (.t 8), none⟩,
  ⟨(some 16), .bin .neq (.t 15) (.k (.d (.int .i64 0))), none⟩])
(.cond (.t 16)
  (.seq (.rg [⟨(some 17), .build [.int .i64 0, .bool false, .int .i64 0, .int .i64 0, .str [], .sl []] [], none⟩,
    ⟨none, .st 6 (.t 4) (.t 17), none⟩,
    ⟨(some 5), .mv (.k (.d (.int .i64 2))), none⟩])
  .ret)
  .skip))
(.seq (.rg [⟨(some 18), .ld (some 8) (.t 6), none⟩,
  ⟨(some 19), .mv (.t 1), none⟩,
  ⟨(some 20), .call (.k (.fn 11 [])) [(.t 18), (.t 19)], none⟩,
  ⟨(some 21), .ext (.t 20) 0, none⟩,
  ⟨(some 22), .ext (.t 20) 1, none⟩,
  ⟨none, .st 6 (.t 4) (.t 21), none⟩,
  ⟨(some 5), .mv (.t 22), none⟩])
.ret)))) }
theorem af21_ok : cFun Tryz.prog eqT Tryz.f21 = some af21 := by kernel_rfl
/-- dossier/eval.may -/
noncomputable def af22 : AFun := { np := 1, nt := 41, res := [.t 2], code :=
(.seq (.rg [⟨(some 1), .box (.t 0), none⟩,
  ⟨(some 2), .mv (.k (.d (.bool false))), none⟩])
(.seq (.seq (.rg [⟨(some 3), .fad (.t 1) 0, none⟩,
  ⟨(some 4), .ld none (.t 3), none⟩])
(.block 0
  (.seq (.rg [⟨(some 6), .bin .eql (.t 4) (.k (.d (.int .i64 3))), none⟩,
    ⟨(some 5), .mv (.t 6), none⟩])
  (.cond (.t 5)
    (.seq (.rg [⟨(some 7), .fad (.t 1) 2, none⟩,
      ⟨(some 8), .ld (some 2) (.t 7), none⟩,
      ⟨(some 9), .call (.k (.fn 43 [])) [(.t 8)], none⟩,
      ⟨(some 2), .mv (.t 9), none⟩])
    .ret)
    (.seq (.rg [⟨(some 11), .bin .eql (.t 4) (.k (.d (.int .i64 4))), none⟩,
      ⟨(some 10), .mv (.t 11), none⟩])
    (.cond (.t 10)
      (.seq (.rg [⟨(some 12), .fad (.t 1) 4, none⟩,
        ⟨(some 13), .ld none (.t 12), none⟩,
        ⟨(some 14), .build [.int .i64 0, .bool false, .int .i64 0, .int .i64 0, .str [], .sl []] [(0, 1, (.k (.d (.int .i64 3)))), (4, 1, (.t 13))], none⟩,
        ⟨(some 15), .call (.k (.fn 44 [])) [(.t 14)], none⟩,
        ⟨(some 2), .mv (.t 15), none⟩])
      .ret)
      (.seq (.seq (.rg [⟨(some 17), .bin .eql (.t 4) (.k (.d (.int .i64 1))), none⟩,
        ⟨(some 16), .mv (.t 17), none⟩])
      (.cond (.t 16)
        .skip
        (.seq (.rg [⟨(some 18), .bin .eql (.t 4) (.k (.d (.int .i64 2))), none⟩,
          ⟨(some 16), .mv (.t 18), none⟩])
        (.cond (.t 16)
          .skip
          (.seq (.rg [⟨(some 19), .bin .eql (.t 4) (.k (.d (.int .i64 5))), none⟩,
            ⟨(some 16), .mv (.t 19), none⟩])
          (.cond (.t 16)
            .skip
            (.seq (.rg [⟨(some 20), .bin .eql (.t 4) (.k (.d (.int .i64 9))), none⟩,
              ⟨(some 16), .mv (.t 20), none⟩])
            (.cond (.t 16)
              .skip
              (.rg [⟨(some 21), .bin .eql (.t 4) (.k (.d (.int .i64 10))), none⟩,
                ⟨(some 16), .mv (.t 21), none⟩])))))))))
      (.cond (.t 16)
        (.seq (.rg [⟨(some 2), .mv (.k (.d (.bool true))), none⟩])
        .ret)
        (.seq (.rg [⟨(some 23), .bin .eql (.t 4) (.k (.d (.int .i64 7))), none⟩,
          ⟨(some 22), .mv (.t 23), none⟩])
        (.cond (.t 22)
          (.seq (.rg [⟨(some 24), .fad (.t 1) 7, none⟩,
            ⟨(some 25), .ld none (.t 24), none⟩,
            ⟨(some 26), .lenq false (.t 25), none⟩,
            ⟨(some 27), .bin .eql (.t 26) (.k (.d (.int .i64 1))), none⟩,
            ⟨(some 2), .mv (.t 27), none⟩])
          .ret)
          (.seq (.rg [⟨(some 29), .bin .eql (.t 4) (.k (.d (.int .i64 6))), none⟩,
            ⟨(some 28), .mv (.t 29), none⟩])
          (.cond (.t 28)
            (.seq (.rg [⟨(some 30), .fad (.t 1) 7, none⟩,
              ⟨(some 31), .ld none (.t 30), none⟩,
              ⟨(some 32), .lenq false (.t 31), none⟩,
              ⟨(some 33), .bin .eql (.t 32) (.k (.d (.int .i64 2))), none⟩,
              ⟨(some 2), .mv (.t 33), none⟩])
            .ret)
            (.seq (.seq (.rg [⟨(some 35), .bin .eql (.t 4) (.k (.d (.int .i64 8))), none⟩,
              ⟨(some 34), .mv (.t 35), none⟩])
            (.cond (.t 34)
              .skip
              (.rg [⟨(some 36), .bin .eql (.t 4) (.k (.d (.int .i64 11))), none⟩,
                ⟨(some 34), .mv (.t 36), none⟩])))
            (.cond (.t 34)
              (.seq (.rg [⟨(some 37), .fad (.t 1) 7, none⟩,
                ⟨(some 38), .ld none (.t 37), none⟩,
                ⟨(some 39), .lenq false (.t 38), none⟩,
                ⟨(some 40), .bin .eql (.t 39) (.k (.d (.int .i64 3))), none⟩,
                ⟨(some 2), .mv (.t 40), none⟩])
              .ret)
              .skip))))))))))))))
(.seq (.rg [⟨(some 2), .mv (.k (.d (.bool false))), none⟩])
.ret))) }
theorem af22_ok : cFun Tryz.prog eqT Tryz.f22 = some af22 := by kernel_rfl
/-- dossier/eval.choice -/
noncomputable def af23 : AFun := { np := 2, nt := 41, res := [.c 4 (some 6), .t 5], code :=
(.seq (.rg [⟨(some 2), .box (.t 0), none⟩,
  ⟨(some 4), .new [.d (.int .i64 0), .d (.bool false), .d (.int .i64 0), .d (.int .i64 0), .d (.str []), .nils], none⟩,
  ⟨(some 5), .mv (.k (.d (.int .i64 0))), none⟩])
(.seq (.rg [⟨(some 9), .fad (.t 2) 7, none⟩,
  ⟨(some 10), .ld none (.t 9), none⟩,
  ⟨(some 11), .iad 8 (.t 10) (.k (.d (.int .i64 0))), none⟩,
  ⟨(some 12), .ld (some 8) (.t 11), none⟩,
  ⟨(some 13), .mv (.t 1), none⟩,
  ⟨(some 14), .call (.k (.fn 11 [])) [(.t 12), (.t 13)], none⟩,
  ⟨(some 8), .mv (.t 14), none⟩,
  ⟨(some 15), .ext (.t 8) 0, none⟩,
  ⟨(some 16), .ext (.t 8) 1, none⟩,
  ⟨(some 6), .new [.d (.int .i64 0), .d (.bool false), .d (.int .i64 0), .d (.int .i64 0), .d (.str []), .nils], none⟩,
  ⟨none, .st 6 (.t 6) (.t 15), none⟩,
  ⟨(some 7), .mv (.t 16), none⟩])
(.seq (.block 0
  (.seq (.rg [⟨(some 18), .mv (.t 7), none⟩,
    ⟨(some 19), .bin .neq (.t 18) (.k (.d (.int .i64 0))), none⟩,
    ⟨(some 17), .mv (.t 19), none⟩])
  (.cond (.t 17)
    (.seq (.rg [⟨(some 20), .build [.int .i64 0, .bool false, .int .i64 0, .int .i64 0, .str [], .sl []] [], none⟩,
      ⟨(some 21), .mv (.t 7), none⟩,
      ⟨none, .st 6 (.t 4) (.t 20), none⟩,
      ⟨(some 5), .mv (.t 21), none⟩])
    .ret)
    (.seq (.rg [⟨(some 23), .ld (some 6) (.t 6), none⟩,
      ⟨(some 24), .call (.k (.fn 45 [])) [(.t 23)], none⟩,
      ⟨(some 22), .mv (.t 24), none⟩])
    (.cond (.t 22)
      (.seq (.rg [⟨(some 25), .fad (.t 2) 7, none⟩,
        ⟨(some 26), .ld none (.t 25), none⟩,
        ⟨(some 27), .iad 8 (.t 26) (.k (.d (.int .i64 1))), none⟩,
        ⟨(some 28), .ld (some 8) (.t 27), none⟩,
        ⟨(some 29), .mv (.t 1), none⟩,
        ⟨(some 30), .call (.k (.fn 11 [])) [(.t 28), (.t 29)], none⟩,
        ⟨(some 31), .ext (.t 30) 0, none⟩,
        ⟨(some 32), .ext (.t 30) 1, none⟩,
        ⟨none, .st 6 (.t 4) (.t 31), none⟩,
        ⟨(some 5), .mv (.t 32), none⟩])
      .ret)
      .skip)))))
(.seq (.rg [⟨(some 33), .fad (.t 2) 7, none⟩,
  ⟨(some 34), .ld none (.t 33), none⟩,
  ⟨(some 35), .iad 8 (.t 34) (.k (.d (.int .i64 2))), none⟩,
  ⟨(some 36), .ld (some 8) (.t 35), none⟩,
  ⟨(some 37), .mv (.t 1), none⟩,
  ⟨(some 38), .call (.k (.fn 11 [])) [(.t 36), (.t 37)], none⟩,
  ⟨(some 39), .ext (.t 38) 0, none⟩,
  ⟨(some 40), .ext (.t 38) 1, none⟩,
  ⟨none, .st 6 (.t 4) (.t 39), none⟩,
  ⟨(some 5), .mv (.t 40), none⟩])
.ret)))) }
theorem af23_ok : cFun Tryz.prog eqT Tryz.f23 = some af23 := by kernel_rfl
/-- dossier/eval.isLeaf -/
noncomputable def af24 : AFun := { np := 1, nt := 9, res := [.t 2], code :=
(.seq (.rg [⟨(some 2), .mv (.k (.d (.bool false))), none⟩])
(.seq (.rg [⟨(some 3), .mv (.t 0), none⟩,
  ⟨(some 4), .bin .geq (.t 3) (.k (.d (.int .i64 1))), none⟩,
  ⟨(some 5), .mv (.t 4), none⟩,
  ⟨(some 6), .mv (.t 0), some (5, true)⟩,
  ⟨(some 7), .bin .leq (.t 6) (.k (.d (.int .i64 5))), some (5, true)⟩,
  ⟨(some 8), .pick (.t 5) (.t 7) (.k (.d (.bool false))), none⟩,
  ⟨(some 2), .mv (.t 8), none⟩])
.ret)) }
theorem af24_ok : cFun Tryz.prog eqT Tryz.f24 = some af24 := by kernel_rfl
/-- dossier/eval.of -/
noncomputable def af25 : AFun := { np := 3, nt := 73, res := [.c 6 (some 6), .t 7], code :=
(.seq (.rg [⟨(some 3), .box (.t 0), none⟩,
  ⟨(some 6), .new [.d (.int .i64 0), .d (.bool false), .d (.int .i64 0), .d (.int .i64 0), .d (.str []), .nils], none⟩,
  ⟨(some 7), .mv (.k (.d (.int .i64 0))), none⟩])
(.seq (.seq (.rg [⟨(some 8), .fad (.t 3) 0, none⟩,
  ⟨(some 9), .ld none (.t 8), none⟩])
(.block 0
  (.seq (.rg [⟨(some 11), .bin .eql (.t 9) (.k (.d (.int .i64 2))), none⟩,
    ⟨(some 10), .mv (.t 11), none⟩])
  (.cond (.t 10)
    (.seq (.rg [⟨(some 12), .fad (.t 3) 1, none⟩,
      ⟨(some 13), .ld none (.t 12), none⟩,
      ⟨(some 14), .call (.k (.fn 37 [])) [(.t 13)], none⟩,
      ⟨none, .st 6 (.t 6) (.t 14), none⟩,
      ⟨(some 7), .mv (.k (.d (.int .i64 0))), none⟩])
    .ret)
    (.seq (.rg [⟨(some 16), .bin .eql (.t 9) (.k (.d (.int .i64 3))), none⟩,
      ⟨(some 15), .mv (.t 16), none⟩])
    (.cond (.t 15)
      (.seq (.rg [⟨(some 17), .fad (.t 3) 2, none⟩,
        ⟨(some 18), .ld (some 2) (.t 17), none⟩,
        ⟨(some 19), .call (.k (.fn 46 [])) [(.t 18)], none⟩,
        ⟨none, .st 6 (.t 6) (.t 19), none⟩,
        ⟨(some 7), .mv (.k (.d (.int .i64 0))), none⟩])
      .ret)
      (.seq (.rg [⟨(some 21), .bin .eql (.t 9) (.k (.d (.int .i64 4))), none⟩,
        ⟨(some 20), .mv (.t 21), none⟩])
      (.cond (.t 20)
        (.seq (.rg [⟨(some 22), .fad (.t 3) 4, none⟩,
          ⟨(some 23), .ld none (.t 22), none⟩,
          ⟨(some 24), .build [.int .i64 0, .bool false, .int .i64 0, .int .i64 0, .str [], .sl []] [(0, 1, (.k (.d (.int .i64 3)))), (4, 1, (.t 23))], none⟩,
          ⟨none, .st 6 (.t 6) (.t 24), none⟩,
          ⟨(some 7), .mv (.k (.d (.int .i64 0))), none⟩])
        .ret)
        (.seq (.rg [⟨(some 26), .bin .eql (.t 9) (.k (.d (.int .i64 5))), none⟩,
          ⟨(some 25), .mv (.t 26), none⟩])
        (.cond (.t 25)
          (.seq (.rg [⟨(some 27), .fad (.t 3) 4, none⟩,
            ⟨(some 28), .ld none (.t 27), none⟩,
            ⟨(some 29), .mv (.t 2), none⟩,
            ⟨(some 30), .call (.k (.fn 47 [])) [(.t 28), (.t 29)], none⟩,
            ⟨none, .st 6 (.t 6) (.t 30), none⟩,
            ⟨(some 7), .mv (.k (.d (.int .i64 0))), none⟩])
          .ret)
          (.seq (.rg [⟨(some 32), .bin .eql (.t 9) (.k (.d (.int .i64 6))), none⟩,
            ⟨(some 31), .mv (.t 32), none⟩])
          (.cond (.t 31)
            (.seq (.rd [⟨(some 33), .fad (.t 3) 4, none⟩,
              ⟨(some 34), .ld none (.t 33), none⟩,
              ⟨(some 35), .mv (.t 1), none⟩,
              ⟨(some 36), .iad 6 (.t 35) (.k (.d (.int .i64 0))), none⟩,
              ⟨(some 37), .ld (some 6) (.t 36), none⟩,
              ⟨(some 38), .mv (.t 1), none⟩,
              ⟨(some 39), .iad 6 (.t 38) (.k (.d (.int .i64 1))), none⟩,
              ⟨(some 40), .ld (some 6) (.t 39), none⟩,
              ⟨(some 41), .call (.k (.fn 48 [])) [(.t 34), (.t 37), (.t 40)], none⟩,
              ⟨(some 42), .ext (.t 41) 0, none⟩,
              ⟨(some 43), .ext (.t 41) 1, none⟩,
              ⟨none, .st 6 (.t 6) (.t 42), none⟩,
              ⟨(some 7), .mv (.t 43), none⟩] [])
            .ret)
            (.seq (.rg [⟨(some 45), .bin .eql (.t 9) (.k (.d (.int .i64 7))), none⟩,
              ⟨(some 44), .mv (.t 45), none⟩])
            (.cond (.t 44)
              (.seq (.rd [⟨(some 46), .call (.k (.fn 49 [])) [(.k (.d (.int .i64 0)))], none⟩,
                ⟨(some 47), .mv (.t 1), none⟩,
                ⟨(some 48), .iad 6 (.t 47) (.k (.d (.int .i64 0))), none⟩,
                ⟨(some 49), .ld (some 6) (.t 48), none⟩,
                ⟨(some 50), .call (.k (.fn 48 [])) [(.k (.d (.str [45]))), (.t 46), (.t 49)], none⟩,
                ⟨(some 51), .ext (.t 50) 0, none⟩,
                ⟨(some 52), .ext (.t 50) 1, none⟩,
                ⟨none, .st 6 (.t 6) (.t 51), none⟩,
                ⟨(some 7), .mv (.t 52), none⟩] [(0, 3)])
              .ret)
              (.seq (.rg [⟨(some 54), .bin .eql (.t 9) (.k (.d (.int .i64 9))), none⟩,
                ⟨(some 53), .mv (.t 54), none⟩])
              (.cond (.t 53)
                (.seq (.rg [⟨(some 55), .mv (.t 1), none⟩,
                  ⟨(some 56), .call (.k (.fn 50 [])) [(.t 55)], none⟩,
                  ⟨(some 57), .ext (.t 56) 0, none⟩,
                  ⟨(some 58), .ext (.t 56) 1, none⟩,
                  ⟨none, .st 6 (.t 6) (.t 57), none⟩,
                  ⟨(some 7), .mv (.t 58), none⟩])
                .ret)
                (.seq (.rg [⟨(some 60), .bin .eql (.t 9) (.k (.d (.int .i64 11))), none⟩,
                  ⟨(some 59), .mv (.t 60), none⟩])
                (.cond (.t 59)
                  (.seq (.rg [⟨(some 61), .ld (some 8) (.t 3), none⟩,
                    ⟨(some 62), .mv (.t 1), none⟩,
                    ⟨(some 63), .call (.k (.fn 51 [])) [(.t 61), (.t 62)], none⟩,
                    ⟨none, .st 6 (.t 6) (.t 63), none⟩,
                    ⟨(some 7), .mv (.k (.d (.int .i64 0))), none⟩])
                  .ret)
                  (.seq (.rg [⟨(some 65), .bin .eql (.t 9) (.k (.d (.int .i64 10))), none⟩,
                    ⟨(some 64), .mv (.t 65), none⟩])
                  (.cond (.t 64)
                    (.seq (.rg [⟨(some 66), .fad (.t 3) 4, none⟩,
                      ⟨(some 67), .ld none (.t 66), none⟩,
                      ⟨(some 68), .mv (.t 1), none⟩,
                      ⟨(some 69), .call (.k (.fn 52 [])) [(.t 67), (.t 68)], none⟩,
                      ⟨(some 70), .ext (.t 69) 0, none⟩,
                      ⟨(some 71), .ext (.t 69) 1, none⟩,
                      ⟨none, .st 6 (.t 6) (.t 70), none⟩,
                      ⟨(some 7), .mv (.t 71), none⟩])
                    .ret)
                    .skip))))))))))))))))))))
(.seq (.rg [⟨(some 72), .build [.int .i64 0, .bool false, .int .i64 0, .int .i64 0, .str [], .sl []] [], none⟩,
  ⟨none, .st 6 (.t 6) (.t 72), none⟩,
  ⟨(some 7), .mv (.k (.d (.int .i64 0))), none⟩])
.ret))) }
theorem af25_ok : cFun Tryz.prog eqT Tryz.f25 = some af25 := by kernel_rfl
/-- dossier/dossierref5.Kids -/
noncomputable def af26 : AFun := { np := 1, nt := 20, res := [.t 2], code :=
(.seq (.rg [⟨(some 2), .mv (.k (.d (.int .i64 0))), none⟩])
(.seq (.seq (.rg [⟨(some 3), .mv (.t 0), none⟩])
(.block 0
  (.seq (.seq (.rg [⟨(some 5), .bin .eql (.t 3) (.k (.d (.int .i64 1))), none⟩,
    ⟨(some 4), .mv (.t 5), none⟩])
  (.cond (.t 4)
    .skip
    (.seq (.rg [⟨(some 6), .bin .eql (.t 3) (.k (.d (.int .i64 2))), none⟩,
      ⟨(some 4), .mv (.t 6), none⟩])
    (.cond (.t 4)
      .skip
      (.seq (.rg [⟨(some 7), .bin .eql (.t 3) (.k (.d (.int .i64 3))), none⟩,
        ⟨(some 4), .mv (.t 7), none⟩])
      (.cond (.t 4)
        .skip
        (.seq (.rg [⟨(some 8), .bin .eql (.t 3) (.k (.d (.int .i64 4))), none⟩,
          ⟨(some 4), .mv (.t 8), none⟩])
        (.cond (.t 4)
          .skip
          (.rg [⟨(some 9), .bin .eql (.t 3) (.k (.d (.int .i64 5))), none⟩,
            ⟨(some 4), .mv (.t 9), none⟩])))))))))
  (.cond (.t 4)
    (.seq (.rg [⟨(some 2), .mv (.k (.d (.int .i64 0))), none⟩])
    .ret)
    (.seq (.rg [⟨(some 11), .bin .eql (.t 3) (.k (.d (.int .i64 7))), none⟩,
      ⟨(some 10), .mv (.t 11), none⟩])
    (.cond (.t 10)
      (.seq (.rg [⟨(some 2), .mv (.k (.d (.int .i64 1))), none⟩])
      .ret)
      (.seq (.rg [⟨(some 13), .bin .eql (.t 3) (.k (.d (.int .i64 6))), none⟩,
        ⟨(some 12), .mv (.t 13), none⟩])
      (.cond (.t 12)
        (.seq (.rg [⟨(some 2), .mv (.k (.d (.int .i64 2))), none⟩])
        .ret)
        (.seq (.seq (.rg [⟨(some 15), .bin .eql (.t 3) (.k (.d (.int .i64 8))), none⟩,
          ⟨(some 14), .mv (.t 15), none⟩])
        (.cond (.t 14)
          .skip
          (.rg [⟨(some 16), .bin .eql (.t 3) (.k (.d (.int .i64 11))), none⟩,
            ⟨(some 14), .mv (.t 16), none⟩])))
        (.cond (.t 14)
          (.seq (.rg [⟨(some 2), .mv (.k (.d (.int .i64 3))), none⟩])
          .ret)
          (.seq (.seq (.rg [⟨(some 18), .bin .eql (.t 3) (.k (.d (.int .i64 9))), none⟩,
            ⟨(some 17), .mv (.t 18), none⟩])
          (.cond (.t 17)
            .skip
            (.rg [⟨(some 19), .bin .eql (.t 3) (.k (.d (.int .i64 10))), none⟩,
              ⟨(some 17), .mv (.t 19), none⟩])))
          (.cond (.t 17)
            (.seq (.rg [⟨(some 2), .mv (.k (.d (.int .i64 (-1)))), none⟩])
            .ret)
            .skip))))))))))))
(.seq (.rg [⟨(some 2), .mv (.k (.d (.int .i64 (-2)))), none⟩])
.ret))) }
theorem af26_ok : cFun Tryz.prog eqT Tryz.f26 = some af26 := by kernel_rfl
/-- dossier/dossierref6.choose -/
noncomputable def af27 : AFun := { np := 2, nt := 39, res := [.c 4 (some 6), .t 5], code :=
(.seq (.rg [⟨(some 2), .box (.t 0), none⟩,
  ⟨(some 4), .new [.d (.int .i64 0), .d (.bool false), .d (.int .i64 0), .d (.int .i64 0), .d (.str []), .nils], none⟩,
  ⟨(some 5), .mv (.k (.d (.int .i64 0))), none⟩])
(.seq (.rg [⟨(some 9), .fad (.t 2) 7, none⟩,
  ⟨(some 10), .ld none (.t 9), none⟩,
  ⟨(some 11), .iad 8 (.t 10) (.k (.d (.int .i64 0))), none⟩,
  ⟨(some 12), .ld (some 8) (.t 11), none⟩,
  ⟨(some 13), .mv (.t 1), none⟩,
  ⟨(some 14), .call (.k (.fn 12 [])) [(.t 12), (.t 13)], none⟩,
  ⟨(some 8), .mv (.t 14), none⟩,
  ⟨(some 15), .ext (.t 8) 0, none⟩,
  ⟨(some 16), .ext (.t 8) 1, none⟩,
  ⟨(some 6), .new [.d (.int .i64 0), .d (.bool false), .d (.int .i64 0), .d (.int .i64 0), .d (.str []), .nils], none⟩,
  ⟨none, .st 6 (.t 6) (.t 15), none⟩,
  ⟨(some 7), .mv (.t 16), none⟩])
(.seq (.seq (.rg [⟨(some 17), .mv (.t 7), none⟩,
  ⟨(some 18), .bin .neq (.t 17) (.k (.d (.int .i64 0))), none⟩])
(.cond (.t 18)
  (.seq (.rg [⟨(some 19), .build [.int .i64 0, .bool false, .int .i64 0, .int .i64 0, .str [], .sl []] [], none⟩,
    ⟨(some 20), .mv (.t 7), none⟩,
    ⟨none, .st 6 (.t 4) (.t 19), none⟩,
    ⟨(some 5), .mv (.t 20), none⟩])
  .ret)
  .skip))
(.seq (.seq (.rg [⟨(some 21), .ld (some 6) (.t 6), none⟩,
  ⟨(some 22), .call (.k (.fn 19 [])) [(.t 21)], none⟩])
(.cond (.t 22)
  (.seq (.rg [⟨(some 23), .fad (.t 2) 7, none⟩,
    ⟨(some 24), .ld none (.t 23), none⟩,
    ⟨(some 25), .iad 8 (.t 24) (.k (.d (.int .i64 1))), none⟩,
    ⟨(some 26), .ld (some 8) (.t 25), none⟩,
    ⟨(some 27), .mv (.t 1), none⟩,
    ⟨(some 28), .call (.k (.fn 12 [])) [(.t 26), (.t 27)], none⟩,
    ⟨(some 29), .ext (.t 28) 0, none⟩,
    ⟨(some 30), .ext (.t 28) 1, none⟩,
    ⟨none, .st 6 (.t 4) (.t 29), none⟩,
    ⟨(some 5), .mv (.t 30), none⟩])
  .ret)
  .skip))
(.seq (.rg [⟨(some 31), .fad (.t 2) 7, none⟩,
  ⟨(some 32), .ld none (.t 31), none⟩,
  ⟨(some 33), .iad 8 (.t 32) (.k (.d (.int .i64 2))), none⟩,
  ⟨(some 34), .ld (some 8) (.t 33), none⟩,
  ⟨(some 35), .mv (.t 1), none⟩,
  ⟨(some 36), .call (.k (.fn 12 [])) [(.t 34), (.t 35)], none⟩,
  ⟨(some 37), .ext (.t 36) 0, none⟩,
  ⟨(some 38), .ext (.t 36) 1, none⟩,
  ⟨none, .st 6 (.t 4) (.t 37), none⟩,
  ⟨(some 5), .mv (.t 38), none⟩])
.ret))))) }
theorem af27_ok : cFun Tryz.prog eqT Tryz.f27 = some af27 := by kernel_rfl
/-- dossier/dossierref6.leaf -/
noncomputable def af28 : AFun := { np := 2, nt := 59, res := [.c 4 (some 6), .t 5], code :=
(.seq (.rg [⟨(some 2), .box (.t 0), none⟩,
  ⟨(some 4), .new [.d (.int .i64 0), .d (.bool false), .d (.int .i64 0), .d (.int .i64 0), .d (.str []), .nils], none⟩,
  ⟨(some 5), .mv (.k (.d (.int .i64 0))), none⟩])
(.seq (.seq (.rg [⟨(some 7), .fad (.t 2) 0, none⟩,
  ⟨(some 8), .ld none (.t 7), none⟩])
(.block 0
  (.seq (.rg [⟨(some 10), .bin .eql (.t 8) (.k (.d (.int .i64 2))), none⟩,
    ⟨(some 9), .mv (.t 10), none⟩])
  (.cond (.t 9)
    (.seq (.rg [⟨(some 11), .fad (.t 2) 1, none⟩,
      ⟨(some 12), .ld none (.t 11), none⟩,
      ⟨(some 13), .call (.k (.fn 42 [])) [(.t 12)], none⟩,
      ⟨none, .st 6 (.t 4) (.t 13), none⟩,
      ⟨(some 5), .mv (.k (.d (.int .i64 0))), none⟩])
    .ret)
    (.seq (.rg [⟨(some 15), .bin .eql (.t 8) (.k (.d (.int .i64 3))), none⟩,
      ⟨(some 14), .mv (.t 15), none⟩])
    (.cond (.t 14)
      (.seq (.seq (.rg [⟨(some 16), .fad (.t 2) 2, none⟩,
        ⟨(some 17), .ld (some 2) (.t 16), none⟩,
        ⟨(some 18), .call (.k (.fn 53 [])) [(.t 17)], none⟩,
        ⟨(some 19), .un .not (.t 18), none⟩])
      (.cond (.t 19)
        (.seq (.rg [⟨(some 20), .build [.int .i64 0, .bool false, .int .i64 0, .int .i64 0, .str [], .sl []] [], none⟩,
          ⟨none, .st 6 (.t 4) (.t 20), none⟩,
          ⟨(some 5), .mv (.k (.d (.int .i64 1))), none⟩])
        .ret)
        .skip))
      (.seq (.rg [⟨(some 21), .fad (.t 2) 2, none⟩,
        ⟨(some 22), .ld (some 2) (.t 21), none⟩,
        ⟨(some 23), .call (.k (.fn 30 [])) [(.t 22), (.k (.d (.int .i64 0)))], none⟩,
        ⟨(some 24), .ext (.t 23) 0, none⟩,
        ⟨(some 25), .ext (.t 23) 1, none⟩,
        ⟨none, .st 6 (.t 4) (.t 24), none⟩,
        ⟨(some 5), .mv (.t 25), none⟩])
      .ret))
      (.seq (.rg [⟨(some 27), .bin .eql (.t 8) (.k (.d (.int .i64 4))), none⟩,
        ⟨(some 26), .mv (.t 27), none⟩])
      (.cond (.t 26)
        (.seq (.seq (.rg [⟨(some 28), .fad (.t 2) 4, none⟩,
          ⟨(some 29), .ld none (.t 28), none⟩,
          ⟨(some 30), .build [.int .i64 0, .bool false, .int .i64 0, .int .i64 0, .str [], .sl []] [(0, 1, (.k (.d (.int .i64 3)))), (4, 1, (.t 29))], none⟩,
          ⟨(some 31), .call (.k (.fn 14 [])) [(.t 30)], none⟩,
          ⟨(some 32), .un .not (.t 31), none⟩])
        (.cond (.t 32)
          (.seq (.rg [⟨(some 33), .build [.int .i64 0, .bool false, .int .i64 0, .int .i64 0, .str [], .sl []] [], none⟩,
            ⟨none, .st 6 (.t 4) (.t 33), none⟩,
            ⟨(some 5), .mv (.k (.d (.int .i64 1))), none⟩])
          .ret)
          .skip))
        (.seq (.rg [⟨(some 34), .fad (.t 2) 4, none⟩,
          ⟨(some 35), .ld none (.t 34), none⟩,
          ⟨(some 36), .build [.int .i64 0, .bool false, .int .i64 0, .int .i64 0, .str [], .sl []] [(0, 1, (.k (.d (.int .i64 3)))), (4, 1, (.t 35))], none⟩,
          ⟨none, .st 6 (.t 4) (.t 36), none⟩,
          ⟨(some 5), .mv (.k (.d (.int .i64 0))), none⟩])
        .ret))
        (.seq (.rg [⟨(some 38), .bin .eql (.t 8) (.k (.d (.int .i64 5))), none⟩,
          ⟨(some 37), .mv (.t 38), none⟩])
        (.cond (.t 37)
          (.seq (.rg [⟨(some 6), .mv (.k (.d (.int .i64 0))), none⟩])
          (.block 1
            (.loop
              (.seq (.seq (.rg [⟨(some 39), .mv (.t 6), none⟩,
                ⟨(some 40), .mv (.t 1), none⟩,
                ⟨(some 41), .lenq false (.t 40), none⟩,
                ⟨(some 42), .bin .lss (.t 39) (.t 41), none⟩])
              (.cond (.t 42)
                .skip
                (.exit 1)))
              (.seq (.block 2
                (.seq (.rd [⟨(some 45), .mv (.t 1), none⟩,
                  ⟨(some 46), .mv (.t 6), none⟩,
                  ⟨(some 47), .iad 7 (.t 45) (.t 46), none⟩,
                  ⟨(some 48), .fad (.t 47) 0, none⟩,
                  ⟨(some 49), .ld none (.t 48), none⟩,
                  ⟨(some 50), .fad (.t 2) 4, none⟩,
                  ⟨(some 51), .ld none (.t 50), none⟩,
                  ⟨(some 52), .bin .eql (.t 49) (.t 51), none⟩] [])
                (.cond (.t 52)
                  (.seq (.rg [⟨(some 53), .mv (.t 1), none⟩,
                    ⟨(some 54), .mv (.t 6), none⟩,
                    ⟨(some 55), .iad 7 (.t 53) (.t 54), none⟩,
                    ⟨(some 56), .fad (.t 55) 1, none⟩,
                    ⟨(some 57), .ld (some 6) (.t 56), none⟩,
                    ⟨none, .st 6 (.t 4) (.t 57), none⟩,
                    ⟨(some 5), .mv (.k (.d (.int .i64 0))), none⟩])
                  .ret)
                  .skip)))
              (.rg [⟨(some 43), .mv (.t 6), none⟩,
                ⟨(some 44), .bin .add (.t 43) (.k (.d (.int .i64 1))), none⟩,
                ⟨(some 6), .mv (.t 44), none⟩]))))))
          .skip))))))))))
(.seq (.rg [⟨(some 58), .build [.int .i64 0, .bool false, .int .i64 0, .int .i64 0, .str [], .sl []] [], none⟩,
  ⟨none, .st 6 (.t 4) (.t 58), none⟩,
  ⟨(some 5), .mv (.k (.d (.int .i64 0))), none⟩])
.ret))) }
theorem af28_ok : cFun Tryz.prog eqT Tryz.f28 = some af28 := by kernel_rfl
/-- dossier/dossierref6.bin -/
noncomputable def af29 : AFun := { np := 3, nt := 65, res := [.c 6 (some 6), .t 7], code :=
(.seq (.rg [⟨(some 4), .box (.t 1), none⟩,
  ⟨(some 5), .box (.t 2), none⟩,
  ⟨(some 6), .new [.d (.int .i64 0), .d (.bool false), .d (.int .i64 0), .d (.int .i64 0), .d (.str []), .nils], none⟩,
  ⟨(some 7), .mv (.k (.d (.int .i64 0))), none⟩])
(.seq (.seq (.rg [⟨(some 8), .mv (.t 0), none⟩])
(.block 0
  (.seq (.rg [⟨(some 10), .bin .eql (.t 8) (.k (.d (.str [97, 110, 100]))), none⟩,
    ⟨(some 9), .mv (.t 10), none⟩])
  (.cond (.t 9)
    (.seq (.rg [⟨(some 11), .ld (some 6) (.t 4), none⟩,
      ⟨(some 12), .ld (some 6) (.t 5), none⟩,
      ⟨(some 13), .call (.k (.fn 54 [])) [(.t 11), (.t 12)], none⟩,
      ⟨none, .st 6 (.t 6) (.t 13), none⟩,
      ⟨(some 7), .mv (.k (.d (.int .i64 0))), none⟩])
    .ret)
    (.seq (.rg [⟨(some 15), .bin .eql (.t 8) (.k (.d (.str [111, 114]))), none⟩,
      ⟨(some 14), .mv (.t 15), none⟩])
    (.cond (.t 14)
      (.seq (.rg [⟨(some 16), .ld (some 6) (.t 4), none⟩,
        ⟨(some 17), .ld (some 6) (.t 5), none⟩,
        ⟨(some 18), .call (.k (.fn 55 [])) [(.t 16), (.t 17)], none⟩,
        ⟨none, .st 6 (.t 6) (.t 18), none⟩,
        ⟨(some 7), .mv (.k (.d (.int .i64 0))), none⟩])
      .ret)
      (.seq (.seq (.rg [⟨(some 20), .bin .eql (.t 8) (.k (.d (.str [43]))), none⟩,
        ⟨(some 19), .mv (.t 20), none⟩])
      (.cond (.t 19)
        .skip
        (.seq (.rg [⟨(some 21), .bin .eql (.t 8) (.k (.d (.str [45]))), none⟩,
          ⟨(some 19), .mv (.t 21), none⟩])
        (.cond (.t 19)
          .skip
          (.seq (.rg [⟨(some 22), .bin .eql (.t 8) (.k (.d (.str [42]))), none⟩,
            ⟨(some 19), .mv (.t 22), none⟩])
          (.cond (.t 19)
            .skip
            (.rg [⟨(some 23), .bin .eql (.t 8) (.k (.d (.str [47]))), none⟩,
              ⟨(some 19), .mv (.t 23), none⟩])))))))
      (.cond (.t 19)
        (.seq (.seq (.rg [⟨(some 24), .fad (.t 4) 0, none⟩,
          ⟨(some 25), .ld none (.t 24), none⟩,
          ⟨(some 26), .bin .eql (.t 25) (.k (.d (.int .i64 2))), none⟩,
          ⟨(some 27), .mv (.t 26), none⟩,
          ⟨(some 28), .fad (.t 5) 0, some (27, true)⟩,
          ⟨(some 29), .ld none (.t 28), some (27, true)⟩,
          ⟨(some 30), .bin .eql (.t 29) (.k (.d (.int .i64 2))), some (27, true)⟩,
          ⟨(some 31), .pick (.t 27) (.t 30) (.k (.d (.bool false))), none⟩])
        (.cond (.t 31)
          (.seq (.rg [⟨(some 32), .mv (.t 0), none⟩,
            ⟨(some 33), .fad (.t 4) 2, none⟩,
            ⟨(some 34), .ld (some 2) (.t 33), none⟩,
            ⟨(some 35), .fad (.t 5) 2, none⟩,
            ⟨(some 36), .ld (some 2) (.t 35), none⟩,
            ⟨(some 37), .call (.k (.fn 56 [])) [(.t 32), (.t 34), (.t 36)], none⟩,
            ⟨(some 38), .ext (.t 37) 0, none⟩,
            ⟨(some 39), .ext (.t 37) 1, none⟩,
            ⟨none, .st 6 (.t 6) (.t 38), none⟩,
            ⟨(some 7), .mv (.t 39), none⟩])
          .ret)
          .skip))
        (.seq (.seq (.rg [⟨(some 40), .mv (.t 0), none⟩,
          ⟨(some 41), .bin .eql (.t 40) (.k (.d (.str [43]))), none⟩,
          ⟨(some 42), .mv (.t 41), none⟩,
          ⟨(some 43), .fad (.t 4) 0, some (42, true)⟩,
          ⟨(some 44), .ld none (.t 43), some (42, true)⟩,
          ⟨(some 45), .bin .eql (.t 44) (.k (.d (.int .i64 3))), some (42, true)⟩,
          ⟨(some 46), .pick (.t 42) (.t 45) (.k (.d (.bool false))), none⟩,
          ⟨(some 47), .mv (.t 46), none⟩,
          ⟨(some 48), .fad (.t 5) 0, some (47, true)⟩,
          ⟨(some 49), .ld none (.t 48), some (47, true)⟩,
          ⟨(some 50), .bin .eql (.t 49) (.k (.d (.int .i64 3))), some (47, true)⟩,
          ⟨(some 51), .pick (.t 47) (.t 50) (.k (.d (.bool false))), none⟩])
        (.cond (.t 51)
          (.seq (.rg [⟨(some 52), .fad (.t 4) 4, none⟩,
            ⟨(some 53), .ld none (.t 52), none⟩,
            ⟨(some 54), .fad (.t 5) 4, none⟩,
            ⟨(some 55), .ld none (.t 54), none⟩,
            ⟨(some 56), .bin .add (.t 53) (.t 55), none⟩,
            ⟨(some 57), .call (.k (.fn 57 [])) [(.t 56)], none⟩,
            ⟨(some 58), .ext (.t 57) 0, none⟩,
            ⟨(some 59), .ext (.t 57) 1, none⟩,
            ⟨none, .st 6 (.t 6) (.t 58), none⟩,
            ⟨(some 7), .mv (.t 59), none⟩])
          .ret)
          .skip))
        (.seq (.rg [⟨(some 60), .build [.int .i64 0, .bool false, .int .i64 0, .int .i64 0, .str [], .sl []] [], none⟩,
          ⟨none, .st 6 (.t 6) (.t 60), none⟩,
          ⟨(some 7), .mv (.k (.d (.int .i64 0))), none⟩])
        .ret)))
        .skip))))))))
(.seq (.rg [⟨(some 61), .mv (.t 0), none⟩,
  ⟨(some 62), .ld (some 6) (.t 4), none⟩,
  ⟨(some 63), .ld (some 6) (.t 5), none⟩,
  ⟨(some 64), .call (.k (.fn 18 [])) [(.t 61), (.t 62), (.t 63)], none⟩,
  ⟨none, .st 6 (.t 6) (.t 64), none⟩,
  ⟨(some 7), .mv (.k (.d (.int .i64 0))), none⟩])
.ret))) }
theorem af29_ok : cFun Tryz.prog eqT Tryz.f29 = some af29 := by kernel_rfl
/-- dossier/dossierref6.num -/
noncomputable def af30 : AFun := { np := 2, nt := 12, res := [.c 4 (some 6), .t 5], code :=
(.seq (.rg [⟨(some 2), .box (.t 0), none⟩,
  ⟨(some 4), .new [.d (.int .i64 0), .d (.bool false), .d (.int .i64 0), .d (.int .i64 0), .d (.str []), .nils], none⟩,
  ⟨(some 5), .mv (.k (.d (.int .i64 0))), none⟩])
(.seq (.seq (.rg [⟨(some 6), .mv (.t 1), none⟩,
  ⟨(some 7), .bin .neq (.t 6) (.k (.d (.int .i64 0))), none⟩])
(.cond (.t 7)
  (.seq (.rg [⟨(some 8), .build [.int .i64 0, .bool false, .int .i64 0, .int .i64 0, .str [], .sl []] [], none⟩,
    ⟨(some 9), .mv (.t 1), none⟩,
    ⟨none, .st 6 (.t 4) (.t 8), none⟩,
    ⟨(some 5), .mv (.t 9), none⟩])
  .ret)
  .skip))
(.seq (.rg [⟨(some 10), .ld (some 2) (.t 2), none⟩,
  ⟨(some 11), .build [.int .i64 0, .bool false, .int .i64 0, .int .i64 0, .str [], .sl []] [(0, 1, (.k (.d (.int .i64 2)))), (2, 2, (.t 10))], none⟩,
  ⟨none, .st 6 (.t 4) (.t 11), none⟩,
  ⟨(some 5), .mv (.k (.d (.int .i64 0))), none⟩])
.ret))) }
theorem af30_ok : cFun Tryz.prog eqT Tryz.f30 = some af30 := by kernel_rfl
/-- dossier/dossierref6.list -/
noncomputable def af31 : AFun := { np := 1, nt := 17, res := [.c 2 (some 6), .t 3], code :=
(.seq (.rg [⟨(some 2), .new [.d (.int .i64 0), .d (.bool false), .d (.int .i64 0), .d (.int .i64 0), .d (.str []), .nils], none⟩,
  ⟨(some 3), .mv (.k (.d (.int .i64 0))), none⟩])
(.seq (.rg [⟨(some 5), .mv (.t 0), none⟩,
  ⟨(some 6), .build [.int .i64 0, .bool false, .int .i64 0, .int .i64 0, .str [], .sl []] [(0, 1, (.k (.d (.int .i64 4)))), (5, 1, (.t 5))], none⟩,
  ⟨(some 4), .new [.d (.int .i64 0), .d (.bool false), .d (.int .i64 0), .d (.int .i64 0), .d (.str []), .nils], none⟩,
  ⟨none, .st 6 (.t 4) (.t 6), none⟩])
(.seq (.seq (.rg [⟨(some 7), .mv (.t 0), none⟩,
  ⟨(some 8), .lenq false (.t 7), none⟩,
  ⟨(some 9), .bin .gtr (.t 8) (.k (.d (.int .i64 8))), none⟩,
  ⟨(some 10), .mv (.t 9), none⟩,
  ⟨(some 11), .ld (some 6) (.t 4), some (10, false)⟩,
  ⟨(some 12), .call (.k (.fn 58 [])) [(.t 11)], some (10, false)⟩,
  ⟨(some 13), .bin .gtr (.t 12) (.k (.d (.int .i64 2))), some (10, false)⟩,
  ⟨(some 14), .pick (.t 10) (.k (.d (.bool true))) (.t 13), none⟩])
(.cond (.t 14)
  (.seq (.rg [⟨(some 15), .build [.int .i64 0, .bool false, .int .i64 0, .int .i64 0, .str [], .sl []] [], none⟩,
    ⟨none, .st 6 (.t 2) (.t 15), none⟩,
    ⟨(some 3), .mv (.k (.d (.int .i64 3))), none⟩])
  .ret)
  .skip))
(.seq (.rg [⟨(some 16), .ld (some 6) (.t 4), none⟩,
  ⟨none, .st 6 (.t 2) (.t 16), none⟩,
  ⟨(some 3), .mv (.k (.d (.int .i64 0))), none⟩])
.ret)))) }
theorem af31_ok : cFun Tryz.prog eqT Tryz.f31 = some af31 := by kernel_rfl
/-- dossier/dossierref6.call -/
noncomputable def af32 : AFun := { np := 2, nt := 123, res := [.c 4 (some 6), .t 5], code :=
(.seq (.rg [⟨(some 4), .new [.d (.int .i64 0), .d (.bool false), .d (.int .i64 0), .d (.int .i64 0), .d (.str []), .nils], none⟩,
  ⟨(some 5), .mv (.k (.d (.int .i64 0))), none⟩])
(.seq (.seq (.rg [⟨(some 6), .mv (.t 0), none⟩])
(.block 0
  (.seq (.seq (.rg [⟨(some 8), .bin .eql (.t 6) (.k (.d (.str [109, 105, 110]))), none⟩,
    ⟨(some 7), .mv (.t 8), none⟩])
  (.cond (.t 7)
    .skip
    (.seq (.rg [⟨(some 9), .bin .eql (.t 6) (.k (.d (.str [109, 97, 120]))), none⟩,
      ⟨(some 7), .mv (.t 9), none⟩])
    (.cond (.t 7)
      .skip
      (.seq (.rg [⟨(some 10), .bin .eql (.t 6) (.k (.d (.str [115, 117, 109]))), none⟩,
        ⟨(some 7), .mv (.t 10), none⟩])
      (.cond (.t 7)
        .skip
        (.rg [⟨(some 11), .bin .eql (.t 6) (.k (.d (.str [99, 97, 116]))), none⟩,
          ⟨(some 7), .mv (.t 11), none⟩])))))))
  (.cond (.t 7)
    (.seq (.rg [⟨(some 12), .mv (.t 0), none⟩,
      ⟨(some 13), .mv (.t 1), none⟩,
      ⟨(some 14), .call (.k (.fn 59 [])) [(.t 12), (.t 13)], none⟩,
      ⟨(some 15), .ext (.t 14) 0, none⟩,
      ⟨(some 16), .ext (.t 14) 1, none⟩,
      ⟨none, .st 6 (.t 4) (.t 15), none⟩,
      ⟨(some 5), .mv (.t 16), none⟩])
    .ret)
    (.seq (.seq (.rg [⟨(some 18), .bin .eql (.t 6) (.k (.d (.str [97, 98, 115]))), none⟩,
      ⟨(some 17), .mv (.t 18), none⟩])
    (.cond (.t 17)
      .skip
      (.seq (.rg [⟨(some 19), .bin .eql (.t 6) (.k (.d (.str [102, 108, 111, 111, 114]))), none⟩,
        ⟨(some 17), .mv (.t 19), none⟩])
      (.cond (.t 17)
        .skip
        (.rg [⟨(some 20), .bin .eql (.t 6) (.k (.d (.str [99, 101, 105, 108]))), none⟩,
          ⟨(some 17), .mv (.t 20), none⟩])))))
    (.cond (.t 17)
      (.seq (.rg [⟨(some 21), .mv (.t 1), none⟩,
        ⟨(some 22), .lenq false (.t 21), none⟩,
        ⟨(some 23), .bin .eql (.t 22) (.k (.d (.int .i64 1))), none⟩,
        ⟨(some 24), .mv (.t 23), none⟩,
        ⟨(some 25), .mv (.t 1), some (24, true)⟩,
        ⟨(some 26), .iad 6 (.t 25) (.k (.d (.int .i64 0))), some (24, true)⟩,
        ⟨(some 27), .fad (.t 26) 0, some (24, true)⟩,
        ⟨(some 28), .ld none (.t 27), some (24, true)⟩,
        ⟨(some 29), .bin .eql (.t 28) (.k (.d (.int .i64 2))), some (24, true)⟩,
        ⟨(some 30), .pick (.t 24) (.t 29) (.k (.d (.bool false))), none⟩])
      (.cond (.t 30)
        (.seq (.rg [⟨(some 31), .mv (.t 0), none⟩,
          ⟨(some 32), .mv (.t 1), none⟩,
          ⟨(some 33), .iad 6 (.t 32) (.k (.d (.int .i64 0))), none⟩,
          ⟨(some 34), .fad (.t 33) 2, none⟩,
          ⟨(some 35), .ld (some 2) (.t 34), none⟩,
          ⟨(some 36), .call (.k (.fn 60 [])) [(.t 31), (.t 35)], none⟩,
          ⟨(some 37), .ext (.t 36) 0, none⟩,
          ⟨(some 38), .ext (.t 36) 1, none⟩,
          ⟨none, .st 6 (.t 4) (.t 37), none⟩,
          ⟨(some 5), .mv (.t 38), none⟩])
        .ret)
        .skip))
      (.seq (.rg [⟨(some 40), .bin .eql (.t 6) (.k (.d (.str [110, 111, 116]))), none⟩,
        ⟨(some 39), .mv (.t 40), none⟩])
      (.cond (.t 39)
        (.seq (.rg [⟨(some 41), .mv (.t 1), none⟩,
          ⟨(some 42), .lenq false (.t 41), none⟩,
          ⟨(some 43), .bin .eql (.t 42) (.k (.d (.int .i64 1))), none⟩])
        (.cond (.t 43)
          (.seq (.rg [⟨(some 44), .mv (.t 1), none⟩,
            ⟨(some 45), .iad 6 (.t 44) (.k (.d (.int .i64 0))), none⟩,
            ⟨(some 46), .ld (some 6) (.t 45), none⟩,
            ⟨(some 47), .call (.k (.fn 61 [])) [(.t 46)], none⟩,
            ⟨none, .st 6 (.t 4) (.t 47), none⟩,
            ⟨(some 5), .mv (.k (.d (.int .i64 0))), none⟩])
          .ret)
          .skip))
        (.seq (.rg [⟨(some 49), .bin .eql (.t 6) (.k (.d (.str [109, 111, 100]))), none⟩,
          ⟨(some 48), .mv (.t 49), none⟩])
        (.cond (.t 48)
          (.seq (.rg [⟨(some 50), .mv (.t 1), none⟩,
            ⟨(some 51), .lenq false (.t 50), none⟩,
            ⟨(some 52), .bin .eql (.t 51) (.k (.d (.int .i64 2))), none⟩,
            ⟨(some 53), .mv (.t 52), none⟩,
            ⟨(some 54), .mv (.t 1), some (53, true)⟩,
            ⟨(some 55), .call (.k (.fn 62 [])) [(.t 54), (.k (.d (.int .i64 2)))], some (53, true)⟩,
            ⟨(some 56), .pick (.t 53) (.t 55) (.k (.d (.bool false))), none⟩])
          (.cond (.t 56)
            (.seq (.rd [⟨(some 57), .mv (.t 1), none⟩,
              ⟨(some 58), .iad 6 (.t 57) (.k (.d (.int .i64 0))), none⟩,
              ⟨(some 59), .fad (.t 58) 2, none⟩,
              ⟨(some 60), .ld (some 2) (.t 59), none⟩,
              ⟨(some 61), .mv (.t 1), none⟩,
              ⟨(some 62), .iad 6 (.t 61) (.k (.d (.int .i64 1))), none⟩,
              ⟨(some 63), .fad (.t 62) 2, none⟩,
              ⟨(some 64), .ld (some 2) (.t 63), none⟩,
              ⟨(some 65), .call (.k (.fn 63 [])) [(.t 60), (.t 64)], none⟩,
              ⟨none, .st 6 (.t 4) (.t 65), none⟩,
              ⟨(some 5), .mv (.k (.d (.int .i64 0))), none⟩] [])
            .ret)
            .skip))
          (.seq (.rg [⟨(some 67), .bin .eql (.t 6) (.k (.d (.str [108, 101, 110]))), none⟩,
            ⟨(some 66), .mv (.t 67), none⟩])
          (.cond (.t 66)
            (.seq (.rg [⟨(some 68), .mv (.t 1), none⟩,
              ⟨(some 69), .lenq false (.t 68), none⟩,
              ⟨(some 70), .bin .eql (.t 69) (.k (.d (.int .i64 1))), none⟩,
              ⟨(some 71), .mv (.t 70), none⟩,
              ⟨(some 72), .mv (.t 1), some (71, true)⟩,
              ⟨(some 73), .iad 6 (.t 72) (.k (.d (.int .i64 0))), some (71, true)⟩,
              ⟨(some 74), .fad (.t 73) 0, some (71, true)⟩,
              ⟨(some 75), .ld none (.t 74), some (71, true)⟩,
              ⟨(some 76), .bin .eql (.t 75) (.k (.d (.int .i64 3))), some (71, true)⟩,
              ⟨(some 77), .pick (.t 71) (.t 76) (.k (.d (.bool false))), none⟩])
            (.cond (.t 77)
              (.seq (.rg [⟨(some 78), .mv (.t 1), none⟩,
                ⟨(some 79), .iad 6 (.t 78) (.k (.d (.int .i64 0))), none⟩,
                ⟨(some 80), .fad (.t 79) 4, none⟩,
                ⟨(some 81), .ld none (.t 80), none⟩,
                ⟨(some 82), .lenq true (.t 81), none⟩,
                ⟨(some 83), .call (.k (.fn 64 [])) [(.t 82)], none⟩,
                ⟨none, .st 6 (.t 4) (.t 83), none⟩,
                ⟨(some 5), .mv (.k (.d (.int .i64 0))), none⟩])
              .ret)
              .skip))
            (.seq (.rg [⟨(some 85), .bin .eql (.t 6) (.k (.d (.str [99, 111, 117, 110, 116]))), none⟩,
              ⟨(some 84), .mv (.t 85), none⟩])
            (.cond (.t 84)
              (.seq (.rg [⟨(some 86), .mv (.t 1), none⟩,
                ⟨(some 87), .lenq false (.t 86), none⟩,
                ⟨(some 88), .bin .eql (.t 87) (.k (.d (.int .i64 1))), none⟩,
                ⟨(some 89), .mv (.t 88), none⟩,
                ⟨(some 90), .mv (.t 1), some (89, true)⟩,
                ⟨(some 91), .iad 6 (.t 90) (.k (.d (.int .i64 0))), some (89, true)⟩,
                ⟨(some 92), .fad (.t 91) 0, some (89, true)⟩,
                ⟨(some 93), .ld none (.t 92), some (89, true)⟩,
                ⟨(some 94), .bin .eql (.t 93) (.k (.d (.int .i64 4))), some (89, true)⟩,
                ⟨(some 95), .pick (.t 89) (.t 94) (.k (.d (.bool false))), none⟩])
              (.cond (.t 95)
                (.seq (.rg [⟨(some 96), .mv (.t 1), none⟩,
                  ⟨(some 97), .iad 6 (.t 96) (.k (.d (.int .i64 0))), none⟩,
                  ⟨(some 98), .fad (.t 97) 5, none⟩,
                  ⟨(some 99), .ld none (.t 98), none⟩,
                  ⟨(some 100), .lenq false (.t 99), none⟩,
                  ⟨(some 101), .call (.k (.fn 64 [])) [(.t 100)], none⟩,
                  ⟨none, .st 6 (.t 4) (.t 101), none⟩,
                  ⟨(some 5), .mv (.k (.d (.int .i64 0))), none⟩])
                .ret)
                .skip))
              (.seq (.rg [⟨(some 103), .bin .eql (.t 6) (.k (.d (.str [104, 97, 115]))), none⟩,
                ⟨(some 102), .mv (.t 103), none⟩])
              (.cond (.t 102)
                (.seq (.rg [⟨(some 104), .mv (.t 1), none⟩,
                  ⟨(some 105), .lenq false (.t 104), none⟩,
                  ⟨(some 106), .bin .eql (.t 105) (.k (.d (.int .i64 2))), none⟩,
                  ⟨(some 107), .mv (.t 106), none⟩,
                  ⟨(some 108), .mv (.t 1), some (107, true)⟩,
                  ⟨(some 109), .iad 6 (.t 108) (.k (.d (.int .i64 0))), some (107, true)⟩,
                  ⟨(some 110), .fad (.t 109) 0, some (107, true)⟩,
                  ⟨(some 111), .ld none (.t 110), some (107, true)⟩,
                  ⟨(some 112), .bin .eql (.t 111) (.k (.d (.int .i64 4))), some (107, true)⟩,
                  ⟨(some 113), .pick (.t 107) (.t 112) (.k (.d (.bool false))), none⟩])
                (.cond (.t 113)
                  (.seq (.rd [⟨(some 114), .mv (.t 1), none⟩,
                    ⟨(some 115), .iad 6 (.t 114) (.k (.d (.int .i64 0))), none⟩,
                    ⟨(some 116), .fad (.t 115) 5, none⟩,
                    ⟨(some 117), .ld none (.t 116), none⟩,
                    ⟨(some 118), .mv (.t 1), none⟩,
                    ⟨(some 119), .iad 6 (.t 118) (.k (.d (.int .i64 1))), none⟩,
                    ⟨(some 120), .ld (some 6) (.t 119), none⟩,
                    ⟨(some 121), .call (.k (.fn 65 [])) [(.t 117), (.t 120)], none⟩,
                    ⟨none, .st 6 (.t 4) (.t 121), none⟩,
                    ⟨(some 5), .mv (.k (.d (.int .i64 0))), none⟩] [])
                  .ret)
                  .skip))
                .skip))))))))))))))))
(.seq (.rg [⟨(some 122), .build [.int .i64 0, .bool false, .int .i64 0, .int .i64 0, .str [], .sl []] [], none⟩,
  ⟨none, .st 6 (.t 4) (.t 122), none⟩,
  ⟨(some 5), .mv (.k (.d (.int .i64 0))), none⟩])
.ret))) }
theorem af32_ok : cFun Tryz.prog eqT Tryz.f32 = some af32 := by kernel_rfl
/-- dossier/dossierref6.Between -/
noncomputable def af33 : AFun := { np := 5, nt := 24, res := [.c 10 (some 6)], code :=
(.seq (.rg [⟨(some 5), .box (.t 0), none⟩,
  ⟨(some 6), .box (.t 1), none⟩,
  ⟨(some 7), .box (.t 2), none⟩,
  ⟨(some 10), .new [.d (.int .i64 0), .d (.bool false), .d (.int .i64 0), .d (.int .i64 0), .d (.str []), .nils], none⟩])
(.seq (.rg [⟨(some 11), .mv (.k (.d (.str [62]))), none⟩,
  ⟨(some 12), .mv (.k (.d (.str [60]))), none⟩])
(.seq (.seq (.rg [⟨(some 13), .mv (.t 3), none⟩])
(.cond (.t 13)
  (.rg [⟨(some 11), .mv (.k (.d (.str [62, 61]))), none⟩])
  .skip))
(.seq (.seq (.rg [⟨(some 14), .mv (.t 4), none⟩])
(.cond (.t 14)
  (.rg [⟨(some 12), .mv (.k (.d (.str [60, 61]))), none⟩])
  .skip))
(.seq (.rd [⟨(some 15), .mv (.t 11), none⟩,
  ⟨(some 16), .ld (some 6) (.t 5), none⟩,
  ⟨(some 17), .ld (some 6) (.t 6), none⟩,
  ⟨(some 18), .call (.k (.fn 18 [])) [(.t 15), (.t 16), (.t 17)], none⟩,
  ⟨(some 19), .mv (.t 12), none⟩,
  ⟨(some 20), .ld (some 6) (.t 5), none⟩,
  ⟨(some 21), .ld (some 6) (.t 7), none⟩,
  ⟨(some 22), .call (.k (.fn 18 [])) [(.t 19), (.t 20), (.t 21)], none⟩,
  ⟨(some 23), .call (.k (.fn 54 [])) [(.t 18), (.t 22)], none⟩,
  ⟨none, .st 6 (.t 10) (.t 23), none⟩] [(3, 5), (3, 6), (1, 7), (2, 7), (1, 8), (2, 8), (5, 8), (6, 8)])
.ret))))) }
theorem af33_ok : cFun Tryz.prog eqT Tryz.f33 = some af33 := by kernel_rfl
/-- dossier/dossierref2.is -/
noncomputable def af34 : AFun := { np := 2, nt := 86, res := [.t 4], code :=
(.seq (.rg [⟨(some 2), .box (.t 0), none⟩,
  ⟨(some 4), .mv (.k (.d (.bool false))), none⟩])
(.seq (.seq (.rg [⟨(some 6), .fad (.t 2) 0, none⟩,
  ⟨(some 7), .ld none (.t 6), none⟩,
  ⟨(some 8), .bin .neq (.t 7) (.k (.d (.int .i64 1))), none⟩,
  ⟨(some 9), .mv (.t 8), none⟩,
  ⟨(some 10), .fad (.t 2) 1, some (9, true)⟩,
  ⟨(some 11), .ld none (.t 10), some (9, true)⟩,
  ⟨(some 12), .pick (.t 9) (.t 11) (.k (.d (.bool false))), none⟩,
  ⟨(some 13), .mv (.t 12), none⟩,
  ⟨(some 14), .fad (.t 2) 0, some (13, false)⟩,
  ⟨(some 15), .ld none (.t 14), some (13, false)⟩,
  ⟨(some 16), .bin .neq (.t 15) (.k (.d (.int .i64 2))), some (13, false)⟩,
  ⟨(some 17), .mv (.t 16), some (13, false)⟩,
  ⟨(some 18), .fad (.t 2) 2, some (17, true)⟩,
  ⟨(some 19), .ld (some 2) (.t 18), some (17, true)⟩,
  ⟨(some 20), .build [.int .i64 0, .int .i64 0] [], some (17, true)⟩,
  ⟨(some 21), .eqs 2 true (.t 19) (.t 20), some (17, true)⟩,
  ⟨(some 22), .pick (.t 17) (.t 21) (.k (.d (.bool false))), some (13, false)⟩,
  ⟨(some 23), .pick (.t 13) (.k (.d (.bool true))) (.t 22), none⟩,
  ⟨(some 24), .mv (.t 23), none⟩,
  ⟨(some 25), .fad (.t 2) 0, some (24, false)⟩,
  ⟨(some 26), .ld none (.t 25), some (24, false)⟩,
  ⟨(some 27), .bin .neq (.t 26) (.k (.d (.int .i64 3))), some (24, false)⟩,
  ⟨(some 28), .mv (.t 27), some (24, false)⟩,
  ⟨(some 29), .fad (.t 2) 4, some (28, true)⟩,
  ⟨(some 30), .ld none (.t 29), some (28, true)⟩,
  ⟨(some 31), .bin .neq (.t 30) (.k (.d (.str []))), some (28, true)⟩,
  ⟨(some 32), .pick (.t 28) (.t 31) (.k (.d (.bool false))), some (24, false)⟩,
  ⟨(some 33), .pick (.t 24) (.k (.d (.bool true))) (.t 32), none⟩,
  ⟨(some 34), .mv (.t 33), none⟩,
  ⟨(some 35), .fad (.t 2) 0, some (34, false)⟩,
  ⟨(some 36), .ld none (.t 35), some (34, false)⟩,
  ⟨(some 37), .bin .neq (.t 36) (.k (.d (.int .i64 4))), some (34, false)⟩,
  ⟨(some 38), .mv (.t 37), some (34, false)⟩,
  ⟨(some 39), .fad (.t 2) 5, some (38, true)⟩,
  ⟨(some 40), .ld none (.t 39), some (38, true)⟩,
  ⟨(some 41), .lenq false (.t 40), some (38, true)⟩,
  ⟨(some 42), .bin .gtr (.t 41) (.k (.d (.int .i64 0))), some (38, true)⟩,
  ⟨(some 43), .pick (.t 38) (.t 42) (.k (.d (.bool false))), some (34, false)⟩,
  ⟨(some 44), .pick (.t 34) (.k (.d (.bool true))) (.t 43), none⟩])
(.cond (.t 44)
  (.seq (.rg [⟨(some 4), .mv (.k (.d (.bool false))), none⟩])
  .ret)
  .skip))
(.seq (.seq (.rg [⟨(some 45), .fad (.t 2) 0, none⟩,
  ⟨(some 46), .ld none (.t 45), none⟩])
(.block 0
  (.seq (.seq (.rg [⟨(some 48), .bin .eql (.t 46) (.k (.d (.int .i64 0))), none⟩,
    ⟨(some 47), .mv (.t 48), none⟩])
  (.cond (.t 47)
    .skip
    (.rg [⟨(some 49), .bin .eql (.t 46) (.k (.d (.int .i64 1))), none⟩,
      ⟨(some 47), .mv (.t 49), none⟩])))
  (.cond (.t 47)
    (.seq (.rg [⟨(some 4), .mv (.k (.d (.bool true))), none⟩])
    .ret)
    (.seq (.rg [⟨(some 51), .bin .eql (.t 46) (.k (.d (.int .i64 2))), none⟩,
      ⟨(some 50), .mv (.t 51), none⟩])
    (.cond (.t 50)
      (.seq (.rg [⟨(some 52), .fad (.t 2) 2, none⟩,
        ⟨(some 53), .ld (some 2) (.t 52), none⟩,
        ⟨(some 54), .call (.k (.fn 53 [])) [(.t 53)], none⟩,
        ⟨(some 4), .mv (.t 54), none⟩])
      .ret)
      (.seq (.rg [⟨(some 56), .bin .eql (.t 46) (.k (.d (.int .i64 3))), none⟩,
        ⟨(some 55), .mv (.t 56), none⟩])
      (.cond (.t 55)
        (.seq (.rg [⟨(some 57), .fad (.t 2) 4, none⟩,
          ⟨(some 58), .ld none (.t 57), none⟩,
          ⟨(some 59), .call (.k (.fn 66 [])) [(.t 58)], none⟩,
          ⟨(some 4), .mv (.t 59), none⟩])
        .ret)
        (.seq (.rg [⟨(some 61), .bin .eql (.t 46) (.k (.d (.int .i64 4))), none⟩,
          ⟨(some 60), .mv (.t 61), none⟩])
        (.cond (.t 60)
          (.seq (.seq (.rg [⟨(some 62), .mv (.t 1), none⟩,
            ⟨(some 63), .bin .geq (.t 62) (.k (.d (.int .i64 2))), none⟩,
            ⟨(some 64), .mv (.t 63), none⟩,
            ⟨(some 65), .fad (.t 2) 5, some (64, false)⟩,
            ⟨(some 66), .ld none (.t 65), some (64, false)⟩,
            ⟨(some 67), .lenq false (.t 66), some (64, false)⟩,
            ⟨(some 68), .bin .gtr (.t 67) (.k (.d (.int .i64 8))), some (64, false)⟩,
            ⟨(some 69), .pick (.t 64) (.k (.d (.bool true))) (.t 68), none⟩])
          (.cond (.t 69)
            (.seq (.rg [⟨(some 4), .mv (.k (.d (.bool false))), none⟩])
            .ret)
            .skip))
          (.seq (.seq (.rg [⟨(some 5), .mv (.k (.d (.int .i64 0))), none⟩])
          (.block 1
            (.loop
              (.seq (.seq (.rg [⟨(some 70), .mv (.t 5), none⟩,
                ⟨(some 71), .fad (.t 2) 5, none⟩,
                ⟨(some 72), .ld none (.t 71), none⟩,
                ⟨(some 73), .lenq false (.t 72), none⟩,
                ⟨(some 74), .bin .lss (.t 70) (.t 73), none⟩])
              (.cond (.t 74)
                .skip
                (.exit 1)))
              (.seq (.block 2
                (.seq (.rg [⟨(some 77), .fad (.t 2) 5, none⟩,
                  ⟨(some 78), .ld none (.t 77), none⟩,
                  ⟨(some 79), .mv (.t 5), none⟩,
                  ⟨(some 80), .iad 6 (.t 78) (.t 79), none⟩,
                  ⟨(some 81), .ld (some 6) (.t 80), none⟩,
                  ⟨(some 82), .mv (.t 1), none⟩,
                  ⟨(some 83), .bin .add (.t 82) (.k (.d (.int .i64 1))), none⟩,
                  ⟨(some 84), .call (.k (.fn 34 [])) [(.t 81), (.t 83)], none⟩,
                  ⟨(some 85), .un .not (.t 84), none⟩])
                (.cond (.t 85)
                  (.seq (.rg [⟨(some 4), .mv (.k (.d (.bool false))), none⟩])
                  .ret)
                  .skip)))
              (.rg [⟨(some 75), .mv (.t 5), none⟩,
                ⟨(some 76), .bin .add (.t 75) (.k (.d (.int .i64 1))), none⟩,
                ⟨(some 5), .mv (.t 76), none⟩]))))))
          (.seq (.rg [⟨(some 4), .mv (.k (.d (.bool true))), none⟩])
          .ret)))
          .skip))))))))))
(.seq (.rg [⟨(some 4), .mv (.k (.d (.bool false))), none⟩])
.ret)))) }
theorem af34_ok : cFun Tryz.prog eqT Tryz.f34 = some af34 := by kernel_rfl
/-- dossier/dossierref3.Lex -/
noncomputable def af35 : AFun := { np := 1, nt := 49, res := [.t 2, .t 3, .t 4], code :=
(.seq (.rg [⟨(some 2), .mv (.k (.nils)), none⟩,
  ⟨(some 3), .mv (.k (.d (.int .i64 0))), none⟩,
  ⟨(some 4), .mv (.k (.d (.int .i64 0))), none⟩])
(.seq (.seq (.rg [⟨(some 10), .mv (.t 0), none⟩,
  ⟨(some 11), .lenq true (.t 10), none⟩,
  ⟨(some 12), .bin .gtr (.t 11) (.k (.d (.int .i64 200))), none⟩])
(.cond (.t 12)
  (.seq (.rg [⟨(some 2), .mv (.k (.nils)), none⟩,
    ⟨(some 3), .mv (.k (.d (.int .i64 0))), none⟩,
    ⟨(some 4), .mv (.k (.d (.int .i64 13))), none⟩])
  .ret)
  .skip))
(.seq (.rg [⟨(some 5), .mv (.k (.nils)), none⟩])
(.seq (.rg [⟨(some 6), .mv (.k (.d (.int .i64 0))), none⟩])
(.seq (.block 0
  (.loop
    (.seq (.seq (.rg [⟨(some 13), .mv (.t 6), none⟩,
      ⟨(some 14), .mv (.t 0), none⟩,
      ⟨(some 15), .lenq true (.t 14), none⟩,
      ⟨(some 16), .bin .lss (.t 13) (.t 15), none⟩])
    (.cond (.t 16)
      .skip
      (.exit 0)))
    (.block 1
      (.seq (.seq (.rg [⟨(some 17), .mv (.t 0), none⟩,
        ⟨(some 18), .mv (.t 6), none⟩,
        ⟨(some 19), .ixs (.t 17) (.t 18), none⟩,
        ⟨(some 20), .bin .eql (.t 19) (.k (.d (.int .u8 32))), none⟩])
      (.cond (.t 20)
        (.seq (.rg [⟨(some 21), .mv (.t 6), none⟩,
          ⟨(some 22), .bin .add (.t 21) (.k (.d (.int .i64 1))), none⟩,
          ⟨(some 6), .mv (.t 22), none⟩])
        (.exit 1))
        .skip))
      (.seq (.rg [⟨(some 24), .mv (.t 0), none⟩,
        ⟨(some 25), .mv (.t 6), none⟩,
        ⟨(some 26), .call (.k (.fn 67 [])) [(.t 24), (.t 25)], none⟩,
        ⟨(some 23), .mv (.t 26), none⟩,
        ⟨(some 27), .ext (.t 23) 0, none⟩,
        ⟨(some 28), .ext (.t 23) 1, none⟩,
        ⟨(some 29), .ext (.t 23) 2, none⟩,
        ⟨(some 7), .new [.d (.int .i64 0), .d (.str []), .d (.int .i64 0)], none⟩,
        ⟨none, .st 3 (.t 7) (.t 27), none⟩,
        ⟨(some 8), .mv (.t 28), none⟩,
        ⟨(some 9), .mv (.t 29), none⟩])
      (.seq (.seq (.rg [⟨(some 30), .mv (.t 5), none⟩,
        ⟨(some 31), .lenq false (.t 30), none⟩,
        ⟨(some 32), .bin .geq (.t 31) (.k (.d (.int .i64 60))), none⟩,
        ⟨(some 33), .mv (.t 32), none⟩,
        ⟨(some 34), .mv (.t 9), some (33, true)⟩,
        ⟨(some 35), .bin .eql (.t 34) (.k (.d (.int .i64 0))), some (33, true)⟩,
        ⟨(some 36), .pick (.t 33) (.t 35) (.k (.d (.bool false))), none⟩])
      (.cond (.t 36)
        (.rg [⟨(some 9), .mv (.k (.d (.int .i64 13))), none⟩])
        .skip))
      (.seq (.seq (.rg [⟨(some 37), .mv (.t 9), none⟩,
        ⟨(some 38), .bin .neq (.t 37) (.k (.d (.int .i64 0))), none⟩])
      (.cond (.t 38)
        (.seq (.rg [⟨(some 39), .mv (.t 6), none⟩,
          ⟨(some 40), .mv (.t 9), none⟩,
          ⟨(some 2), .mv (.k (.nils)), none⟩,
          ⟨(some 3), .mv (.t 39), none⟩,
          ⟨(some 4), .mv (.t 40), none⟩])
        .ret)
        .skip))
      (.seq (.rg [⟨(some 41), .mv (.t 5), none⟩,
        ⟨(some 42), .ld (some 3) (.t 7), none⟩,
        ⟨(some 43), .mkrow 70 3 [(.t 42)], none⟩,
        ⟨(some 44), .app 70 3 32 (.t 41) (.t 43), none⟩,
        ⟨(some 5), .mv (.t 44), none⟩])
      (.rg [⟨(some 45), .mv (.t 8), none⟩,
        ⟨(some 6), .mv (.t 45), none⟩]))))))))))
(.seq (.rg [⟨(some 46), .mv (.t 5), none⟩,
  ⟨(some 47), .mv (.t 0), none⟩,
  ⟨(some 48), .lenq true (.t 47), none⟩,
  ⟨(some 2), .mv (.t 46), none⟩,
  ⟨(some 3), .mv (.t 48), none⟩,
  ⟨(some 4), .mv (.k (.d (.int .i64 0))), none⟩])
.ret)))))) }
theorem af35_ok : cFun Tryz.prog eqT Tryz.f35 = some af35 := by kernel_rfl
/-- dossier/dossierref4.Take -/
noncomputable def af36 : AFun := { np := 3, nt := 39, res := [.c 6 (some 8), .t 7, .t 8, .t 9], code :=
(.seq (.rg [⟨(some 6), .new [.d (.int .i64 0), .d (.bool false), .d (.int .i64 0), .d (.int .i64 0), .d (.str []), .d (.bool false), .d (.bool false), .nils], none⟩,
  ⟨(some 7), .mv (.k (.d (.int .i64 0))), none⟩,
  ⟨(some 8), .mv (.k (.d (.int .i64 0))), none⟩,
  ⟨(some 9), .mv (.k (.d (.int .i64 0))), none⟩])
(.seq (.rg [⟨(some 12), .mv (.t 0), none⟩,
  ⟨(some 13), .mv (.t 1), none⟩,
  ⟨(some 14), .mv (.t 2), none⟩,
  ⟨(some 15), .build [.sl [], .int .i64 0, .int .i64 0, .int .i64 0, .int .i64 0] [(0, 1, (.t 12)), (1, 1, (.t 13)), (2, 1, (.t 14))], none⟩,
  ⟨(some 16), .box (.t 15), none⟩,
  ⟨(some 10), .mv (.t 16), none⟩])
(.seq (.rg [⟨(some 17), .mv (.t 10), none⟩,
  ⟨(some 18), .call (.k (.fn 68 [])) [(.t 17), (.k (.d (.int .i64 0)))], none⟩,
  ⟨(some 11), .new [.d (.int .i64 0), .d (.bool false), .d (.int .i64 0), .d (.int .i64 0), .d (.str []), .d (.bool false), .d (.bool false), .nils], none⟩,
  ⟨none, .st 8 (.t 11) (.t 18), none⟩])
(.seq (.seq (.rg [⟨(some 19), .mv (.t 10), none⟩,
  ⟨(some 20), .nilck (.t 19), none⟩,
  ⟨(some 21), .fad (.t 20) 3, none⟩,
  ⟨(some 22), .ld none (.t 21), none⟩,
  ⟨(some 23), .bin .neq (.t 22) (.k (.d (.int .i64 0))), none⟩])
(.cond (.t 23)
  (.seq (.rd [⟨(some 24), .build [.int .i64 0, .bool false, .int .i64 0, .int .i64 0, .str [], .bool false, .bool false, .sl []] [], none⟩,
    ⟨(some 25), .mv (.t 1), none⟩,
    ⟨(some 26), .mv (.t 10), none⟩,
    ⟨(some 27), .nilck (.t 26), none⟩,
    ⟨(some 28), .fad (.t 27) 4, none⟩,
    ⟨(some 29), .ld none (.t 28), none⟩,
    ⟨(some 30), .mv (.t 10), none⟩,
    ⟨(some 31), .nilck (.t 30), none⟩,
    ⟨(some 32), .fad (.t 31) 3, none⟩,
    ⟨(some 33), .ld none (.t 32), none⟩,
    ⟨none, .st 8 (.t 6) (.t 24), none⟩,
    ⟨(some 7), .mv (.t 25), none⟩,
    ⟨(some 8), .mv (.t 29), none⟩,
    ⟨(some 9), .mv (.t 33), none⟩] [(5, 10), (9, 10)])
  .ret)
  .skip))
(.seq (.rd [⟨(some 34), .ld (some 8) (.t 11), none⟩,
  ⟨(some 35), .mv (.t 10), none⟩,
  ⟨(some 36), .nilck (.t 35), none⟩,
  ⟨(some 37), .fad (.t 36) 1, none⟩,
  ⟨(some 38), .ld none (.t 37), none⟩,
  ⟨none, .st 8 (.t 6) (.t 34), none⟩,
  ⟨(some 7), .mv (.t 38), none⟩,
  ⟨(some 8), .mv (.k (.d (.int .i64 0))), none⟩,
  ⟨(some 9), .mv (.k (.d (.int .i64 0))), none⟩] [(4, 5)])
.ret))))) }
theorem af36_ok : cFun Tryz.prog eqT Tryz.f36 = some af36 := by kernel_rfl
/-- dossier/eval.truth -/
noncomputable def af37 : AFun := { np := 1, nt := 5, res := [.c 2 (some 6)], code :=
(.seq (.rg [⟨(some 2), .new [.d (.int .i64 0), .d (.bool false), .d (.int .i64 0), .d (.int .i64 0), .d (.str []), .nils], none⟩])
(.seq (.rg [⟨(some 3), .mv (.t 0), none⟩,
  ⟨(some 4), .build [.int .i64 0, .bool false, .int .i64 0, .int .i64 0, .str [], .sl []] [(0, 1, (.k (.d (.int .i64 1)))), (1, 1, (.t 3))], none⟩,
  ⟨none, .st 6 (.t 2) (.t 4), none⟩])
.ret)) }
theorem af37_ok : cFun Tryz.prog eqT Tryz.f37 = some af37 := by kernel_rfl
/-- dossier/val.Equal -/
noncomputable def af38 : AFun := { np := 2, nt := 9, res := [.t 4], code :=
(.seq (.rg [⟨(some 2), .box (.t 0), none⟩,
  ⟨(some 3), .box (.t 1), none⟩,
  ⟨(some 4), .mv (.k (.d (.bool false))), none⟩])
(.seq (.rg [⟨(some 5), .ld (some 6) (.t 2), none⟩,
  ⟨(some 6), .ld (some 6) (.t 3), none⟩,
  ⟨(some 7), .call (.k (.fn 40 [])) [(.t 5), (.t 6)], none⟩,
  ⟨(some 8), .bin .eql (.t 7) (.k (.d (.int .i64 0))), none⟩,
  ⟨(some 4), .mv (.t 8), none⟩])
.ret)) }
theorem af38_ok : cFun Tryz.prog eqT Tryz.f38 = some af38 := by kernel_rfl
/-- dossier/eval.areAll -/
noncomputable def af39 : AFun := { np := 2, nt := 18, res := [.t 4], code :=
(.seq (.rg [⟨(some 4), .mv (.k (.d (.bool false))), none⟩])
(.seq (.seq (.rg [⟨(some 7), .mv (.t 1), none⟩,
  ⟨(some 8), .lenq false (.t 7), none⟩,
  ⟨(some 9), .mv (.k (.d (.int .i64 0))), none⟩])
(.block 0
  (.loop
    (.seq (.rg [⟨(some 10), .bin .lss (.t 9) (.t 8), none⟩])
    (.seq (.cond (.t 10)
      .skip
      (.exit 0))
    (.seq (.block 1
      (.seq (.rg [⟨(some 11), .iad 6 (.t 7) (.t 9), none⟩,
        ⟨(some 12), .ld (some 6) (.t 11), none⟩,
        ⟨(some 6), .new [.d (.int .i64 0), .d (.bool false), .d (.int .i64 0), .d (.int .i64 0), .d (.str []), .nils], none⟩,
        ⟨none, .st 6 (.t 6) (.t 12), none⟩])
      (.seq (.rg [⟨(some 13), .fad (.t 6) 0, none⟩,
        ⟨(some 14), .ld none (.t 13), none⟩,
        ⟨(some 15), .mv (.t 0), none⟩,
        ⟨(some 16), .bin .neq (.t 14) (.t 15), none⟩])
      (.cond (.t 16)
        (.seq (.rg [⟨(some 4), .mv (.k (.d (.bool false))), none⟩])
        .ret)
        .skip))))
    (.rg [⟨(some 17), .bin .add (.t 9) (.k (.d (.int .i64 1))), none⟩,
      ⟨(some 9), .mv (.t 17), none⟩])))))))
(.seq (.rg [⟨(some 4), .mv (.k (.d (.bool true))), none⟩])
.ret))) }
theorem af39_ok : cFun Tryz.prog eqT Tryz.f39 = some af39 := by kernel_rfl
/-- dossier/val.Cmp -/
noncomputable def af40 : AFun := { np := 2, nt := 45, res := [.t 4], code :=
(.seq (.rg [⟨(some 2), .box (.t 0), none⟩,
  ⟨(some 3), .box (.t 1), none⟩,
  ⟨(some 4), .mv (.k (.d (.int .i64 0))), none⟩])
(.seq (.seq (.rg [⟨(some 5), .fad (.t 2) 0, none⟩,
  ⟨(some 6), .ld none (.t 5), none⟩,
  ⟨(some 7), .fad (.t 3) 0, none⟩,
  ⟨(some 8), .ld none (.t 7), none⟩,
  ⟨(some 9), .bin .neq (.t 6) (.t 8), none⟩])
(.cond (.t 9)
  (.seq (.rg [⟨(some 10), .fad (.t 2) 0, none⟩,
    ⟨(some 11), .ld none (.t 10), none⟩,
    ⟨(some 12), .fad (.t 3) 0, none⟩,
    ⟨(some 13), .ld none (.t 12), none⟩,
    ⟨(some 14), .call (.k (.fn 69 [])) [(.t 11), (.t 13)], none⟩,
    ⟨(some 4), .mv (.t 14), none⟩])
  .ret)
  .skip))
(.seq (.seq (.rg [⟨(some 15), .fad (.t 2) 0, none⟩,
  ⟨(some 16), .ld none (.t 15), none⟩])
(.block 0
  (.seq (.rg [⟨(some 18), .bin .eql (.t 16) (.k (.d (.int .i64 1))), none⟩,
    ⟨(some 17), .mv (.t 18), none⟩])
  (.cond (.t 17)
    (.seq (.rd [⟨(some 19), .fad (.t 2) 1, none⟩,
      ⟨(some 20), .ld none (.t 19), none⟩,
      ⟨(some 21), .call (.k (.fn 70 [])) [(.t 20)], none⟩,
      ⟨(some 22), .fad (.t 3) 1, none⟩,
      ⟨(some 23), .ld none (.t 22), none⟩,
      ⟨(some 24), .call (.k (.fn 70 [])) [(.t 23)], none⟩,
      ⟨(some 25), .bin .sub (.t 21) (.t 24), none⟩,
      ⟨(some 4), .mv (.t 25), none⟩] [(2, 4), (1, 5)])
    .ret)
    (.seq (.rg [⟨(some 27), .bin .eql (.t 16) (.k (.d (.int .i64 2))), none⟩,
      ⟨(some 26), .mv (.t 27), none⟩])
    (.cond (.t 26)
      (.seq (.rg [⟨(some 28), .fad (.t 2) 2, none⟩,
        ⟨(some 29), .ld (some 2) (.t 28), none⟩,
        ⟨(some 30), .fad (.t 3) 2, none⟩,
        ⟨(some 31), .ld (some 2) (.t 30), none⟩,
        ⟨(some 32), .call (.k (.fn 71 [])) [(.t 29), (.t 31)], none⟩,
        ⟨(some 4), .mv (.t 32), none⟩])
      .ret)
      (.seq (.rg [⟨(some 34), .bin .eql (.t 16) (.k (.d (.int .i64 3))), none⟩,
        ⟨(some 33), .mv (.t 34), none⟩])
      (.cond (.t 33)
        (.seq (.rg [⟨(some 35), .fad (.t 2) 4, none⟩,
          ⟨(some 36), .ld none (.t 35), none⟩,
          ⟨(some 37), .fad (.t 3) 4, none⟩,
          ⟨(some 38), .ld none (.t 37), none⟩,
          ⟨(some 39), .call (.k (.fn 72 [])) [(.t 36), (.t 38)], none⟩,
          ⟨(some 4), .mv (.t 39), none⟩])
        .ret)
        .skip))))))))
(.seq (.rg [⟨(some 40), .fad (.t 2) 5, none⟩,
  ⟨(some 41), .ld none (.t 40), none⟩,
  ⟨(some 42), .fad (.t 3) 5, none⟩,
  ⟨(some 43), .ld none (.t 42), none⟩,
  ⟨(some 44), .call (.k (.fn 73 [])) [(.t 41), (.t 43), (.k (.fn 40 []))], none⟩,
  ⟨(some 4), .mv (.t 44), none⟩])
.ret)))) }
theorem af40_ok : cFun Tryz.prog eqT Tryz.f40 = some af40 := by kernel_rfl
/-- dossier/dossierref2.Cmp -/
noncomputable def af41 : AFun := { np := 2, nt := 83, res := [.t 4], code :=
(.seq (.rg [⟨(some 2), .box (.t 0), none⟩,
  ⟨(some 3), .box (.t 1), none⟩,
  ⟨(some 4), .mv (.k (.d (.int .i64 0))), none⟩])
(.seq (.seq (.rg [⟨(some 7), .fad (.t 2) 0, none⟩,
  ⟨(some 8), .ld none (.t 7), none⟩,
  ⟨(some 9), .fad (.t 3) 0, none⟩,
  ⟨(some 10), .ld none (.t 9), none⟩,
  ⟨(some 11), .bin .neq (.t 8) (.t 10), none⟩])
(.cond (.t 11)
  (.seq (.rg [⟨(some 12), .fad (.t 2) 0, none⟩,
    ⟨(some 13), .ld none (.t 12), none⟩,
    ⟨(some 14), .fad (.t 3) 0, none⟩,
    ⟨(some 15), .ld none (.t 14), none⟩,
    ⟨(some 16), .call (.k (.fn 74 [])) [(.t 13), (.t 15)], none⟩,
    ⟨(some 4), .mv (.t 16), none⟩])
  .ret)
  .skip))
(.seq (.seq (.rg [⟨(some 17), .fad (.t 2) 0, none⟩,
  ⟨(some 18), .ld none (.t 17), none⟩])
(.block 0
  (.seq (.rg [⟨(some 20), .bin .eql (.t 18) (.k (.d (.int .i64 1))), none⟩,
    ⟨(some 19), .mv (.t 20), none⟩])
  (.cond (.t 19)
    (.seq (.rd [⟨(some 21), .fad (.t 2) 1, none⟩,
      ⟨(some 22), .ld none (.t 21), none⟩,
      ⟨(some 23), .call (.k (.fn 75 [])) [(.t 22)], none⟩,
      ⟨(some 24), .fad (.t 3) 1, none⟩,
      ⟨(some 25), .ld none (.t 24), none⟩,
      ⟨(some 26), .call (.k (.fn 75 [])) [(.t 25)], none⟩,
      ⟨(some 27), .call (.k (.fn 74 [])) [(.t 23), (.t 26)], none⟩,
      ⟨(some 4), .mv (.t 27), none⟩] [(2, 4), (1, 5), (1, 6), (4, 6)])
    .ret)
    (.seq (.rg [⟨(some 29), .bin .eql (.t 18) (.k (.d (.int .i64 2))), none⟩,
      ⟨(some 28), .mv (.t 29), none⟩])
    (.cond (.t 28)
      (.seq (.rg [⟨(some 30), .fad (.t 2) 2, none⟩,
        ⟨(some 31), .ld (some 2) (.t 30), none⟩,
        ⟨(some 32), .fad (.t 3) 2, none⟩,
        ⟨(some 33), .ld (some 2) (.t 32), none⟩,
        ⟨(some 34), .call (.k (.fn 76 [])) [(.t 31), (.t 33)], none⟩,
        ⟨(some 4), .mv (.t 34), none⟩])
      .ret)
      (.seq (.rg [⟨(some 36), .bin .eql (.t 18) (.k (.d (.int .i64 3))), none⟩,
        ⟨(some 35), .mv (.t 36), none⟩])
      (.cond (.t 35)
        (.seq (.seq (.rg [⟨(some 37), .fad (.t 2) 4, none⟩,
          ⟨(some 38), .ld none (.t 37), none⟩,
          ⟨(some 39), .fad (.t 3) 4, none⟩,
          ⟨(some 40), .ld none (.t 39), none⟩,
          ⟨(some 41), .bin .lss (.t 38) (.t 40), none⟩])
        (.cond (.t 41)
          (.seq (.rg [⟨(some 4), .mv (.k (.d (.int .i64 (-1)))), none⟩])
          .ret)
          .skip))
        (.seq (.rg [⟨(some 42), .fad (.t 2) 4, none⟩,
          ⟨(some 43), .ld none (.t 42), none⟩,
          ⟨(some 44), .fad (.t 3) 4, none⟩,
          ⟨(some 45), .ld none (.t 44), none⟩,
          ⟨(some 46), .bin .gtr (.t 43) (.t 45), none⟩,
          ⟨(some 47), .call (.k (.fn 75 [])) [(.t 46)], none⟩,
          ⟨(some 4), .mv (.t 47), none⟩])
        .ret))
        .skip))))))))
(.seq (.seq (.rg [⟨(some 5), .mv (.k (.d (.int .i64 0))), none⟩])
(.block 1
  (.loop
    (.seq (.seq (.rg [⟨(some 48), .mv (.t 5), none⟩,
      ⟨(some 49), .fad (.t 2) 5, none⟩,
      ⟨(some 50), .ld none (.t 49), none⟩,
      ⟨(some 51), .lenq false (.t 50), none⟩,
      ⟨(some 52), .bin .lss (.t 48) (.t 51), none⟩,
      ⟨(some 53), .mv (.t 52), none⟩,
      ⟨(some 54), .mv (.t 5), some (53, true)⟩,
      ⟨(some 55), .fad (.t 3) 5, some (53, true)⟩,
      ⟨(some 56), .ld none (.t 55), some (53, true)⟩,
      ⟨(some 57), .lenq false (.t 56), some (53, true)⟩,
      ⟨(some 58), .bin .lss (.t 54) (.t 57), some (53, true)⟩,
      ⟨(some 59), .pick (.t 53) (.t 58) (.k (.d (.bool false))), none⟩])
    (.cond (.t 59)
      .skip
      (.exit 1)))
    (.seq (.block 2
      (.seq (.rd [⟨(some 62), .fad (.t 2) 5, none⟩,
        ⟨(some 63), .ld none (.t 62), none⟩,
        ⟨(some 64), .mv (.t 5), none⟩,
        ⟨(some 65), .iad 6 (.t 63) (.t 64), none⟩,
        ⟨(some 66), .ld (some 6) (.t 65), none⟩,
        ⟨(some 67), .fad (.t 3) 5, none⟩,
        ⟨(some 68), .ld none (.t 67), none⟩,
        ⟨(some 69), .mv (.t 5), none⟩,
        ⟨(some 70), .iad 6 (.t 68) (.t 69), none⟩,
        ⟨(some 71), .ld (some 6) (.t 70), none⟩,
        ⟨(some 72), .call (.k (.fn 41 [])) [(.t 66), (.t 71)], none⟩,
        ⟨(some 6), .mv (.t 72), none⟩] [(1, 10), (6, 10)])
      (.seq (.rg [⟨(some 73), .mv (.t 6), none⟩,
        ⟨(some 74), .bin .neq (.t 73) (.k (.d (.int .i64 0))), none⟩])
      (.cond (.t 74)
        (.seq (.rg [⟨(some 75), .mv (.t 6), none⟩,
          ⟨(some 4), .mv (.t 75), none⟩])
        .ret)
        .skip))))
    (.rg [⟨(some 60), .mv (.t 5), none⟩,
      ⟨(some 61), .bin .add (.t 60) (.k (.d (.int .i64 1))), none⟩,
      ⟨(some 5), .mv (.t 61), none⟩]))))))
(.seq (.rg [⟨(some 76), .fad (.t 2) 5, none⟩,
  ⟨(some 77), .ld none (.t 76), none⟩,
  ⟨(some 78), .lenq false (.t 77), none⟩,
  ⟨(some 79), .fad (.t 3) 5, none⟩,
  ⟨(some 80), .ld none (.t 79), none⟩,
  ⟨(some 81), .lenq false (.t 80), none⟩,
  ⟨(some 82), .call (.k (.fn 74 [])) [(.t 78), (.t 81)], none⟩,
  ⟨(some 4), .mv (.t 82), none⟩])
.ret))))) }
theorem af41_ok : cFun Tryz.prog eqT Tryz.f41 = some af41 := by kernel_rfl
/-- dossier/dossierref2.Of -/
noncomputable def af42 : AFun := { np := 1, nt := 5, res := [.c 2 (some 6)], code :=
(.seq (.rg [⟨(some 2), .new [.d (.int .i64 0), .d (.bool false), .d (.int .i64 0), .d (.int .i64 0), .d (.str []), .nils], none⟩])
(.seq (.rg [⟨(some 3), .mv (.t 0), none⟩,
  ⟨(some 4), .build [.int .i64 0, .bool false, .int .i64 0, .int .i64 0, .str [], .sl []] [(0, 1, (.k (.d (.int .i64 1)))), (1, 1, (.t 3))], none⟩,
  ⟨none, .st 6 (.t 2) (.t 4), none⟩])
.ret)) }
theorem af42_ok : cFun Tryz.prog eqT Tryz.f42 = some af42 := by kernel_rfl
/-- dossier/dec.Is -/
noncomputable def af43 : AFun := { np := 1, nt := 32, res := [.t 2], code :=
(.seq (.rg [⟨(some 1), .box (.t 0), none⟩,
  ⟨(some 2), .mv (.k (.d (.bool false))), none⟩])
(.seq (.rg [⟨(some 3), .fad (.t 1) 0, none⟩,
  ⟨(some 4), .ld none (.t 3), none⟩,
  ⟨(some 5), .bin .geq (.t 4) (.k (.d (.int .i64 (-1000000000)))), none⟩,
  ⟨(some 6), .mv (.t 5), none⟩,
  ⟨(some 7), .fad (.t 1) 0, some (6, true)⟩,
  ⟨(some 8), .ld none (.t 7), some (6, true)⟩,
  ⟨(some 9), .bin .leq (.t 8) (.k (.d (.int .i64 1000000000))), some (6, true)⟩,
  ⟨(some 10), .pick (.t 6) (.t 9) (.k (.d (.bool false))), none⟩,
  ⟨(some 11), .mv (.t 10), none⟩,
  ⟨(some 12), .fad (.t 1) 1, some (11, true)⟩,
  ⟨(some 13), .ld none (.t 12), some (11, true)⟩,
  ⟨(some 14), .bin .geq (.t 13) (.k (.d (.int .i64 0))), some (11, true)⟩,
  ⟨(some 15), .pick (.t 11) (.t 14) (.k (.d (.bool false))), none⟩,
  ⟨(some 16), .mv (.t 15), none⟩,
  ⟨(some 17), .fad (.t 1) 1, some (16, true)⟩,
  ⟨(some 18), .ld none (.t 17), some (16, true)⟩,
  ⟨(some 19), .bin .leq (.t 18) (.k (.d (.int .i64 4))), some (16, true)⟩,
  ⟨(some 20), .pick (.t 16) (.t 19) (.k (.d (.bool false))), none⟩,
  ⟨(some 21), .mv (.t 20), none⟩,
  ⟨(some 22), .fad (.t 1) 1, some (21, true)⟩,
  ⟨(some 23), .ld none (.t 22), some (21, true)⟩,
  ⟨(some 24), .bin .eql (.t 23) (.k (.d (.int .i64 0))), some (21, true)⟩,
  ⟨(some 25), .mv (.t 24), some (21, true)⟩,
  ⟨(some 26), .fad (.t 1) 0, some (25, false)⟩,
  ⟨(some 27), .ld none (.t 26), some (25, false)⟩,
  ⟨(some 28), .bin .rem (.t 27) (.k (.d (.int .i64 10))), some (25, false)⟩,
  ⟨(some 29), .bin .neq (.t 28) (.k (.d (.int .i64 0))), some (25, false)⟩,
  ⟨(some 30), .pick (.t 25) (.k (.d (.bool true))) (.t 29), some (21, true)⟩,
  ⟨(some 31), .pick (.t 21) (.t 30) (.k (.d (.bool false))), none⟩,
  ⟨(some 2), .mv (.t 31), none⟩])
.ret)) }
theorem af43_ok : cFun Tryz.prog eqT Tryz.f43 = some af43 := by kernel_rfl
/-- dossier/val.Is -/
noncomputable def af44 : AFun := { np := 1, nt := 5, res := [.t 2], code :=
(.seq (.rg [⟨(some 1), .box (.t 0), none⟩,
  ⟨(some 2), .mv (.k (.d (.bool false))), none⟩])
(.seq (.rg [⟨(some 3), .ld (some 6) (.t 1), none⟩,
  ⟨(some 4), .call (.k (.fn 77 [])) [(.t 3), (.k (.d (.int .i64 0)))], none⟩,
  ⟨(some 2), .mv (.t 4), none⟩])
.ret)) }
theorem af44_ok : cFun Tryz.prog eqT Tryz.f44 = some af44 := by kernel_rfl
/-- dossier/val.Truth -/
noncomputable def af45 : AFun := { np := 1, nt := 10, res := [.t 2], code :=
(.seq (.rg [⟨(some 1), .box (.t 0), none⟩,
  ⟨(some 2), .mv (.k (.d (.bool false))), none⟩])
(.seq (.rg [⟨(some 3), .fad (.t 1) 0, none⟩,
  ⟨(some 4), .ld none (.t 3), none⟩,
  ⟨(some 5), .bin .eql (.t 4) (.k (.d (.int .i64 1))), none⟩,
  ⟨(some 6), .mv (.t 5), none⟩,
  ⟨(some 7), .fad (.t 1) 1, some (6, true)⟩,
  ⟨(some 8), .ld none (.t 7), some (6, true)⟩,
  ⟨(some 9), .pick (.t 6) (.t 8) (.k (.d (.bool false))), none⟩,
  ⟨(some 2), .mv (.t 9), none⟩])
.ret)) }
theorem af45_ok : cFun Tryz.prog eqT Tryz.f45 = some af45 := by kernel_rfl
/-- dossier/eval.num -/
noncomputable def af46 : AFun := { np := 1, nt := 5, res := [.c 2 (some 6)], code :=
(.seq (.rg [⟨(some 1), .box (.t 0), none⟩,
  ⟨(some 2), .new [.d (.int .i64 0), .d (.bool false), .d (.int .i64 0), .d (.int .i64 0), .d (.str []), .nils], none⟩])
(.seq (.rg [⟨(some 3), .ld (some 2) (.t 1), none⟩,
  ⟨(some 4), .build [.int .i64 0, .bool false, .int .i64 0, .int .i64 0, .str [], .sl []] [(0, 1, (.k (.d (.int .i64 2)))), (2, 2, (.t 3))], none⟩,
  ⟨none, .st 6 (.t 2) (.t 4), none⟩])
.ret)) }
theorem af46_ok : cFun Tryz.prog eqT Tryz.f46 = some af46 := by kernel_rfl
/-- dossier/eval.named -/
noncomputable def af47 : AFun := { np := 2, nt := 22, res := [.c 4 (some 6)], code :=
(.seq (.rg [⟨(some 4), .new [.d (.int .i64 0), .d (.bool false), .d (.int .i64 0), .d (.int .i64 0), .d (.str []), .nils], none⟩])
(.seq (.seq (.rg [⟨(some 7), .mv (.t 1), none⟩,
  ⟨(some 8), .lenq false (.t 7), none⟩,
  ⟨(some 9), .mv (.k (.d (.int .i64 0))), none⟩])
(.block 0
  (.loop
    (.seq (.rg [⟨(some 10), .bin .lss (.t 9) (.t 8), none⟩])
    (.seq (.cond (.t 10)
      .skip
      (.exit 0))
    (.seq (.block 1
      (.seq (.rg [⟨(some 11), .iad 7 (.t 7) (.t 9), none⟩,
        ⟨(some 12), .ld (some 7) (.t 11), none⟩,
        ⟨(some 6), .new [.d (.str []), .d (.int .i64 0), .d (.bool false), .d (.int .i64 0), .d (.int .i64 0), .d (.str []), .nils], none⟩,
        ⟨none, .st 7 (.t 6) (.t 12), none⟩])
      (.seq (.rg [⟨(some 13), .fad (.t 6) 0, none⟩,
        ⟨(some 14), .ld none (.t 13), none⟩,
        ⟨(some 15), .mv (.t 0), none⟩,
        ⟨(some 16), .bin .eql (.t 14) (.t 15), none⟩])
      (.cond (.t 16)
        (.seq (.rg [⟨(some 17), .fad (.t 6) 1, none⟩,
          ⟨(some 18), .ld (some 6) (.t 17), none⟩,
          ⟨(some 19), .call (.k (.fn 78 [])) [(.t 18)], none⟩,
          ⟨none, .st 6 (.t 4) (.t 19), none⟩])
        .ret)
        .skip))))
    (.rg [⟨(some 20), .bin .add (.t 9) (.k (.d (.int .i64 1))), none⟩,
      ⟨(some 9), .mv (.t 20), none⟩])))))))
(.seq (.rg [⟨(some 21), .build [.int .i64 0, .bool false, .int .i64 0, .int .i64 0, .str [], .sl []] [], none⟩,
  ⟨none, .st 6 (.t 4) (.t 21), none⟩])
.ret))) }
theorem af47_ok : cFun Tryz.prog eqT Tryz.f47 = some af47 := by kernel_rfl
/-- dossier/eval.bin -/
noncomputable def af48 : AFun := { np := 3, nt := 69, res := [.c 6 (some 6), .t 7], code :=
(.seq (.rg [⟨(some 4), .box (.t 1), none⟩,
  ⟨(some 5), .box (.t 2), none⟩,
  ⟨(some 6), .new [.d (.int .i64 0), .d (.bool false), .d (.int .i64 0), .d (.int .i64 0), .d (.str []), .nils], none⟩,
  ⟨(some 7), .mv (.k (.d (.int .i64 0))), none⟩])
(.seq (.rg [⟨(some 9), .ld (some 6) (.t 4), none⟩,
  ⟨(some 10), .ld (some 6) (.t 5), none⟩,
  ⟨(some 11), .mkrow 32 6 [(.t 9), (.t 10)], none⟩,
  ⟨(some 12), .call (.k (.fn 39 [])) [(.k (.d (.int .i64 2))), (.t 11)], none⟩,
  ⟨(some 8), .mv (.t 12), none⟩])
(.seq (.seq (.rg [⟨(some 13), .mv (.t 0), none⟩])
(.block 0
  (.seq (.rg [⟨(some 15), .bin .eql (.t 13) (.k (.d (.str [97, 110, 100]))), none⟩,
    ⟨(some 14), .mv (.t 15), none⟩])
  (.cond (.t 14)
    (.seq (.rg [⟨(some 16), .ld (some 6) (.t 4), none⟩,
      ⟨(some 17), .ld (some 6) (.t 5), none⟩,
      ⟨(some 18), .call (.k (.fn 79 [])) [(.t 16), (.t 17)], none⟩,
      ⟨none, .st 6 (.t 6) (.t 18), none⟩,
      ⟨(some 7), .mv (.k (.d (.int .i64 0))), none⟩])
    .ret)
    (.seq (.rg [⟨(some 20), .bin .eql (.t 13) (.k (.d (.str [111, 114]))), none⟩,
      ⟨(some 19), .mv (.t 20), none⟩])
    (.cond (.t 19)
      (.seq (.rg [⟨(some 21), .ld (some 6) (.t 4), none⟩,
        ⟨(some 22), .ld (some 6) (.t 5), none⟩,
        ⟨(some 23), .call (.k (.fn 80 [])) [(.t 21), (.t 22)], none⟩,
        ⟨none, .st 6 (.t 6) (.t 23), none⟩,
        ⟨(some 7), .mv (.k (.d (.int .i64 0))), none⟩])
      .ret)
      (.seq (.rg [⟨(some 25), .bin .eql (.t 13) (.k (.d (.str [43]))), none⟩,
        ⟨(some 24), .mv (.t 25), none⟩])
      (.cond (.t 24)
        (.seq (.block 1
          (.seq (.rg [⟨(some 27), .mv (.t 8), none⟩,
            ⟨(some 26), .mv (.t 27), none⟩])
          (.cond (.t 26)
            (.seq (.rg [⟨(some 28), .fad (.t 4) 2, none⟩,
              ⟨(some 29), .ld (some 2) (.t 28), none⟩,
              ⟨(some 30), .fad (.t 5) 2, none⟩,
              ⟨(some 31), .ld (some 2) (.t 30), none⟩,
              ⟨(some 32), .call (.k (.fn 82 [])) [(.t 29), (.t 31)], none⟩,
              ⟨(some 33), .ext (.t 32) 0, none⟩,
              ⟨(some 34), .ext (.t 32) 1, none⟩,
              ⟨(some 35), .call (.k (.fn 81 [])) [(.t 33), (.t 34)], none⟩,
              ⟨(some 36), .ext (.t 35) 0, none⟩,
              ⟨(some 37), .ext (.t 35) 1, none⟩,
              ⟨none, .st 6 (.t 6) (.t 36), none⟩,
              ⟨(some 7), .mv (.t 37), none⟩])
            .ret)
            (.seq (.rg [⟨(some 39), .ld (some 6) (.t 4), none⟩,
              ⟨(some 40), .ld (some 6) (.t 5), none⟩,
              ⟨(some 41), .mkrow 32 6 [(.t 39), (.t 40)], none⟩,
              ⟨(some 42), .call (.k (.fn 39 [])) [(.k (.d (.int .i64 3))), (.t 41)], none⟩,
              ⟨(some 38), .mv (.t 42), none⟩])
            (.cond (.t 38)
              (.seq (.rg [⟨(some 43), .ld (some 6) (.t 4), none⟩,
                ⟨(some 44), .ld (some 6) (.t 5), none⟩,
                ⟨(some 45), .mkrow 32 6 [(.t 43), (.t 44)], none⟩,
                ⟨(some 46), .call (.k (.fn 83 [])) [(.t 45)], none⟩,
                ⟨(some 47), .ext (.t 46) 0, none⟩,
                ⟨(some 48), .ext (.t 46) 1, none⟩,
                ⟨none, .st 6 (.t 6) (.t 47), none⟩,
                ⟨(some 7), .mv (.t 48), none⟩])
              .ret)
              .skip)))))
        (.seq (.rg [⟨(some 49), .build [.int .i64 0, .bool false, .int .i64 0, .int .i64 0, .str [], .sl []] [], none⟩,
          ⟨none, .st 6 (.t 6) (.t 49), none⟩,
          ⟨(some 7), .mv (.k (.d (.int .i64 0))), none⟩])
        .ret))
        (.seq (.seq (.rg [⟨(some 51), .bin .eql (.t 13) (.k (.d (.str [45]))), none⟩,
          ⟨(some 50), .mv (.t 51), none⟩])
        (.cond (.t 50)
          .skip
          (.seq (.rg [⟨(some 52), .bin .eql (.t 13) (.k (.d (.str [42]))), none⟩,
            ⟨(some 50), .mv (.t 52), none⟩])
          (.cond (.t 50)
            .skip
            (.rg [⟨(some 53), .bin .eql (.t 13) (.k (.d (.str [47]))), none⟩,
              ⟨(some 50), .mv (.t 53), none⟩])))))
        (.cond (.t 50)
          (.seq (.seq (.rg [⟨(some 54), .mv (.t 8), none⟩,
            ⟨(some 55), .un .not (.t 54), none⟩])
          (.cond (.t 55)
            (.seq (.rg [⟨(some 56), .build [.int .i64 0, .bool false, .int .i64 0, .int .i64 0, .str [], .sl []] [], none⟩,
              ⟨none, .st 6 (.t 6) (.t 56), none⟩,
              ⟨(some 7), .mv (.k (.d (.int .i64 0))), none⟩])
            .ret)
            .skip))
          (.seq (.rg [⟨(some 57), .mv (.t 0), none⟩,
            ⟨(some 58), .fad (.t 4) 2, none⟩,
            ⟨(some 59), .ld (some 2) (.t 58), none⟩,
            ⟨(some 60), .fad (.t 5) 2, none⟩,
            ⟨(some 61), .ld (some 2) (.t 60), none⟩,
            ⟨(some 62), .call (.k (.fn 84 [])) [(.t 57), (.t 59), (.t 61)], none⟩,
            ⟨(some 63), .ext (.t 62) 0, none⟩,
            ⟨(some 64), .ext (.t 62) 1, none⟩,
            ⟨none, .st 6 (.t 6) (.t 63), none⟩,
            ⟨(some 7), .mv (.t 64), none⟩])
          .ret))
          .skip))))))))))
(.seq (.rg [⟨(some 65), .mv (.t 0), none⟩,
  ⟨(some 66), .ld (some 6) (.t 4), none⟩,
  ⟨(some 67), .ld (some 6) (.t 5), none⟩,
  ⟨(some 68), .call (.k (.fn 17 [])) [(.t 65), (.t 66), (.t 67)], none⟩,
  ⟨none, .st 6 (.t 6) (.t 68), none⟩,
  ⟨(some 7), .mv (.k (.d (.int .i64 0))), none⟩])
.ret)))) }
theorem af48_ok : cFun Tryz.prog eqT Tryz.f48 = some af48 := by kernel_rfl
/-- dossier/eval.whole -/
noncomputable def af49 : AFun := { np := 1, nt := 6, res := [.c 2 (some 6)], code :=
(.seq (.rg [⟨(some 2), .new [.d (.int .i64 0), .d (.bool false), .d (.int .i64 0), .d (.int .i64 0), .d (.str []), .nils], none⟩])
(.seq (.rg [⟨(some 3), .mv (.t 0), none⟩,
  ⟨(some 4), .build [.int .i64 0, .int .i64 0] [(0, 1, (.t 3))], none⟩,
  ⟨(some 5), .call (.k (.fn 46 [])) [(.t 4)], none⟩,
  ⟨none, .st 6 (.t 2) (.t 5), none⟩])
.ret)) }
theorem af49_ok : cFun Tryz.prog eqT Tryz.f49 = some af49 := by kernel_rfl
/-- dossier/eval.list -/
noncomputable def af50 : AFun := { np := 1, nt := 18, res := [.c 2 (some 6), .t 3], code :=
(.seq (.rg [⟨(some 2), .new [.d (.int .i64 0), .d (.bool false), .d (.int .i64 0), .d (.int .i64 0), .d (.str []), .nils], none⟩,
  ⟨(some 3), .mv (.k (.d (.int .i64 0))), none⟩])
(.seq (.rg [⟨(some 5), .mv (.t 0), none⟩,
  ⟨(some 6), .build [.int .i64 0, .bool false, .int .i64 0, .int .i64 0, .str [], .sl []] [(0, 1, (.k (.d (.int .i64 4)))), (5, 1, (.t 5))], none⟩,
  ⟨(some 7), .call (.k (.fn 78 [])) [(.t 6)], none⟩,
  ⟨(some 4), .new [.d (.int .i64 0), .d (.bool false), .d (.int .i64 0), .d (.int .i64 0), .d (.str []), .nils], none⟩,
  ⟨none, .st 6 (.t 4) (.t 7), none⟩])
(.seq (.seq (.rg [⟨(some 8), .mv (.t 0), none⟩,
  ⟨(some 9), .lenq false (.t 8), none⟩,
  ⟨(some 10), .bin .gtr (.t 9) (.k (.d (.int .i64 8))), none⟩,
  ⟨(some 11), .mv (.t 10), none⟩,
  ⟨(some 12), .ld (some 6) (.t 4), some (11, false)⟩,
  ⟨(some 13), .call (.k (.fn 85 [])) [(.t 12)], some (11, false)⟩,
  ⟨(some 14), .bin .gtr (.t 13) (.k (.d (.int .i64 2))), some (11, false)⟩,
  ⟨(some 15), .pick (.t 11) (.k (.d (.bool true))) (.t 14), none⟩])
(.cond (.t 15)
  (.seq (.rg [⟨(some 16), .build [.int .i64 0, .bool false, .int .i64 0, .int .i64 0, .str [], .sl []] [], none⟩,
    ⟨none, .st 6 (.t 2) (.t 16), none⟩,
    ⟨(some 3), .mv (.k (.d (.int .i64 3))), none⟩])
  .ret)
  .skip))
(.seq (.rg [⟨(some 17), .ld (some 6) (.t 4), none⟩,
  ⟨none, .st 6 (.t 2) (.t 17), none⟩,
  ⟨(some 3), .mv (.k (.d (.int .i64 0))), none⟩])
.ret)))) }
theorem af50_ok : cFun Tryz.prog eqT Tryz.f50 = some af50 := by kernel_rfl
/-- dossier/eval.within -/
noncomputable def af51 : AFun := { np := 2, nt := 28, res := [.c 4 (some 6)], code :=
(.seq (.rg [⟨(some 2), .box (.t 0), none⟩,
  ⟨(some 4), .new [.d (.int .i64 0), .d (.bool false), .d (.int .i64 0), .d (.int .i64 0), .d (.str []), .nils], none⟩])
(.seq (.rg [⟨(some 5), .mv (.k (.d (.str [62]))), none⟩,
  ⟨(some 6), .mv (.k (.d (.str [60]))), none⟩])
(.seq (.seq (.rg [⟨(some 7), .fad (.t 2) 5, none⟩,
  ⟨(some 8), .ld none (.t 7), none⟩])
(.cond (.t 8)
  (.rg [⟨(some 5), .mv (.k (.d (.str [62, 61]))), none⟩])
  .skip))
(.seq (.seq (.rg [⟨(some 9), .fad (.t 2) 6, none⟩,
  ⟨(some 10), .ld none (.t 9), none⟩])
(.cond (.t 10)
  (.rg [⟨(some 6), .mv (.k (.d (.str [60, 61]))), none⟩])
  .skip))
(.seq (.rd [⟨(some 11), .mv (.t 5), none⟩,
  ⟨(some 12), .mv (.t 1), none⟩,
  ⟨(some 13), .iad 6 (.t 12) (.k (.d (.int .i64 0))), none⟩,
  ⟨(some 14), .ld (some 6) (.t 13), none⟩,
  ⟨(some 15), .mv (.t 1), none⟩,
  ⟨(some 16), .iad 6 (.t 15) (.k (.d (.int .i64 1))), none⟩,
  ⟨(some 17), .ld (some 6) (.t 16), none⟩,
  ⟨(some 18), .call (.k (.fn 17 [])) [(.t 11), (.t 14), (.t 17)], none⟩,
  ⟨(some 19), .mv (.t 6), none⟩,
  ⟨(some 20), .mv (.t 1), none⟩,
  ⟨(some 21), .iad 6 (.t 20) (.k (.d (.int .i64 0))), none⟩,
  ⟨(some 22), .ld (some 6) (.t 21), none⟩,
  ⟨(some 23), .mv (.t 1), none⟩,
  ⟨(some 24), .iad 6 (.t 23) (.k (.d (.int .i64 2))), none⟩,
  ⟨(some 25), .ld (some 6) (.t 24), none⟩,
  ⟨(some 26), .call (.k (.fn 17 [])) [(.t 19), (.t 22), (.t 25)], none⟩,
  ⟨(some 27), .call (.k (.fn 79 [])) [(.t 18), (.t 26)], none⟩,
  ⟨none, .st 6 (.t 4) (.t 27), none⟩] [(7, 11), (7, 14), (3, 15), (6, 15), (3, 16), (6, 16), (11, 16), (14, 16)])
.ret))))) }
theorem af51_ok : cFun Tryz.prog eqT Tryz.f51 = some af51 := by kernel_rfl
/-- dossier/eval.call -/
noncomputable def af52 : AFun := { np := 2, nt := 51, res := [.c 4 (some 6), .t 5], code :=
(.seq (.rg [⟨(some 4), .new [.d (.int .i64 0), .d (.bool false), .d (.int .i64 0), .d (.int .i64 0), .d (.str []), .nils], none⟩,
  ⟨(some 5), .mv (.k (.d (.int .i64 0))), none⟩])
(.seq (.seq (.rg [⟨(some 6), .mv (.t 0), none⟩])
(.block 0
  (.seq (.seq (.rg [⟨(some 8), .bin .eql (.t 6) (.k (.d (.str [109, 105, 110]))), none⟩,
    ⟨(some 7), .mv (.t 8), none⟩])
  (.cond (.t 7)
    .skip
    (.seq (.rg [⟨(some 9), .bin .eql (.t 6) (.k (.d (.str [109, 97, 120]))), none⟩,
      ⟨(some 7), .mv (.t 9), none⟩])
    (.cond (.t 7)
      .skip
      (.rg [⟨(some 10), .bin .eql (.t 6) (.k (.d (.str [115, 117, 109]))), none⟩,
        ⟨(some 7), .mv (.t 10), none⟩])))))
  (.cond (.t 7)
    (.seq (.rg [⟨(some 11), .mv (.t 0), none⟩,
      ⟨(some 12), .mv (.t 1), none⟩,
      ⟨(some 13), .call (.k (.fn 86 [])) [(.t 11), (.t 12)], none⟩,
      ⟨(some 14), .ext (.t 13) 0, none⟩,
      ⟨(some 15), .ext (.t 13) 1, none⟩,
      ⟨none, .st 6 (.t 4) (.t 14), none⟩,
      ⟨(some 5), .mv (.t 15), none⟩])
    .ret)
    (.seq (.rg [⟨(some 17), .bin .eql (.t 6) (.k (.d (.str [99, 97, 116]))), none⟩,
      ⟨(some 16), .mv (.t 17), none⟩])
    (.cond (.t 16)
      (.seq (.seq (.rg [⟨(some 18), .mv (.t 1), none⟩,
        ⟨(some 19), .lenq false (.t 18), none⟩,
        ⟨(some 20), .bin .eql (.t 19) (.k (.d (.int .i64 0))), none⟩,
        ⟨(some 21), .mv (.t 20), none⟩,
        ⟨(some 22), .mv (.t 1), some (21, false)⟩,
        ⟨(some 23), .call (.k (.fn 39 [])) [(.k (.d (.int .i64 3))), (.t 22)], some (21, false)⟩,
        ⟨(some 24), .un .not (.t 23), some (21, false)⟩,
        ⟨(some 25), .pick (.t 21) (.k (.d (.bool true))) (.t 24), none⟩])
      (.cond (.t 25)
        (.seq (.rg [⟨(some 26), .build [.int .i64 0, .bool false, .int .i64 0, .int .i64 0, .str [], .sl []] [], none⟩,
          ⟨none, .st 6 (.t 4) (.t 26), none⟩,
          ⟨(some 5), .mv (.k (.d (.int .i64 0))), none⟩])
        .ret)
        .skip))
      (.seq (.rg [⟨(some 27), .mv (.t 1), none⟩,
        ⟨(some 28), .call (.k (.fn 83 [])) [(.t 27)], none⟩,
        ⟨(some 29), .ext (.t 28) 0, none⟩,
        ⟨(some 30), .ext (.t 28) 1, none⟩,
        ⟨none, .st 6 (.t 4) (.t 29), none⟩,
        ⟨(some 5), .mv (.t 30), none⟩])
      .ret))
      .skip))))))
(.seq (.seq (.rg [⟨(some 31), .mv (.t 1), none⟩,
  ⟨(some 32), .lenq false (.t 31), none⟩])
(.block 1
  (.seq (.rg [⟨(some 34), .bin .eql (.t 32) (.k (.d (.int .i64 1))), none⟩,
    ⟨(some 33), .mv (.t 34), none⟩])
  (.cond (.t 33)
    (.seq (.rg [⟨(some 35), .mv (.t 0), none⟩,
      ⟨(some 36), .mv (.t 1), none⟩,
      ⟨(some 37), .iad 6 (.t 36) (.k (.d (.int .i64 0))), none⟩,
      ⟨(some 38), .ld (some 6) (.t 37), none⟩,
      ⟨(some 39), .call (.k (.fn 87 [])) [(.t 35), (.t 38)], none⟩,
      ⟨none, .st 6 (.t 4) (.t 39), none⟩,
      ⟨(some 5), .mv (.k (.d (.int .i64 0))), none⟩])
    .ret)
    (.seq (.rg [⟨(some 41), .bin .eql (.t 32) (.k (.d (.int .i64 2))), none⟩,
      ⟨(some 40), .mv (.t 41), none⟩])
    (.cond (.t 40)
      (.seq (.rd [⟨(some 42), .mv (.t 0), none⟩,
        ⟨(some 43), .mv (.t 1), none⟩,
        ⟨(some 44), .iad 6 (.t 43) (.k (.d (.int .i64 0))), none⟩,
        ⟨(some 45), .ld (some 6) (.t 44), none⟩,
        ⟨(some 46), .mv (.t 1), none⟩,
        ⟨(some 47), .iad 6 (.t 46) (.k (.d (.int .i64 1))), none⟩,
        ⟨(some 48), .ld (some 6) (.t 47), none⟩,
        ⟨(some 49), .call (.k (.fn 88 [])) [(.t 42), (.t 45), (.t 48)], none⟩,
        ⟨none, .st 6 (.t 4) (.t 49), none⟩,
        ⟨(some 5), .mv (.k (.d (.int .i64 0))), none⟩] [])
      .ret)
      .skip))))))
(.seq (.rg [⟨(some 50), .build [.int .i64 0, .bool false, .int .i64 0, .int .i64 0, .str [], .sl []] [], none⟩,
  ⟨none, .st 6 (.t 4) (.t 50), none⟩,
  ⟨(some 5), .mv (.k (.d (.int .i64 0))), none⟩])
.ret)))) }
theorem af52_ok : cFun Tryz.prog eqT Tryz.f52 = some af52 := by kernel_rfl
/-- dossier/dossierref1.Is -/
noncomputable def af53 : AFun := { np := 1, nt := 32, res := [.t 2], code :=
(.seq (.rg [⟨(some 1), .box (.t 0), none⟩,
  ⟨(some 2), .mv (.k (.d (.bool false))), none⟩])
(.seq (.rg [⟨(some 3), .fad (.t 1) 0, none⟩,
  ⟨(some 4), .ld none (.t 3), none⟩,
  ⟨(some 5), .bin .geq (.t 4) (.k (.d (.int .i64 (-1000000000)))), none⟩,
  ⟨(some 6), .mv (.t 5), none⟩,
  ⟨(some 7), .fad (.t 1) 0, some (6, true)⟩,
  ⟨(some 8), .ld none (.t 7), some (6, true)⟩,
  ⟨(some 9), .bin .leq (.t 8) (.k (.d (.int .i64 1000000000))), some (6, true)⟩,
  ⟨(some 10), .pick (.t 6) (.t 9) (.k (.d (.bool false))), none⟩,
  ⟨(some 11), .mv (.t 10), none⟩,
  ⟨(some 12), .fad (.t 1) 1, some (11, true)⟩,
  ⟨(some 13), .ld none (.t 12), some (11, true)⟩,
  ⟨(some 14), .bin .geq (.t 13) (.k (.d (.int .i64 0))), some (11, true)⟩,
  ⟨(some 15), .pick (.t 11) (.t 14) (.k (.d (.bool false))), none⟩,
  ⟨(some 16), .mv (.t 15), none⟩,
  ⟨(some 17), .fad (.t 1) 1, some (16, true)⟩,
  ⟨(some 18), .ld none (.t 17), some (16, true)⟩,
  ⟨(some 19), .bin .leq (.t 18) (.k (.d (.int .i64 4))), some (16, true)⟩,
  ⟨(some 20), .pick (.t 16) (.t 19) (.k (.d (.bool false))), none⟩,
  ⟨(some 21), .mv (.t 20), none⟩,
  ⟨(some 22), .fad (.t 1) 1, some (21, true)⟩,
  ⟨(some 23), .ld none (.t 22), some (21, true)⟩,
  ⟨(some 24), .bin .eql (.t 23) (.k (.d (.int .i64 0))), some (21, true)⟩,
  ⟨(some 25), .mv (.t 24), some (21, true)⟩,
  ⟨(some 26), .fad (.t 1) 0, some (25, false)⟩,
  ⟨(some 27), .ld none (.t 26), some (25, false)⟩,
  ⟨(some 28), .bin .rem (.t 27) (.k (.d (.int .i64 10))), some (25, false)⟩,
  ⟨(some 29), .bin .neq (.t 28) (.k (.d (.int .i64 0))), some (25, false)⟩,
  ⟨(some 30), .pick (.t 25) (.k (.d (.bool true))) (.t 29), some (21, true)⟩,
  ⟨(some 31), .pick (.t 21) (.t 30) (.k (.d (.bool false))), none⟩,
  ⟨(some 2), .mv (.t 31), none⟩])
.ret)) }
theorem af53_ok : cFun Tryz.prog eqT Tryz.f53 = some af53 := by kernel_rfl
/-- dossier/dossierref2.And -/
noncomputable def af54 : AFun := { np := 2, nt := 22, res := [.c 4 (some 6)], code :=
(.seq (.rg [⟨(some 2), .box (.t 0), none⟩,
  ⟨(some 3), .box (.t 1), none⟩,
  ⟨(some 4), .new [.d (.int .i64 0), .d (.bool false), .d (.int .i64 0), .d (.int .i64 0), .d (.str []), .nils], none⟩])
(.seq (.block 0
  (.seq (.rg [⟨(some 6), .ld (some 6) (.t 2), none⟩,
    ⟨(some 7), .call (.k (.fn 89 [])) [(.t 6)], none⟩,
    ⟨(some 8), .mv (.t 7), none⟩,
    ⟨(some 9), .ld (some 6) (.t 3), some (8, false)⟩,
    ⟨(some 10), .call (.k (.fn 89 [])) [(.t 9)], some (8, false)⟩,
    ⟨(some 11), .pick (.t 8) (.k (.d (.bool true))) (.t 10), none⟩,
    ⟨(some 5), .mv (.t 11), none⟩])
  (.cond (.t 5)
    (.seq (.rg [⟨(some 12), .call (.k (.fn 42 [])) [(.k (.d (.bool false)))], none⟩,
      ⟨none, .st 6 (.t 4) (.t 12), none⟩])
    .ret)
    (.seq (.rg [⟨(some 14), .ld (some 6) (.t 2), none⟩,
      ⟨(some 15), .call (.k (.fn 19 [])) [(.t 14)], none⟩,
      ⟨(some 16), .mv (.t 15), none⟩,
      ⟨(some 17), .ld (some 6) (.t 3), some (16, true)⟩,
      ⟨(some 18), .call (.k (.fn 19 [])) [(.t 17)], some (16, true)⟩,
      ⟨(some 19), .pick (.t 16) (.t 18) (.k (.d (.bool false))), none⟩,
      ⟨(some 13), .mv (.t 19), none⟩])
    (.cond (.t 13)
      (.seq (.rg [⟨(some 20), .call (.k (.fn 42 [])) [(.k (.d (.bool true)))], none⟩,
        ⟨none, .st 6 (.t 4) (.t 20), none⟩])
      .ret)
      .skip)))))
(.seq (.rg [⟨(some 21), .build [.int .i64 0, .bool false, .int .i64 0, .int .i64 0, .str [], .sl []] [], none⟩,
  ⟨none, .st 6 (.t 4) (.t 21), none⟩])
.ret))) }
theorem af54_ok : cFun Tryz.prog eqT Tryz.f54 = some af54 := by kernel_rfl
/-- dossier/dossierref2.Or -/
noncomputable def af55 : AFun := { np := 2, nt := 22, res := [.c 4 (some 6)], code :=
(.seq (.rg [⟨(some 2), .box (.t 0), none⟩,
  ⟨(some 3), .box (.t 1), none⟩,
  ⟨(some 4), .new [.d (.int .i64 0), .d (.bool false), .d (.int .i64 0), .d (.int .i64 0), .d (.str []), .nils], none⟩])
(.seq (.block 0
  (.seq (.rg [⟨(some 6), .ld (some 6) (.t 2), none⟩,
    ⟨(some 7), .call (.k (.fn 19 [])) [(.t 6)], none⟩,
    ⟨(some 8), .mv (.t 7), none⟩,
    ⟨(some 9), .ld (some 6) (.t 3), some (8, false)⟩,
    ⟨(some 10), .call (.k (.fn 19 [])) [(.t 9)], some (8, false)⟩,
    ⟨(some 11), .pick (.t 8) (.k (.d (.bool true))) (.t 10), none⟩,
    ⟨(some 5), .mv (.t 11), none⟩])
  (.cond (.t 5)
    (.seq (.rg [⟨(some 12), .call (.k (.fn 42 [])) [(.k (.d (.bool true)))], none⟩,
      ⟨none, .st 6 (.t 4) (.t 12), none⟩])
    .ret)
    (.seq (.rg [⟨(some 14), .ld (some 6) (.t 2), none⟩,
      ⟨(some 15), .call (.k (.fn 89 [])) [(.t 14)], none⟩,
      ⟨(some 16), .mv (.t 15), none⟩,
      ⟨(some 17), .ld (some 6) (.t 3), some (16, true)⟩,
      ⟨(some 18), .call (.k (.fn 89 [])) [(.t 17)], some (16, true)⟩,
      ⟨(some 19), .pick (.t 16) (.t 18) (.k (.d (.bool false))), none⟩,
      ⟨(some 13), .mv (.t 19), none⟩])
    (.cond (.t 13)
      (.seq (.rg [⟨(some 20), .call (.k (.fn 42 [])) [(.k (.d (.bool false)))], none⟩,
        ⟨none, .st 6 (.t 4) (.t 20), none⟩])
      .ret)
      .skip)))))
(.seq (.rg [⟨(some 21), .build [.int .i64 0, .bool false, .int .i64 0, .int .i64 0, .str [], .sl []] [], none⟩,
  ⟨none, .st 6 (.t 4) (.t 21), none⟩])
.ret))) }
theorem af55_ok : cFun Tryz.prog eqT Tryz.f55 = some af55 := by kernel_rfl
/-- dossier/dossierref6.arith -/
noncomputable def af56 : AFun := { np := 3, nt := 54, res := [.c 6 (some 6), .t 7], code :=
(.seq (.rg [⟨(some 4), .box (.t 1), none⟩,
  ⟨(some 5), .box (.t 2), none⟩,
  ⟨(some 6), .new [.d (.int .i64 0), .d (.bool false), .d (.int .i64 0), .d (.int .i64 0), .d (.str []), .nils], none⟩,
  ⟨(some 7), .mv (.k (.d (.int .i64 0))), none⟩])
(.seq (.seq (.rg [⟨(some 8), .mv (.t 0), none⟩])
(.block 0
  (.seq (.rg [⟨(some 10), .bin .eql (.t 8) (.k (.d (.str [43]))), none⟩,
    ⟨(some 9), .mv (.t 10), none⟩])
  (.cond (.t 9)
    (.seq (.rg [⟨(some 11), .ld (some 2) (.t 4), none⟩,
      ⟨(some 12), .ld (some 2) (.t 5), none⟩,
      ⟨(some 13), .call (.k (.fn 90 [])) [(.t 11), (.t 12)], none⟩,
      ⟨(some 14), .ext (.t 13) 0, none⟩,
      ⟨(some 15), .ext (.t 13) 1, none⟩,
      ⟨(some 16), .call (.k (.fn 30 [])) [(.t 14), (.t 15)], none⟩,
      ⟨(some 17), .ext (.t 16) 0, none⟩,
      ⟨(some 18), .ext (.t 16) 1, none⟩,
      ⟨none, .st 6 (.t 6) (.t 17), none⟩,
      ⟨(some 7), .mv (.t 18), none⟩])
    .ret)
    (.seq (.rg [⟨(some 20), .bin .eql (.t 8) (.k (.d (.str [45]))), none⟩,
      ⟨(some 19), .mv (.t 20), none⟩])
    (.cond (.t 19)
      (.seq (.rg [⟨(some 21), .ld (some 2) (.t 4), none⟩,
        ⟨(some 22), .ld (some 2) (.t 5), none⟩,
        ⟨(some 23), .call (.k (.fn 91 [])) [(.t 21), (.t 22)], none⟩,
        ⟨(some 24), .ext (.t 23) 0, none⟩,
        ⟨(some 25), .ext (.t 23) 1, none⟩,
        ⟨(some 26), .call (.k (.fn 30 [])) [(.t 24), (.t 25)], none⟩,
        ⟨(some 27), .ext (.t 26) 0, none⟩,
        ⟨(some 28), .ext (.t 26) 1, none⟩,
        ⟨none, .st 6 (.t 6) (.t 27), none⟩,
        ⟨(some 7), .mv (.t 28), none⟩])
      .ret)
      (.seq (.rg [⟨(some 30), .bin .eql (.t 8) (.k (.d (.str [42]))), none⟩,
        ⟨(some 29), .mv (.t 30), none⟩])
      (.cond (.t 29)
        (.seq (.rg [⟨(some 31), .ld (some 2) (.t 4), none⟩,
          ⟨(some 32), .ld (some 2) (.t 5), none⟩,
          ⟨(some 33), .call (.k (.fn 92 [])) [(.t 31), (.t 32)], none⟩,
          ⟨(some 34), .ext (.t 33) 0, none⟩,
          ⟨(some 35), .ext (.t 33) 1, none⟩,
          ⟨(some 36), .call (.k (.fn 30 [])) [(.t 34), (.t 35)], none⟩,
          ⟨(some 37), .ext (.t 36) 0, none⟩,
          ⟨(some 38), .ext (.t 36) 1, none⟩,
          ⟨none, .st 6 (.t 6) (.t 37), none⟩,
          ⟨(some 7), .mv (.t 38), none⟩])
        .ret)
        (.seq (.rg [⟨(some 40), .bin .eql (.t 8) (.k (.d (.str [47]))), none⟩,
          ⟨(some 39), .mv (.t 40), none⟩])
        (.cond (.t 39)
          (.seq (.seq (.rg [⟨(some 41), .fad (.t 5) 0, none⟩,
            ⟨(some 42), .ld none (.t 41), none⟩,
            ⟨(some 43), .bin .eql (.t 42) (.k (.d (.int .i64 0))), none⟩])
          (.cond (.t 43)
            (.seq (.rg [⟨(some 44), .build [.int .i64 0, .bool false, .int .i64 0, .int .i64 0, .str [], .sl []] [], none⟩,
              ⟨none, .st 6 (.t 6) (.t 44), none⟩,
              ⟨(some 7), .mv (.k (.d (.int .i64 0))), none⟩])
            .ret)
            .skip))
          (.seq (.rg [⟨(some 45), .ld (some 2) (.t 4), none⟩,
            ⟨(some 46), .ld (some 2) (.t 5), none⟩,
            ⟨(some 47), .call (.k (.fn 93 [])) [(.t 45), (.t 46)], none⟩,
            ⟨(some 48), .ext (.t 47) 0, none⟩,
            ⟨(some 49), .ext (.t 47) 1, none⟩,
            ⟨(some 50), .call (.k (.fn 30 [])) [(.t 48), (.t 49)], none⟩,
            ⟨(some 51), .ext (.t 50) 0, none⟩,
            ⟨(some 52), .ext (.t 50) 1, none⟩,
            ⟨none, .st 6 (.t 6) (.t 51), none⟩,
            ⟨(some 7), .mv (.t 52), none⟩])
          .ret))
          .skip))))))))))
(.seq (.rg [⟨(some 53), .build [.int .i64 0, .bool false, .int .i64 0, .int .i64 0, .str [], .sl []] [], none⟩,
  ⟨none, .st 6 (.t 6) (.t 53), none⟩,
  ⟨(some 7), .mv (.k (.d (.int .i64 0))), none⟩])
.ret))) }
theorem af56_ok : cFun Tryz.prog eqT Tryz.f56 = some af56 := by kernel_rfl
/-- dossier/dossierref6.text -/
noncomputable def af57 : AFun := { np := 1, nt := 10, res := [.c 2 (some 6), .t 3], code :=
(.seq (.rg [⟨(some 2), .new [.d (.int .i64 0), .d (.bool false), .d (.int .i64 0), .d (.int .i64 0), .d (.str []), .nils], none⟩,
  ⟨(some 3), .mv (.k (.d (.int .i64 0))), none⟩])
(.seq (.seq (.rg [⟨(some 4), .mv (.t 0), none⟩,
  ⟨(some 5), .lenq true (.t 4), none⟩,
  ⟨(some 6), .bin .gtr (.t 5) (.k (.d (.int .i64 16))), none⟩])
(.cond (.t 6)
  (.seq (.rg [⟨(some 7), .build [.int .i64 0, .bool false, .int .i64 0, .int .i64 0, .str [], .sl []] [], none⟩,
    ⟨none, .st 6 (.t 2) (.t 7), none⟩,
    ⟨(some 3), .mv (.k (.d (.int .i64 3))), none⟩])
  .ret)
  .skip))
(.seq (.rg [⟨(some 8), .mv (.t 0), none⟩,
  ⟨(some 9), .build [.int .i64 0, .bool false, .int .i64 0, .int .i64 0, .str [], .sl []] [(0, 1, (.k (.d (.int .i64 3)))), (4, 1, (.t 8))], none⟩,
  ⟨none, .st 6 (.t 2) (.t 9), none⟩,
  ⟨(some 3), .mv (.k (.d (.int .i64 0))), none⟩])
.ret))) }
theorem af57_ok : cFun Tryz.prog eqT Tryz.f57 = some af57 := by kernel_rfl
/-- dossier/dossierref6.nest -/
noncomputable def af58 : AFun := { np := 1, nt := 25, res := [.t 2], code :=
(.seq (.rg [⟨(some 1), .box (.t 0), none⟩,
  ⟨(some 2), .mv (.k (.d (.int .i64 0))), none⟩])
(.seq (.seq (.rg [⟨(some 5), .fad (.t 1) 0, none⟩,
  ⟨(some 6), .ld none (.t 5), none⟩,
  ⟨(some 7), .bin .neq (.t 6) (.k (.d (.int .i64 4))), none⟩])
(.cond (.t 7)
  (.seq (.rg [⟨(some 2), .mv (.k (.d (.int .i64 0))), none⟩])
  .ret)
  .skip))
(.seq (.rg [⟨(some 3), .mv (.k (.d (.int .i64 0))), none⟩])
(.seq (.seq (.rg [⟨(some 4), .mv (.k (.d (.int .i64 0))), none⟩])
(.block 0
  (.loop
    (.seq (.seq (.rg [⟨(some 8), .mv (.t 4), none⟩,
      ⟨(some 9), .fad (.t 1) 5, none⟩,
      ⟨(some 10), .ld none (.t 9), none⟩,
      ⟨(some 11), .lenq false (.t 10), none⟩,
      ⟨(some 12), .bin .lss (.t 8) (.t 11), none⟩])
    (.cond (.t 12)
      .skip
      (.exit 0)))
    (.seq (.block 1
      (.rg [⟨(some 15), .mv (.t 3), none⟩,
        ⟨(some 16), .fad (.t 1) 5, none⟩,
        ⟨(some 17), .ld none (.t 16), none⟩,
        ⟨(some 18), .mv (.t 4), none⟩,
        ⟨(some 19), .iad 6 (.t 17) (.t 18), none⟩,
        ⟨(some 20), .ld (some 6) (.t 19), none⟩,
        ⟨(some 21), .call (.k (.fn 58 [])) [(.t 20)], none⟩,
        ⟨(some 22), .mm true (.t 15) [(.t 21)], none⟩,
        ⟨(some 3), .mv (.t 22), none⟩]))
    (.rg [⟨(some 13), .mv (.t 4), none⟩,
      ⟨(some 14), .bin .add (.t 13) (.k (.d (.int .i64 1))), none⟩,
      ⟨(some 4), .mv (.t 14), none⟩]))))))
(.seq (.rg [⟨(some 23), .mv (.t 3), none⟩,
  ⟨(some 24), .bin .add (.t 23) (.k (.d (.int .i64 1))), none⟩,
  ⟨(some 2), .mv (.t 24), none⟩])
.ret))))) }
theorem af58_ok : cFun Tryz.prog eqT Tryz.f58 = some af58 := by kernel_rfl
/-- dossier/dossierref6.many -/
noncomputable def af59 : AFun := { np := 2, nt := 71, res := [.c 4 (some 6), .t 5], code :=
(.seq (.rg [⟨(some 4), .new [.d (.int .i64 0), .d (.bool false), .d (.int .i64 0), .d (.int .i64 0), .d (.str []), .nils], none⟩,
  ⟨(some 5), .mv (.k (.d (.int .i64 0))), none⟩])
(.seq (.seq (.rg [⟨(some 8), .mv (.t 0), none⟩,
  ⟨(some 9), .bin .eql (.t 8) (.k (.d (.str [99, 97, 116]))), none⟩])
(.cond (.t 9)
  (.seq (.rg [⟨(some 6), .mv (.k (.d (.str []))), none⟩])
  (.seq (.seq (.rg [⟨(some 7), .mv (.k (.d (.int .i64 0))), none⟩])
  (.block 0
    (.loop
      (.seq (.seq (.rg [⟨(some 10), .mv (.t 7), none⟩,
        ⟨(some 11), .mv (.t 1), none⟩,
        ⟨(some 12), .lenq false (.t 11), none⟩,
        ⟨(some 13), .bin .lss (.t 10) (.t 12), none⟩])
      (.cond (.t 13)
        .skip
        (.exit 0)))
      (.seq (.block 1
        (.rg [⟨(some 16), .mv (.t 6), none⟩,
          ⟨(some 17), .mv (.t 1), none⟩,
          ⟨(some 18), .mv (.t 7), none⟩,
          ⟨(some 19), .iad 6 (.t 17) (.t 18), none⟩,
          ⟨(some 20), .fad (.t 19) 4, none⟩,
          ⟨(some 21), .ld none (.t 20), none⟩,
          ⟨(some 22), .bin .add (.t 16) (.t 21), none⟩,
          ⟨(some 6), .mv (.t 22), none⟩]))
      (.rg [⟨(some 14), .mv (.t 7), none⟩,
        ⟨(some 15), .bin .add (.t 14) (.k (.d (.int .i64 1))), none⟩,
        ⟨(some 7), .mv (.t 15), none⟩]))))))
  (.seq (.seq (.rg [⟨(some 23), .mv (.t 1), none⟩,
    ⟨(some 24), .lenq false (.t 23), none⟩,
    ⟨(some 25), .bin .eql (.t 24) (.k (.d (.int .i64 0))), none⟩,
    ⟨(some 26), .mv (.t 25), none⟩,
    ⟨(some 27), .mv (.t 1), some (26, false)⟩,
    ⟨(some 28), .call (.k (.fn 62 [])) [(.t 27), (.k (.d (.int .i64 3)))], some (26, false)⟩,
    ⟨(some 29), .un .not (.t 28), some (26, false)⟩,
    ⟨(some 30), .pick (.t 26) (.k (.d (.bool true))) (.t 29), none⟩])
  (.cond (.t 30)
    (.seq (.rg [⟨(some 31), .build [.int .i64 0, .bool false, .int .i64 0, .int .i64 0, .str [], .sl []] [], none⟩,
      ⟨none, .st 6 (.t 4) (.t 31), none⟩,
      ⟨(some 5), .mv (.k (.d (.int .i64 0))), none⟩])
    .ret)
    .skip))
  (.seq (.rg [⟨(some 32), .mv (.t 6), none⟩,
    ⟨(some 33), .call (.k (.fn 57 [])) [(.t 32)], none⟩,
    ⟨(some 34), .ext (.t 33) 0, none⟩,
    ⟨(some 35), .ext (.t 33) 1, none⟩,
    ⟨none, .st 6 (.t 4) (.t 34), none⟩,
    ⟨(some 5), .mv (.t 35), none⟩])
  .ret))))
  .skip))
(.seq (.seq (.rg [⟨(some 36), .mv (.t 1), none⟩,
  ⟨(some 37), .lenq false (.t 36), none⟩,
  ⟨(some 38), .bin .eql (.t 37) (.k (.d (.int .i64 0))), none⟩])
(.cond (.t 38)
  (.seq (.rg [⟨(some 39), .build [.int .i64 0, .bool false, .int .i64 0, .int .i64 0, .str [], .sl []] [], none⟩,
    ⟨none, .st 6 (.t 4) (.t 39), none⟩,
    ⟨(some 5), .mv (.k (.d (.int .i64 0))), none⟩])
  .ret)
  .skip))
(.seq (.seq (.rg [⟨(some 40), .mv (.t 1), none⟩,
  ⟨(some 41), .lenq false (.t 40), none⟩,
  ⟨(some 42), .bin .eql (.t 41) (.k (.d (.int .i64 1))), none⟩,
  ⟨(some 43), .mv (.t 42), none⟩,
  ⟨(some 44), .mv (.t 1), some (43, true)⟩,
  ⟨(some 45), .iad 6 (.t 44) (.k (.d (.int .i64 0))), some (43, true)⟩,
  ⟨(some 46), .fad (.t 45) 0, some (43, true)⟩,
  ⟨(some 47), .ld none (.t 46), some (43, true)⟩,
  ⟨(some 48), .bin .eql (.t 47) (.k (.d (.int .i64 4))), some (43, true)⟩,
  ⟨(some 49), .pick (.t 43) (.t 48) (.k (.d (.bool false))), none⟩])
(.cond (.t 49)
  (.rg [⟨(some 50), .mv (.t 1), none⟩,
    ⟨(some 51), .iad 6 (.t 50) (.k (.d (.int .i64 0))), none⟩,
    ⟨(some 52), .fad (.t 51) 5, none⟩,
    ⟨(some 53), .ld none (.t 52), none⟩,
    ⟨(some 1), .mv (.t 53), none⟩])
  .skip))
(.seq (.seq (.rg [⟨(some 54), .mv (.t 1), none⟩,
  ⟨(some 55), .call (.k (.fn 62 [])) [(.t 54), (.k (.d (.int .i64 2)))], none⟩,
  ⟨(some 56), .un .not (.t 55), none⟩])
(.cond (.t 56)
  (.seq (.rg [⟨(some 57), .build [.int .i64 0, .bool false, .int .i64 0, .int .i64 0, .str [], .sl []] [], none⟩,
    ⟨none, .st 6 (.t 4) (.t 57), none⟩,
    ⟨(some 5), .mv (.k (.d (.int .i64 0))), none⟩])
  .ret)
  .skip))
(.seq (.seq (.rg [⟨(some 58), .mv (.t 0), none⟩])
(.block 2
  (.seq (.rg [⟨(some 60), .bin .eql (.t 58) (.k (.d (.str [109, 105, 110]))), none⟩,
    ⟨(some 59), .mv (.t 60), none⟩])
  (.cond (.t 59)
    (.seq (.rg [⟨(some 61), .mv (.t 1), none⟩,
      ⟨(some 62), .call (.k (.fn 94 [])) [(.t 61), (.k (.d (.int .i64 1)))], none⟩,
      ⟨none, .st 6 (.t 4) (.t 62), none⟩,
      ⟨(some 5), .mv (.k (.d (.int .i64 0))), none⟩])
    .ret)
    (.seq (.rg [⟨(some 64), .bin .eql (.t 58) (.k (.d (.str [109, 97, 120]))), none⟩,
      ⟨(some 63), .mv (.t 64), none⟩])
    (.cond (.t 63)
      (.seq (.rg [⟨(some 65), .mv (.t 1), none⟩,
        ⟨(some 66), .call (.k (.fn 94 [])) [(.t 65), (.k (.d (.int .i64 (-1))))], none⟩,
        ⟨none, .st 6 (.t 4) (.t 66), none⟩,
        ⟨(some 5), .mv (.k (.d (.int .i64 0))), none⟩])
      .ret)
      .skip))))))
(.seq (.rg [⟨(some 67), .mv (.t 1), none⟩,
  ⟨(some 68), .call (.k (.fn 95 [])) [(.t 67)], none⟩,
  ⟨(some 69), .ext (.t 68) 0, none⟩,
  ⟨(some 70), .ext (.t 68) 1, none⟩,
  ⟨none, .st 6 (.t 4) (.t 69), none⟩,
  ⟨(some 5), .mv (.t 70), none⟩])
.ret))))))) }
theorem af59_ok : cFun Tryz.prog eqT Tryz.f59 = some af59 := by kernel_rfl
/-- dossier/dossierref6.one -/
noncomputable def af60 : AFun := { np := 2, nt := 28, res := [.c 4 (some 6), .t 5], code :=
(.seq (.rg [⟨(some 3), .box (.t 1), none⟩,
  ⟨(some 4), .new [.d (.int .i64 0), .d (.bool false), .d (.int .i64 0), .d (.int .i64 0), .d (.str []), .nils], none⟩,
  ⟨(some 5), .mv (.k (.d (.int .i64 0))), none⟩])
(.seq (.seq (.rg [⟨(some 6), .mv (.t 0), none⟩])
(.block 0
  (.seq (.rg [⟨(some 8), .bin .eql (.t 6) (.k (.d (.str [97, 98, 115]))), none⟩,
    ⟨(some 7), .mv (.t 8), none⟩])
  (.cond (.t 7)
    (.seq (.rg [⟨(some 9), .fad (.t 3) 0, none⟩,
      ⟨(some 10), .ld none (.t 9), none⟩,
      ⟨(some 11), .bin .lss (.t 10) (.k (.d (.int .i64 0))), none⟩])
    (.cond (.t 11)
      (.rg [⟨(some 12), .fad (.t 3) 0, none⟩,
        ⟨(some 13), .ld none (.t 12), none⟩,
        ⟨(some 14), .un .neg (.t 13), none⟩,
        ⟨(some 15), .fad (.t 3) 0, none⟩,
        ⟨none, .st 1 (.t 15) (.t 14), none⟩])
      .skip))
    (.seq (.rg [⟨(some 17), .bin .eql (.t 6) (.k (.d (.str [102, 108, 111, 111, 114]))), none⟩,
      ⟨(some 16), .mv (.t 17), none⟩])
    (.cond (.t 16)
      (.rg [⟨(some 18), .ld (some 2) (.t 3), none⟩,
        ⟨(some 19), .call (.k (.fn 96 [])) [(.t 18)], none⟩,
        ⟨none, .st 2 (.t 3) (.t 19), none⟩])
      (.seq (.rg [⟨(some 21), .bin .eql (.t 6) (.k (.d (.str [99, 101, 105, 108]))), none⟩,
        ⟨(some 20), .mv (.t 21), none⟩])
      (.cond (.t 20)
        (.rg [⟨(some 22), .ld (some 2) (.t 3), none⟩,
          ⟨(some 23), .call (.k (.fn 97 [])) [(.t 22)], none⟩,
          ⟨none, .st 2 (.t 3) (.t 23), none⟩])
        .skip))))))))
(.seq (.rg [⟨(some 24), .ld (some 2) (.t 3), none⟩,
  ⟨(some 25), .call (.k (.fn 30 [])) [(.t 24), (.k (.d (.int .i64 0)))], none⟩,
  ⟨(some 26), .ext (.t 25) 0, none⟩,
  ⟨(some 27), .ext (.t 25) 1, none⟩,
  ⟨none, .st 6 (.t 4) (.t 26), none⟩,
  ⟨(some 5), .mv (.t 27), none⟩])
.ret))) }
theorem af60_ok : cFun Tryz.prog eqT Tryz.f60 = some af60 := by kernel_rfl
/-- dossier/dossierref2.Not -/
noncomputable def af61 : AFun := { np := 1, nt := 11, res := [.c 2 (some 6)], code :=
(.seq (.rg [⟨(some 1), .box (.t 0), none⟩,
  ⟨(some 2), .new [.d (.int .i64 0), .d (.bool false), .d (.int .i64 0), .d (.int .i64 0), .d (.str []), .nils], none⟩])
(.seq (.seq (.rg [⟨(some 3), .fad (.t 1) 0, none⟩,
  ⟨(some 4), .ld none (.t 3), none⟩,
  ⟨(some 5), .bin .neq (.t 4) (.k (.d (.int .i64 1))), none⟩])
(.cond (.t 5)
  (.seq (.rg [⟨(some 6), .build [.int .i64 0, .bool false, .int .i64 0, .int .i64 0, .str [], .sl []] [], none⟩,
    ⟨none, .st 6 (.t 2) (.t 6), none⟩])
  .ret)
  .skip))
(.seq (.rg [⟨(some 7), .fad (.t 1) 1, none⟩,
  ⟨(some 8), .ld none (.t 7), none⟩,
  ⟨(some 9), .un .not (.t 8), none⟩,
  ⟨(some 10), .call (.k (.fn 42 [])) [(.t 9)], none⟩,
  ⟨none, .st 6 (.t 2) (.t 10), none⟩])
.ret))) }
theorem af61_ok : cFun Tryz.prog eqT Tryz.f61 = some af61 := by kernel_rfl
/-- dossier/dossierref6.all -/
noncomputable def af62 : AFun := { np := 2, nt := 19, res := [.t 4], code :=
(.seq (.rg [⟨(some 4), .mv (.k (.d (.bool false))), none⟩])
(.seq (.seq (.rg [⟨(some 5), .mv (.k (.d (.int .i64 0))), none⟩])
(.block 0
  (.loop
    (.seq (.seq (.rg [⟨(some 6), .mv (.t 5), none⟩,
      ⟨(some 7), .mv (.t 0), none⟩,
      ⟨(some 8), .lenq false (.t 7), none⟩,
      ⟨(some 9), .bin .lss (.t 6) (.t 8), none⟩])
    (.cond (.t 9)
      .skip
      (.exit 0)))
    (.seq (.block 1
      (.seq (.rg [⟨(some 12), .mv (.t 0), none⟩,
        ⟨(some 13), .mv (.t 5), none⟩,
        ⟨(some 14), .iad 6 (.t 12) (.t 13), none⟩,
        ⟨(some 15), .fad (.t 14) 0, none⟩,
        ⟨(some 16), .ld none (.t 15), none⟩,
        ⟨(some 17), .mv (.t 1), none⟩,
        ⟨(some 18), .bin .neq (.t 16) (.t 17), none⟩])
      (.cond (.t 18)
        (.seq (.rg [⟨(some 4), .mv (.k (.d (.bool false))), none⟩])
        .ret)
        .skip)))
    (.rg [⟨(some 10), .mv (.t 5), none⟩,
      ⟨(some 11), .bin .add (.t 10) (.k (.d (.int .i64 1))), none⟩,
      ⟨(some 5), .mv (.t 11), none⟩]))))))
(.seq (.rg [⟨(some 4), .mv (.k (.d (.bool true))), none⟩])
.ret))) }
theorem af62_ok : cFun Tryz.prog eqT Tryz.f62 = some af62 := by kernel_rfl
/-- dossier/dossierref6.mod -/
noncomputable def af63 : AFun := { np := 2, nt := 41, res := [.c 4 (some 6)], code :=
(.seq (.rg [⟨(some 2), .box (.t 0), none⟩,
  ⟨(some 3), .box (.t 1), none⟩,
  ⟨(some 4), .new [.d (.int .i64 0), .d (.bool false), .d (.int .i64 0), .d (.int .i64 0), .d (.str []), .nils], none⟩])
(.seq (.seq (.rg [⟨(some 6), .fad (.t 2) 1, none⟩,
  ⟨(some 7), .ld none (.t 6), none⟩,
  ⟨(some 8), .bin .neq (.t 7) (.k (.d (.int .i64 0))), none⟩,
  ⟨(some 9), .mv (.t 8), none⟩,
  ⟨(some 10), .fad (.t 3) 1, some (9, false)⟩,
  ⟨(some 11), .ld none (.t 10), some (9, false)⟩,
  ⟨(some 12), .bin .neq (.t 11) (.k (.d (.int .i64 0))), some (9, false)⟩,
  ⟨(some 13), .pick (.t 9) (.k (.d (.bool true))) (.t 12), none⟩,
  ⟨(some 14), .mv (.t 13), none⟩,
  ⟨(some 15), .fad (.t 3) 0, some (14, false)⟩,
  ⟨(some 16), .ld none (.t 15), some (14, false)⟩,
  ⟨(some 17), .bin .eql (.t 16) (.k (.d (.int .i64 0))), some (14, false)⟩,
  ⟨(some 18), .pick (.t 14) (.k (.d (.bool true))) (.t 17), none⟩])
(.cond (.t 18)
  (.seq (.rg [⟨(some 19), .build [.int .i64 0, .bool false, .int .i64 0, .int .i64 0, .str [], .sl []] [], none⟩,
    ⟨none, .st 6 (.t 4) (.t 19), none⟩])
  .ret)
  .skip))
(.seq (.rg [⟨(some 20), .fad (.t 2) 0, none⟩,
  ⟨(some 21), .ld none (.t 20), none⟩,
  ⟨(some 22), .fad (.t 3) 0, none⟩,
  ⟨(some 23), .ld none (.t 22), none⟩,
  ⟨(some 24), .bin .rem (.t 21) (.t 23), none⟩,
  ⟨(some 5), .mv (.t 24), none⟩])
(.seq (.seq (.rg [⟨(some 25), .mv (.t 5), none⟩,
  ⟨(some 26), .bin .neq (.t 25) (.k (.d (.int .i64 0))), none⟩,
  ⟨(some 27), .mv (.t 26), none⟩,
  ⟨(some 28), .mv (.t 5), some (27, true)⟩,
  ⟨(some 29), .bin .lss (.t 28) (.k (.d (.int .i64 0))), some (27, true)⟩,
  ⟨(some 30), .fad (.t 3) 0, some (27, true)⟩,
  ⟨(some 31), .ld none (.t 30), some (27, true)⟩,
  ⟨(some 32), .bin .lss (.t 31) (.k (.d (.int .i64 0))), some (27, true)⟩,
  ⟨(some 33), .eqb true (.t 29) (.t 32), some (27, true)⟩,
  ⟨(some 34), .pick (.t 27) (.t 33) (.k (.d (.bool false))), none⟩])
(.cond (.t 34)
  (.rg [⟨(some 35), .mv (.t 5), none⟩,
    ⟨(some 36), .fad (.t 3) 0, none⟩,
    ⟨(some 37), .ld none (.t 36), none⟩,
    ⟨(some 38), .bin .add (.t 35) (.t 37), none⟩,
    ⟨(some 5), .mv (.t 38), none⟩])
  .skip))
(.seq (.rg [⟨(some 39), .mv (.t 5), none⟩,
  ⟨(some 40), .call (.k (.fn 64 [])) [(.t 39)], none⟩,
  ⟨none, .st 6 (.t 4) (.t 40), none⟩])
.ret))))) }
theorem af63_ok : cFun Tryz.prog eqT Tryz.f63 = some af63 := by kernel_rfl
/-- dossier/dossierref6.whole -/
noncomputable def af64 : AFun := { np := 1, nt := 6, res := [.c 2 (some 6)], code :=
(.seq (.rg [⟨(some 2), .new [.d (.int .i64 0), .d (.bool false), .d (.int .i64 0), .d (.int .i64 0), .d (.str []), .nils], none⟩])
(.seq (.rg [⟨(some 3), .mv (.t 0), none⟩,
  ⟨(some 4), .build [.int .i64 0, .int .i64 0] [(0, 1, (.t 3))], none⟩,
  ⟨(some 5), .build [.int .i64 0, .bool false, .int .i64 0, .int .i64 0, .str [], .sl []] [(0, 1, (.k (.d (.int .i64 2)))), (2, 2, (.t 4))], none⟩,
  ⟨none, .st 6 (.t 2) (.t 5), none⟩])
.ret)) }
theorem af64_ok : cFun Tryz.prog eqT Tryz.f64 = some af64 := by kernel_rfl
/-- dossier/dossierref6.has -/
noncomputable def af65 : AFun := { np := 2, nt := 20, res := [.c 4 (some 6)], code :=
(.seq (.rg [⟨(some 3), .box (.t 1), none⟩,
  ⟨(some 4), .new [.d (.int .i64 0), .d (.bool false), .d (.int .i64 0), .d (.int .i64 0), .d (.str []), .nils], none⟩])
(.seq (.seq (.rg [⟨(some 5), .mv (.k (.d (.int .i64 0))), none⟩])
(.block 0
  (.loop
    (.seq (.seq (.rg [⟨(some 6), .mv (.t 5), none⟩,
      ⟨(some 7), .mv (.t 0), none⟩,
      ⟨(some 8), .lenq false (.t 7), none⟩,
      ⟨(some 9), .bin .lss (.t 6) (.t 8), none⟩])
    (.cond (.t 9)
      .skip
      (.exit 0)))
    (.seq (.block 1
      (.seq (.rd [⟨(some 12), .mv (.t 0), none⟩,
        ⟨(some 13), .mv (.t 5), none⟩,
        ⟨(some 14), .iad 6 (.t 12) (.t 13), none⟩,
        ⟨(some 15), .ld (some 6) (.t 14), none⟩,
        ⟨(some 16), .ld (some 6) (.t 3), none⟩,
        ⟨(some 17), .call (.k (.fn 98 [])) [(.t 15), (.t 16)], none⟩] [])
      (.cond (.t 17)
        (.seq (.rg [⟨(some 18), .call (.k (.fn 42 [])) [(.k (.d (.bool true)))], none⟩,
          ⟨none, .st 6 (.t 4) (.t 18), none⟩])
        .ret)
        .skip)))
    (.rg [⟨(some 10), .mv (.t 5), none⟩,
      ⟨(some 11), .bin .add (.t 10) (.k (.d (.int .i64 1))), none⟩,
      ⟨(some 5), .mv (.t 11), none⟩]))))))
(.seq (.rg [⟨(some 19), .call (.k (.fn 42 [])) [(.k (.d (.bool false)))], none⟩,
  ⟨none, .st 6 (.t 4) (.t 19), none⟩])
.ret))) }
theorem af65_ok : cFun Tryz.prog eqT Tryz.f65 = some af65 := by kernel_rfl
/-- dossier/dossierref2.text -/
noncomputable def af66 : AFun := { np := 1, nt := 29, res := [.t 2], code :=
(.seq (.rg [⟨(some 2), .mv (.k (.d (.bool false))), none⟩])
(.seq (.seq (.rg [⟨(some 3), .mv (.k (.d (.int .i64 0))), none⟩])
(.block 0
  (.loop
    (.seq (.seq (.rg [⟨(some 4), .mv (.t 3), none⟩,
      ⟨(some 5), .mv (.t 0), none⟩,
      ⟨(some 6), .lenq true (.t 5), none⟩,
      ⟨(some 7), .bin .lss (.t 4) (.t 6), none⟩])
    (.cond (.t 7)
      .skip
      (.exit 0)))
    (.seq (.block 1
      (.seq (.rg [⟨(some 10), .mv (.t 0), none⟩,
        ⟨(some 11), .mv (.t 3), none⟩,
        ⟨(some 12), .ixs (.t 10) (.t 11), none⟩,
        ⟨(some 13), .bin .lss (.t 12) (.k (.d (.int .u8 32))), none⟩,
        ⟨(some 14), .mv (.t 13), none⟩,
        ⟨(some 15), .mv (.t 0), some (14, false)⟩,
        ⟨(some 16), .mv (.t 3), some (14, false)⟩,
        ⟨(some 17), .ixs (.t 15) (.t 16), some (14, false)⟩,
        ⟨(some 18), .bin .gtr (.t 17) (.k (.d (.int .u8 126))), some (14, false)⟩,
        ⟨(some 19), .pick (.t 14) (.k (.d (.bool true))) (.t 18), none⟩,
        ⟨(some 20), .mv (.t 19), none⟩,
        ⟨(some 21), .mv (.t 0), some (20, false)⟩,
        ⟨(some 22), .mv (.t 3), some (20, false)⟩,
        ⟨(some 23), .ixs (.t 21) (.t 22), some (20, false)⟩,
        ⟨(some 24), .bin .eql (.t 23) (.k (.d (.int .u8 34))), some (20, false)⟩,
        ⟨(some 25), .pick (.t 20) (.k (.d (.bool true))) (.t 24), none⟩])
      (.cond (.t 25)
        (.seq (.rg [⟨(some 2), .mv (.k (.d (.bool false))), none⟩])
        .ret)
        .skip)))
    (.rg [⟨(some 8), .mv (.t 3), none⟩,
      ⟨(some 9), .bin .add (.t 8) (.k (.d (.int .i64 1))), none⟩,
      ⟨(some 3), .mv (.t 9), none⟩]))))))
(.seq (.rg [⟨(some 26), .mv (.t 0), none⟩,
  ⟨(some 27), .lenq true (.t 26), none⟩,
  ⟨(some 28), .bin .leq (.t 27) (.k (.d (.int .i64 16))), none⟩,
  ⟨(some 2), .mv (.t 28), none⟩])
.ret))) }
theorem af66_ok : cFun Tryz.prog eqT Tryz.f66 = some af66 := by kernel_rfl
/-- dossier/dossierref3.next -/
noncomputable def af67 : AFun := { np := 2, nt := 219, res := [.c 4 (some 3), .t 5, .t 6], code :=
(.seq (.rg [⟨(some 4), .new [.d (.int .i64 0), .d (.str []), .d (.int .i64 0)], none⟩,
  ⟨(some 5), .mv (.k (.d (.int .i64 0))), none⟩,
  ⟨(some 6), .mv (.k (.d (.int .i64 0))), none⟩])
(.seq (.rg [⟨(some 10), .mv (.t 1), none⟩,
  ⟨(some 7), .mv (.t 10), none⟩])
(.seq (.block 0
  (.seq (.rg [⟨(some 12), .mv (.t 0), none⟩,
    ⟨(some 13), .mv (.t 1), none⟩,
    ⟨(some 14), .ixs (.t 12) (.t 13), none⟩,
    ⟨(some 15), .call (.k (.fn 99 [])) [(.t 14)], none⟩,
    ⟨(some 11), .mv (.t 15), none⟩])
  (.cond (.t 11)
    (.seq (.block 1
      (.loop
        (.seq (.seq (.rg [⟨(some 16), .mv (.t 7), none⟩,
          ⟨(some 17), .mv (.t 0), none⟩,
          ⟨(some 18), .lenq true (.t 17), none⟩,
          ⟨(some 19), .bin .lss (.t 16) (.t 18), none⟩,
          ⟨(some 20), .mv (.t 19), none⟩,
          ⟨(some 21), .mv (.t 0), some (20, true)⟩,
          ⟨(some 22), .mv (.t 7), some (20, true)⟩,
          ⟨(some 23), .ixs (.t 21) (.t 22), some (20, true)⟩,
          ⟨(some 24), .call (.k (.fn 99 [])) [(.t 23)], some (20, true)⟩,
          ⟨(some 25), .mv (.t 24), some (20, true)⟩,
          ⟨(some 26), .mv (.t 0), some (25, false)⟩,
          ⟨(some 27), .mv (.t 7), some (25, false)⟩,
          ⟨(some 28), .ixs (.t 26) (.t 27), some (25, false)⟩,
          ⟨(some 29), .call (.k (.fn 100 [])) [(.t 28)], some (25, false)⟩,
          ⟨(some 30), .pick (.t 25) (.k (.d (.bool true))) (.t 29), some (20, true)⟩,
          ⟨(some 31), .pick (.t 20) (.t 30) (.k (.d (.bool false))), none⟩])
        (.cond (.t 31)
          .skip
          (.exit 1)))
        (.block 2
          (.rg [⟨(some 32), .mv (.t 7), none⟩,
            ⟨(some 33), .bin .add (.t 32) (.k (.d (.int .i64 1))), none⟩,
            ⟨(some 7), .mv (.t 33), none⟩])))))
    (.seq (.seq (.rg [⟨(some 34), .mv (.t 7), none⟩,
      ⟨(some 35), .mv (.t 1), none⟩,
      ⟨(some 36), .bin .sub (.t 34) (.t 35), none⟩,
      ⟨(some 37), .bin .gtr (.t 36) (.k (.d (.int .i64 8))), none⟩,
      ⟨(some 38), .mv (.t 37), none⟩,
      ⟨(some 39), .mv (.t 0), some (38, true)⟩,
      ⟨(some 40), .mv (.t 1), some (38, true)⟩,
      ⟨(some 41), .mv (.t 7), some (38, true)⟩,
      ⟨(some 42), .ss (.t 39) (some (.t 40)) (some (.t 41)), some (38, true)⟩,
      ⟨(some 43), .call (.k (.fn 101 [])) [(.t 42)], some (38, true)⟩,
      ⟨(some 44), .un .not (.t 43), some (38, true)⟩,
      ⟨(some 45), .pick (.t 38) (.t 44) (.k (.d (.bool false))), none⟩])
    (.cond (.t 45)
      (.seq (.rg [⟨(some 46), .build [.int .i64 0, .str [], .int .i64 0] [], none⟩,
        ⟨(some 47), .mv (.t 1), none⟩,
        ⟨none, .st 3 (.t 4) (.t 46), none⟩,
        ⟨(some 5), .mv (.t 47), none⟩,
        ⟨(some 6), .mv (.k (.d (.int .i64 13))), none⟩])
      .ret)
      .skip))
    (.seq (.rg [⟨(some 48), .mv (.t 0), none⟩,
      ⟨(some 49), .mv (.t 1), none⟩,
      ⟨(some 50), .mv (.t 7), none⟩,
      ⟨(some 51), .ss (.t 48) (some (.t 49)) (some (.t 50)), none⟩,
      ⟨(some 52), .mv (.t 1), none⟩,
      ⟨(some 53), .build [.int .i64 0, .str [], .int .i64 0] [(0, 1, (.k (.d (.int .i64 1)))), (1, 1, (.t 51)), (2, 1, (.t 52))], none⟩,
      ⟨(some 54), .mv (.t 7), none⟩,
      ⟨none, .st 3 (.t 4) (.t 53), none⟩,
      ⟨(some 5), .mv (.t 54), none⟩,
      ⟨(some 6), .mv (.k (.d (.int .i64 0))), none⟩])
    .ret)))
    (.seq (.rg [⟨(some 56), .mv (.t 0), none⟩,
      ⟨(some 57), .mv (.t 1), none⟩,
      ⟨(some 58), .ixs (.t 56) (.t 57), none⟩,
      ⟨(some 59), .call (.k (.fn 100 [])) [(.t 58)], none⟩,
      ⟨(some 55), .mv (.t 59), none⟩])
    (.cond (.t 55)
      (.seq (.block 3
        (.loop
          (.seq (.seq (.rg [⟨(some 60), .mv (.t 7), none⟩,
            ⟨(some 61), .mv (.t 0), none⟩,
            ⟨(some 62), .lenq true (.t 61), none⟩,
            ⟨(some 63), .bin .lss (.t 60) (.t 62), none⟩,
            ⟨(some 64), .mv (.t 63), none⟩,
            ⟨(some 65), .mv (.t 0), some (64, true)⟩,
            ⟨(some 66), .mv (.t 7), some (64, true)⟩,
            ⟨(some 67), .ixs (.t 65) (.t 66), some (64, true)⟩,
            ⟨(some 68), .call (.k (.fn 100 [])) [(.t 67)], some (64, true)⟩,
            ⟨(some 69), .pick (.t 64) (.t 68) (.k (.d (.bool false))), none⟩])
          (.cond (.t 69)
            .skip
            (.exit 3)))
          (.block 4
            (.rg [⟨(some 70), .mv (.t 7), none⟩,
              ⟨(some 71), .bin .add (.t 70) (.k (.d (.int .i64 1))), none⟩,
              ⟨(some 7), .mv (.t 71), none⟩])))))
      (.seq (.seq (.rg [⟨(some 72), .mv (.t 7), none⟩,
        ⟨(some 73), .bin .add (.t 72) (.k (.d (.int .i64 1))), none⟩,
        ⟨(some 74), .mv (.t 0), none⟩,
        ⟨(some 75), .lenq true (.t 74), none⟩,
        ⟨(some 76), .bin .lss (.t 73) (.t 75), none⟩,
        ⟨(some 77), .mv (.t 76), none⟩,
        ⟨(some 78), .mv (.t 0), some (77, true)⟩,
        ⟨(some 79), .mv (.t 7), some (77, true)⟩,
        ⟨(some 80), .ixs (.t 78) (.t 79), some (77, true)⟩,
        ⟨(some 81), .bin .eql (.t 80) (.k (.d (.int .u8 46))), some (77, true)⟩,
        ⟨(some 82), .pick (.t 77) (.t 81) (.k (.d (.bool false))), none⟩,
        ⟨(some 83), .mv (.t 82), none⟩,
        ⟨(some 84), .mv (.t 0), some (83, true)⟩,
        ⟨(some 85), .mv (.t 7), some (83, true)⟩,
        ⟨(some 86), .bin .add (.t 85) (.k (.d (.int .i64 1))), some (83, true)⟩,
        ⟨(some 87), .ixs (.t 84) (.t 86), some (83, true)⟩,
        ⟨(some 88), .call (.k (.fn 100 [])) [(.t 87)], some (83, true)⟩,
        ⟨(some 89), .pick (.t 83) (.t 88) (.k (.d (.bool false))), none⟩])
      (.cond (.t 89)
        (.seq (.rg [⟨(some 90), .mv (.t 7), none⟩,
          ⟨(some 91), .bin .add (.t 90) (.k (.d (.int .i64 1))), none⟩,
          ⟨(some 7), .mv (.t 91), none⟩])
        (.block 5
          (.loop
            (.seq (.seq (.rg [⟨(some 92), .mv (.t 7), none⟩,
              ⟨(some 93), .mv (.t 0), none⟩,
              ⟨(some 94), .lenq true (.t 93), none⟩,
              ⟨(some 95), .bin .lss (.t 92) (.t 94), none⟩,
              ⟨(some 96), .mv (.t 95), none⟩,
              ⟨(some 97), .mv (.t 0), some (96, true)⟩,
              ⟨(some 98), .mv (.t 7), some (96, true)⟩,
              ⟨(some 99), .ixs (.t 97) (.t 98), some (96, true)⟩,
              ⟨(some 100), .call (.k (.fn 100 [])) [(.t 99)], some (96, true)⟩,
              ⟨(some 101), .pick (.t 96) (.t 100) (.k (.d (.bool false))), none⟩])
            (.cond (.t 101)
              .skip
              (.exit 5)))
            (.block 6
              (.rg [⟨(some 102), .mv (.t 7), none⟩,
                ⟨(some 103), .bin .add (.t 102) (.k (.d (.int .i64 1))), none⟩,
                ⟨(some 7), .mv (.t 103), none⟩]))))))
        .skip))
      (.seq (.rg [⟨(some 104), .mv (.t 0), none⟩,
        ⟨(some 105), .mv (.t 1), none⟩,
        ⟨(some 106), .mv (.t 7), none⟩,
        ⟨(some 107), .ss (.t 104) (some (.t 105)) (some (.t 106)), none⟩,
        ⟨(some 108), .mv (.t 1), none⟩,
        ⟨(some 109), .build [.int .i64 0, .str [], .int .i64 0] [(0, 1, (.k (.d (.int .i64 2)))), (1, 1, (.t 107)), (2, 1, (.t 108))], none⟩,
        ⟨(some 110), .mv (.t 7), none⟩,
        ⟨none, .st 3 (.t 4) (.t 109), none⟩,
        ⟨(some 5), .mv (.t 110), none⟩,
        ⟨(some 6), .mv (.k (.d (.int .i64 0))), none⟩])
      .ret)))
      (.seq (.rg [⟨(some 112), .mv (.t 0), none⟩,
        ⟨(some 113), .mv (.t 1), none⟩,
        ⟨(some 114), .ixs (.t 112) (.t 113), none⟩,
        ⟨(some 115), .bin .eql (.t 114) (.k (.d (.int .u8 34))), none⟩,
        ⟨(some 111), .mv (.t 115), none⟩])
      (.cond (.t 111)
        (.seq (.rg [⟨(some 116), .mv (.t 7), none⟩,
          ⟨(some 117), .bin .add (.t 116) (.k (.d (.int .i64 1))), none⟩,
          ⟨(some 7), .mv (.t 117), none⟩])
        (.seq (.block 7
          (.loop
            (.seq (.seq (.rg [⟨(some 118), .mv (.t 7), none⟩,
              ⟨(some 119), .mv (.t 0), none⟩,
              ⟨(some 120), .lenq true (.t 119), none⟩,
              ⟨(some 121), .bin .lss (.t 118) (.t 120), none⟩,
              ⟨(some 122), .mv (.t 121), none⟩,
              ⟨(some 123), .mv (.t 0), some (122, true)⟩,
              ⟨(some 124), .mv (.t 7), some (122, true)⟩,
              ⟨(some 125), .ixs (.t 123) (.t 124), some (122, true)⟩,
              ⟨(some 126), .bin .neq (.t 125) (.k (.d (.int .u8 34))), some (122, true)⟩,
              ⟨(some 127), .pick (.t 122) (.t 126) (.k (.d (.bool false))), none⟩,
              ⟨(some 128), .mv (.t 127), none⟩,
              ⟨(some 129), .mv (.t 0), some (128, true)⟩,
              ⟨(some 130), .mv (.t 7), some (128, true)⟩,
              ⟨(some 131), .ixs (.t 129) (.t 130), some (128, true)⟩,
              ⟨(some 132), .bin .geq (.t 131) (.k (.d (.int .u8 32))), some (128, true)⟩,
              ⟨(some 133), .pick (.t 128) (.t 132) (.k (.d (.bool false))), none⟩,
              ⟨(some 134), .mv (.t 133), none⟩,
              ⟨(some 135), .mv (.t 0), some (134, true)⟩,
              ⟨(some 136), .mv (.t 7), some (134, true)⟩,
              ⟨(some 137), .ixs (.t 135) (.t 136), some (134, true)⟩,
              ⟨(some 138), .bin .leq (.t 137) (.k (.d (.int .u8 126))), some (134, true)⟩,
              ⟨(some 139), .pick (.t 134) (.t 138) (.k (.d (.bool false))), none⟩])
            (.cond (.t 139)
              .skip
              (.exit 7)))
            (.block 8
              (.rg [⟨(some 140), .mv (.t 7), none⟩,
                ⟨(some 141), .bin .add (.t 140) (.k (.d (.int .i64 1))), none⟩,
                ⟨(some 7), .mv (.t 141), none⟩])))))
        (.seq (.seq (.rg [⟨(some 142), .mv (.t 7), none⟩,
          ⟨(some 143), .mv (.t 0), none⟩,
          ⟨(some 144), .lenq true (.t 143), none⟩,
          ⟨(some 145), .bin .eql (.t 142) (.t 144), none⟩,
          ⟨(some 146), .mv (.t 145), none⟩,
          ⟨(some 147), .mv (.t 0), some (146, false)⟩,
          ⟨(some 148), .mv (.t 7), some (146, false)⟩,
          ⟨(some 149), .ixs (.t 147) (.t 148), some (146, false)⟩,
          ⟨(some 150), .bin .neq (.t 149) (.k (.d (.int .u8 34))), some (146, false)⟩,
          ⟨(some 151), .pick (.t 146) (.k (.d (.bool true))) (.t 150), none⟩])
        (.cond (.t 151)
          (.seq (.rg [⟨(some 152), .build [.int .i64 0, .str [], .int .i64 0] [], none⟩,
            ⟨(some 153), .mv (.t 1), none⟩,
            ⟨none, .st 3 (.t 4) (.t 152), none⟩,
            ⟨(some 5), .mv (.t 153), none⟩,
            ⟨(some 6), .mv (.k (.d (.int .i64 2))), none⟩])
          .ret)
          .skip))
        (.seq (.seq (.rg [⟨(some 154), .mv (.t 7), none⟩,
          ⟨(some 155), .mv (.t 1), none⟩,
          ⟨(some 156), .bin .sub (.t 154) (.t 155), none⟩,
          ⟨(some 157), .bin .sub (.t 156) (.k (.d (.int .i64 1))), none⟩,
          ⟨(some 158), .bin .gtr (.t 157) (.k (.d (.int .i64 16))), none⟩])
        (.cond (.t 158)
          (.seq (.rg [⟨(some 159), .build [.int .i64 0, .str [], .int .i64 0] [], none⟩,
            ⟨(some 160), .mv (.t 1), none⟩,
            ⟨none, .st 3 (.t 4) (.t 159), none⟩,
            ⟨(some 5), .mv (.t 160), none⟩,
            ⟨(some 6), .mv (.k (.d (.int .i64 13))), none⟩])
          .ret)
          .skip))
        (.seq (.rg [⟨(some 161), .mv (.t 0), none⟩,
          ⟨(some 162), .mv (.t 1), none⟩,
          ⟨(some 163), .bin .add (.t 162) (.k (.d (.int .i64 1))), none⟩,
          ⟨(some 164), .mv (.t 7), none⟩,
          ⟨(some 165), .ss (.t 161) (some (.t 163)) (some (.t 164)), none⟩,
          ⟨(some 166), .mv (.t 1), none⟩,
          ⟨(some 167), .build [.int .i64 0, .str [], .int .i64 0] [(0, 1, (.k (.d (.int .i64 3)))), (1, 1, (.t 165)), (2, 1, (.t 166))], none⟩,
          ⟨(some 168), .mv (.t 7), none⟩,
          ⟨(some 169), .bin .add (.t 168) (.k (.d (.int .i64 1))), none⟩,
          ⟨none, .st 3 (.t 4) (.t 167), none⟩,
          ⟨(some 5), .mv (.t 169), none⟩,
          ⟨(some 6), .mv (.k (.d (.int .i64 0))), none⟩])
        .ret)))))
        .skip)))))))
(.seq (.rg [⟨(some 170), .mkrow 9 1 [(.k (.d (.str [60, 61]))), (.k (.d (.str [62, 61]))), (.k (.d (.str [33, 61]))), (.k (.d (.str [46, 46]))), (.k (.d (.str [60]))), (.k (.d (.str [62]))), (.k (.d (.str [61]))), (.k (.d (.str [43]))), (.k (.d (.str [45]))), (.k (.d (.str [42]))), (.k (.d (.str [47]))), (.k (.d (.str [40]))), (.k (.d (.str [41]))), (.k (.d (.str [91]))), (.k (.d (.str [93]))), (.k (.d (.str [44])))], none⟩,
  ⟨(some 8), .mv (.t 170), none⟩])
(.seq (.seq (.rg [⟨(some 9), .mv (.k (.d (.int .i64 0))), none⟩])
(.block 9
  (.loop
    (.seq (.seq (.rg [⟨(some 171), .mv (.t 9), none⟩,
      ⟨(some 172), .mv (.t 8), none⟩,
      ⟨(some 173), .lenq false (.t 172), none⟩,
      ⟨(some 174), .bin .lss (.t 171) (.t 173), none⟩])
    (.cond (.t 174)
      .skip
      (.exit 9)))
    (.seq (.block 10
      (.seq (.rd [⟨(some 177), .mv (.t 0), none⟩,
        ⟨(some 178), .lenq true (.t 177), none⟩,
        ⟨(some 179), .mv (.t 1), none⟩,
        ⟨(some 180), .bin .sub (.t 178) (.t 179), none⟩,
        ⟨(some 181), .mv (.t 8), none⟩,
        ⟨(some 182), .mv (.t 9), none⟩,
        ⟨(some 183), .iad 1 (.t 181) (.t 182), none⟩,
        ⟨(some 184), .ld none (.t 183), none⟩,
        ⟨(some 185), .lenq true (.t 184), none⟩,
        ⟨(some 186), .bin .geq (.t 180) (.t 185), none⟩,
        ⟨(some 187), .mv (.t 186), none⟩,
        ⟨(some 188), .mv (.t 0), some (187, true)⟩,
        ⟨(some 189), .mv (.t 1), some (187, true)⟩,
        ⟨(some 190), .mv (.t 1), some (187, true)⟩,
        ⟨(some 191), .mv (.t 8), some (187, true)⟩,
        ⟨(some 192), .mv (.t 9), some (187, true)⟩,
        ⟨(some 193), .iad 1 (.t 191) (.t 192), some (187, true)⟩,
        ⟨(some 194), .ld none (.t 193), some (187, true)⟩,
        ⟨(some 195), .lenq true (.t 194), some (187, true)⟩,
        ⟨(some 196), .bin .add (.t 190) (.t 195), some (187, true)⟩,
        ⟨(some 197), .ss (.t 188) (some (.t 189)) (some (.t 196)), some (187, true)⟩,
        ⟨(some 198), .mv (.t 8), some (187, true)⟩,
        ⟨(some 199), .mv (.t 9), some (187, true)⟩,
        ⟨(some 200), .iad 1 (.t 198) (.t 199), some (187, true)⟩,
        ⟨(some 201), .ld none (.t 200), some (187, true)⟩,
        ⟨(some 202), .bin .eql (.t 197) (.t 201), some (187, true)⟩,
        ⟨(some 203), .pick (.t 187) (.t 202) (.k (.d (.bool false))), none⟩] [])
      (.cond (.t 203)
        (.seq (.rd [⟨(some 204), .mv (.t 8), none⟩,
          ⟨(some 205), .mv (.t 9), none⟩,
          ⟨(some 206), .iad 1 (.t 204) (.t 205), none⟩,
          ⟨(some 207), .ld none (.t 206), none⟩,
          ⟨(some 208), .mv (.t 1), none⟩,
          ⟨(some 209), .build [.int .i64 0, .str [], .int .i64 0] [(0, 1, (.k (.d (.int .i64 4)))), (1, 1, (.t 207)), (2, 1, (.t 208))], none⟩,
          ⟨(some 210), .mv (.t 1), none⟩,
          ⟨(some 211), .mv (.t 8), none⟩,
          ⟨(some 212), .mv (.t 9), none⟩,
          ⟨(some 213), .iad 1 (.t 211) (.t 212), none⟩,
          ⟨(some 214), .ld none (.t 213), none⟩,
          ⟨(some 215), .lenq true (.t 214), none⟩,
          ⟨(some 216), .bin .add (.t 210) (.t 215), none⟩,
          ⟨none, .st 3 (.t 4) (.t 209), none⟩,
          ⟨(some 5), .mv (.t 216), none⟩,
          ⟨(some 6), .mv (.k (.d (.int .i64 0))), none⟩] [(10, 13)])
        .ret)
        .skip)))
    (.rg [⟨(some 175), .mv (.t 9), none⟩,
      ⟨(some 176), .bin .add (.t 175) (.k (.d (.int .i64 1))), none⟩,
      ⟨(some 9), .mv (.t 176), none⟩]))))))
(.seq (.rg [⟨(some 217), .build [.int .i64 0, .str [], .int .i64 0] [], none⟩,
  ⟨(some 218), .mv (.t 1), none⟩,
  ⟨none, .st 3 (.t 4) (.t 217), none⟩,
  ⟨(some 5), .mv (.t 218), none⟩,
  ⟨(some 6), .mv (.k (.d (.int .i64 2))), none⟩])
.ret)))))) }
theorem af67_ok : cFun Tryz.prog eqT Tryz.f67 = some af67 := by kernel_rfl
/-- (*dossier/dossierref4.reader).expr -/
noncomputable def af68 : AFun := { np := 2, nt := 23, res := [.c 4 (some 8)], code :=
(.seq (.rg [⟨(some 4), .new [.d (.int .i64 0), .d (.bool false), .d (.int .i64 0), .d (.int .i64 0), .d (.str []), .d (.bool false), .d (.bool false), .nils], none⟩])
(.seq (.seq (.rg [⟨(some 6), .mv (.t 0), none⟩,
  ⟨(some 7), .mv (.t 1), none⟩,
  ⟨(some 8), .call (.k (.fn 102 [])) [(.t 6), (.t 7)], none⟩])
(.cond (.t 8)
  (.seq (.rg [⟨(some 9), .build [.int .i64 0, .bool false, .int .i64 0, .int .i64 0, .str [], .bool false, .bool false, .sl []] [], none⟩,
    ⟨none, .st 8 (.t 4) (.t 9), none⟩])
  .ret)
  .skip))
(.seq (.rg [⟨(some 10), .mv (.t 0), none⟩,
  ⟨(some 11), .mv (.t 1), none⟩,
  ⟨(some 12), .call (.k (.fn 103 [])) [(.t 10), (.t 11)], none⟩,
  ⟨(some 5), .new [.d (.int .i64 0), .d (.bool false), .d (.int .i64 0), .d (.int .i64 0), .d (.str []), .d (.bool false), .d (.bool false), .nils], none⟩,
  ⟨none, .st 8 (.t 5) (.t 12), none⟩])
(.seq (.block 0
  (.loop
    (.seq (.seq (.rg [⟨(some 13), .mv (.t 0), none⟩,
      ⟨(some 14), .mkrow 9 1 [(.k (.d (.str [111, 114])))], none⟩,
      ⟨(some 15), .call (.k (.fn 104 [])) [(.t 13), (.t 14)], none⟩,
      ⟨(some 16), .bin .neq (.t 15) (.k (.d (.str []))), none⟩])
    (.cond (.t 16)
      .skip
      (.exit 0)))
    (.block 1
      (.rd [⟨(some 17), .ld (some 8) (.t 5), none⟩,
        ⟨(some 18), .mv (.t 0), none⟩,
        ⟨(some 19), .mv (.t 1), none⟩,
        ⟨(some 20), .call (.k (.fn 103 [])) [(.t 18), (.t 19)], none⟩,
        ⟨(some 21), .call (.k (.fn 105 [])) [(.k (.d (.str [111, 114]))), (.t 17), (.t 20)], none⟩,
        ⟨none, .st 8 (.t 5) (.t 21), none⟩] [(0, 3)])))))
(.seq (.rg [⟨(some 22), .ld (some 8) (.t 5), none⟩,
  ⟨none, .st 8 (.t 4) (.t 22), none⟩])
.ret))))) }
theorem af68_ok : cFun Tryz.prog eqT Tryz.f68 = some af68 := by kernel_rfl
/-- cmp.Compare[int] -/
noncomputable def af69 : AFun := { np := 2, nt := 20, res := [.t 4], code :=
(.seq (.rg [⟨(some 4), .mv (.k (.d (.int .i64 0))), none⟩])
(.seq (.rg [⟨(some 7), .mv (.t 0), none⟩,
  ⟨(some 8), .call (.k (.fn 106 [])) [(.t 7)], none⟩,
  ⟨(some 5), .mv (.t 8), none⟩])
(.seq (.rg [⟨(some 9), .mv (.t 1), none⟩,
  ⟨(some 10), .call (.k (.fn 106 [])) [(.t 9)], none⟩,
  ⟨(some 6), .mv (.t 10), none⟩])
(.seq (.seq (.rg [⟨(some 11), .mv (.t 5), none⟩])
(.cond (.t 11)
  (.seq (.seq (.rg [⟨(some 12), .mv (.t 6), none⟩])
  (.cond (.t 12)
    (.seq (.rg [⟨(some 4), .mv (.k (.d (.int .i64 0))), none⟩])
    .ret)
    .skip))
  (.seq (.rg [⟨(some 4), .mv (.k (.d (.int .i64 (-1)))), none⟩])
  .ret))
  .skip))
(.seq (.seq (.rg [⟨(some 13), .mv (.t 6), none⟩])
(.cond (.t 13)
  (.seq (.rg [⟨(some 4), .mv (.k (.d (.int .i64 1))), none⟩])
  .ret)
  .skip))
(.seq (.seq (.rg [⟨(some 14), .mv (.t 0), none⟩,
  ⟨(some 15), .mv (.t 1), none⟩,
  ⟨(some 16), .bin .lss (.t 14) (.t 15), none⟩])
(.cond (.t 16)
  (.seq (.rg [⟨(some 4), .mv (.k (.d (.int .i64 (-1)))), none⟩])
  .ret)
  .skip))
(.seq (.seq (.rg [⟨(some 17), .mv (.t 0), none⟩,
  ⟨(some 18), .mv (.t 1), none⟩,
  ⟨(some 19), .bin .gtr (.t 17) (.t 18), none⟩])
(.cond (.t 19)
  (.seq (.rg [⟨(some 4), .mv (.k (.d (.int .i64 1))), none⟩])
  .ret)
  .skip))
(.seq (.rg [⟨(some 4), .mv (.k (.d (.int .i64 0))), none⟩])
.ret)))))))) }
theorem af69_ok : cFun Tryz.prog eqT Tryz.f69 = some af69 := by kernel_rfl
/-- dossier/val.number -/
noncomputable def af70 : AFun := { np := 1, nt := 4, res := [.t 2], code :=
(.seq (.rg [⟨(some 2), .mv (.k (.d (.int .i64 0))), none⟩])
(.seq (.seq (.rg [⟨(some 3), .mv (.t 0), none⟩])
(.cond (.t 3)
  (.seq (.rg [⟨(some 2), .mv (.k (.d (.int .i64 1))), none⟩])
  .ret)
  .skip))
(.seq (.rg [⟨(some 2), .mv (.k (.d (.int .i64 0))), none⟩])
.ret))) }
theorem af70_ok : cFun Tryz.prog eqT Tryz.f70 = some af70 := by kernel_rfl
/-- dossier/dec.Cmp -/
noncomputable def af71 : AFun := { np := 2, nt := 10, res := [.t 4], code :=
(.seq (.rg [⟨(some 2), .box (.t 0), none⟩,
  ⟨(some 3), .box (.t 1), none⟩,
  ⟨(some 4), .mv (.k (.d (.int .i64 0))), none⟩])
(.seq (.rd [⟨(some 5), .ld (some 2) (.t 2), none⟩,
  ⟨(some 6), .call (.k (.fn 107 [])) [(.t 5), (.k (.d (.int .i64 4)))], none⟩,
  ⟨(some 7), .ld (some 2) (.t 3), none⟩,
  ⟨(some 8), .call (.k (.fn 107 [])) [(.t 7), (.k (.d (.int .i64 4)))], none⟩,
  ⟨(some 9), .call (.k (.fn 69 [])) [(.t 6), (.t 8)], none⟩,
  ⟨(some 4), .mv (.t 9), none⟩] [(1, 2), (0, 3), (0, 4), (2, 4)])
.ret)) }
theorem af71_ok : cFun Tryz.prog eqT Tryz.f71 = some af71 := by kernel_rfl
/-- cmp.Compare[string] -/
noncomputable def af72 : AFun := { np := 2, nt := 20, res := [.t 4], code :=
(.seq (.rg [⟨(some 4), .mv (.k (.d (.int .i64 0))), none⟩])
(.seq (.rg [⟨(some 7), .mv (.t 0), none⟩,
  ⟨(some 8), .call (.k (.fn 108 [])) [(.t 7)], none⟩,
  ⟨(some 5), .mv (.t 8), none⟩])
(.seq (.rg [⟨(some 9), .mv (.t 1), none⟩,
  ⟨(some 10), .call (.k (.fn 108 [])) [(.t 9)], none⟩,
  ⟨(some 6), .mv (.t 10), none⟩])
(.seq (.seq (.rg [⟨(some 11), .mv (.t 5), none⟩])
(.cond (.t 11)
  (.seq (.seq (.rg [⟨(some 12), .mv (.t 6), none⟩])
  (.cond (.t 12)
    (.seq (.rg [⟨(some 4), .mv (.k (.d (.int .i64 0))), none⟩])
    .ret)
    .skip))
  (.seq (.rg [⟨(some 4), .mv (.k (.d (.int .i64 (-1)))), none⟩])
  .ret))
  .skip))
(.seq (.seq (.rg [⟨(some 13), .mv (.t 6), none⟩])
(.cond (.t 13)
  (.seq (.rg [⟨(some 4), .mv (.k (.d (.int .i64 1))), none⟩])
  .ret)
  .skip))
(.seq (.seq (.rg [⟨(some 14), .mv (.t 0), none⟩,
  ⟨(some 15), .mv (.t 1), none⟩,
  ⟨(some 16), .bin .lss (.t 14) (.t 15), none⟩])
(.cond (.t 16)
  (.seq (.rg [⟨(some 4), .mv (.k (.d (.int .i64 (-1)))), none⟩])
  .ret)
  .skip))
(.seq (.seq (.rg [⟨(some 17), .mv (.t 0), none⟩,
  ⟨(some 18), .mv (.t 1), none⟩,
  ⟨(some 19), .bin .gtr (.t 17) (.t 18), none⟩])
(.cond (.t 19)
  (.seq (.rg [⟨(some 4), .mv (.k (.d (.int .i64 1))), none⟩])
  .ret)
  .skip))
(.seq (.rg [⟨(some 4), .mv (.k (.d (.int .i64 0))), none⟩])
.ret)))))))) }
theorem af72_ok : cFun Tryz.prog eqT Tryz.f72 = some af72 := by kernel_rfl
/-- slices.CompareFunc[[]dossier/api.Val,[]dossier/api.Val,dossier/api.Val,dossier/api.Val] -/
noncomputable def af73 : AFun := { np := 3, nt := 39, res := [.t 6], code :=
(.seq (.rg [⟨(some 6), .mv (.k (.d (.int .i64 0))), none⟩])
(.seq (.seq (.rg [⟨(some 11), .mv (.t 0), none⟩,
  ⟨(some 12), .lenq false (.t 11), none⟩,
  ⟨(some 13), .mv (.k (.d (.int .i64 0))), none⟩])
(.block 0
  (.loop
    (.seq (.rg [⟨(some 14), .bin .lss (.t 13) (.t 12), none⟩])
    (.seq (.cond (.t 14)
      .skip
      (.exit 0))
    (.seq (.block 1
      (.seq (.rg [⟨(some 15), .mv (.t 13), none⟩,
        ⟨(some 16), .iad 6 (.t 11) (.t 13), none⟩,
        ⟨(some 17), .ld (some 6) (.t 16), none⟩,
        ⟨(some 8), .new [.d (.int .i64 0), .d (.bool false), .d (.int .i64 0), .d (.int .i64 0), .d (.str []), .nils], none⟩,
        ⟨(some 7), .mv (.t 15), none⟩,
        ⟨none, .st 6 (.t 8) (.t 17), none⟩])
      (.seq (.seq (.rg [⟨(some 18), .mv (.t 7), none⟩,
        ⟨(some 19), .mv (.t 1), none⟩,
        ⟨(some 20), .lenq false (.t 19), none⟩,
        ⟨(some 21), .bin .geq (.t 18) (.t 20), none⟩])
      (.cond (.t 21)
        (.seq (.rg [⟨(some 6), .mv (.k (.d (.int .i64 1))), none⟩])
        .ret)
        .skip))
      (.seq (.rg [⟨(some 22), .mv (.t 1), none⟩,
        ⟨(some 23), .mv (.t 7), none⟩,
        ⟨(some 24), .iad 6 (.t 22) (.t 23), none⟩,
        ⟨(some 25), .ld (some 6) (.t 24), none⟩,
        ⟨(some 9), .new [.d (.int .i64 0), .d (.bool false), .d (.int .i64 0), .d (.int .i64 0), .d (.str []), .nils], none⟩,
        ⟨none, .st 6 (.t 9) (.t 25), none⟩])
      (.seq (.rg [⟨(some 26), .mv (.t 2), none⟩,
        ⟨(some 27), .ld (some 6) (.t 8), none⟩,
        ⟨(some 28), .ld (some 6) (.t 9), none⟩,
        ⟨(some 29), .call (.t 26) [(.t 27), (.t 28)], none⟩,
        ⟨(some 10), .mv (.t 29), none⟩])
      (.seq (.rg [⟨(some 30), .mv (.t 10), none⟩,
        ⟨(some 31), .bin .neq (.t 30) (.k (.d (.int .i64 0))), none⟩])
      (.cond (.t 31)
        (.seq (.rg [⟨(some 32), .mv (.t 10), none⟩,
          ⟨(some 6), .mv (.t 32), none⟩])
        .ret)
        .skip)))))))
    (.rg [⟨(some 33), .bin .add (.t 13) (.k (.d (.int .i64 1))), none⟩,
      ⟨(some 13), .mv (.t 33), none⟩])))))))
(.seq (.seq (.rg [⟨(some 34), .mv (.t 0), none⟩,
  ⟨(some 35), .lenq false (.t 34), none⟩,
  ⟨(some 36), .mv (.t 1), none⟩,
  ⟨(some 37), .lenq false (.t 36), none⟩,
  ⟨(some 38), .bin .lss (.t 35) (.t 37), none⟩])
(.cond (.t 38)
  (.seq (.rg [⟨(some 6), .mv (.k (.d (.int .i64 (-1)))), none⟩])
  .ret)
  .skip))
(.seq (.rg [⟨(some 6), .mv (.k (.d (.int .i64 0))), none⟩])
.ret)))) }
theorem af73_ok : cFun Tryz.prog eqT Tryz.f73 = some af73 := by kernel_rfl
/-- dossier/dossierref2.order -/
noncomputable def af74 : AFun := { np := 2, nt := 13, res := [.t 4], code :=
(.seq (.rg [⟨(some 4), .mv (.k (.d (.int .i64 0))), none⟩])
(.seq (.block 0
  (.seq (.rg [⟨(some 6), .mv (.t 0), none⟩,
    ⟨(some 7), .mv (.t 1), none⟩,
    ⟨(some 8), .bin .lss (.t 6) (.t 7), none⟩,
    ⟨(some 5), .mv (.t 8), none⟩])
  (.cond (.t 5)
    (.seq (.rg [⟨(some 4), .mv (.k (.d (.int .i64 (-1)))), none⟩])
    .ret)
    (.seq (.rg [⟨(some 10), .mv (.t 0), none⟩,
      ⟨(some 11), .mv (.t 1), none⟩,
      ⟨(some 12), .bin .gtr (.t 10) (.t 11), none⟩,
      ⟨(some 9), .mv (.t 12), none⟩])
    (.cond (.t 9)
      (.seq (.rg [⟨(some 4), .mv (.k (.d (.int .i64 1))), none⟩])
      .ret)
      .skip)))))
(.seq (.rg [⟨(some 4), .mv (.k (.d (.int .i64 0))), none⟩])
.ret))) }
theorem af74_ok : cFun Tryz.prog eqT Tryz.f74 = some af74 := by kernel_rfl
/-- dossier/dossierref2.one -/
noncomputable def af75 : AFun := { np := 1, nt := 4, res := [.t 2], code :=
(.seq (.rg [⟨(some 2), .mv (.k (.d (.int .i64 0))), none⟩])
(.seq (.seq (.rg [⟨(some 3), .mv (.t 0), none⟩])
(.cond (.t 3)
  (.seq (.rg [⟨(some 2), .mv (.k (.d (.int .i64 1))), none⟩])
  .ret)
  .skip))
(.seq (.rg [⟨(some 2), .mv (.k (.d (.int .i64 0))), none⟩])
.ret))) }
theorem af75_ok : cFun Tryz.prog eqT Tryz.f75 = some af75 := by kernel_rfl
/-- dossier/dossierref1.Cmp -/
noncomputable def af76 : AFun := { np := 2, nt := 29, res := [.t 4], code :=
(.seq (.rg [⟨(some 2), .box (.t 0), none⟩,
  ⟨(some 3), .box (.t 1), none⟩,
  ⟨(some 4), .mv (.k (.d (.int .i64 0))), none⟩])
(.seq (.rd [⟨(some 7), .fad (.t 2) 0, none⟩,
  ⟨(some 8), .ld none (.t 7), none⟩,
  ⟨(some 9), .fad (.t 2) 1, none⟩,
  ⟨(some 10), .ld none (.t 9), none⟩,
  ⟨(some 11), .bin .sub (.k (.d (.int .i64 4))) (.t 10), none⟩,
  ⟨(some 12), .call (.k (.fn 109 [])) [(.t 11)], none⟩,
  ⟨(some 13), .bin .mul (.t 8) (.t 12), none⟩,
  ⟨(some 14), .fad (.t 3) 0, none⟩,
  ⟨(some 15), .ld none (.t 14), none⟩,
  ⟨(some 16), .fad (.t 3) 1, none⟩,
  ⟨(some 17), .ld none (.t 16), none⟩,
  ⟨(some 18), .bin .sub (.k (.d (.int .i64 4))) (.t 17), none⟩,
  ⟨(some 19), .call (.k (.fn 109 [])) [(.t 18)], none⟩,
  ⟨(some 20), .bin .mul (.t 15) (.t 19), none⟩,
  ⟨(some 5), .mv (.t 13), none⟩,
  ⟨(some 6), .mv (.t 20), none⟩] [(1, 5), (3, 5), (5, 8), (5, 10), (1, 12), (3, 12), (8, 12), (10, 12)])
(.seq (.block 0
  (.seq (.rg [⟨(some 22), .mv (.t 5), none⟩,
    ⟨(some 23), .mv (.t 6), none⟩,
    ⟨(some 24), .bin .lss (.t 22) (.t 23), none⟩,
    ⟨(some 21), .mv (.t 24), none⟩])
  (.cond (.t 21)
    (.seq (.rg [⟨(some 4), .mv (.k (.d (.int .i64 (-1)))), none⟩])
    .ret)
    (.seq (.rg [⟨(some 26), .mv (.t 5), none⟩,
      ⟨(some 27), .mv (.t 6), none⟩,
      ⟨(some 28), .bin .gtr (.t 26) (.t 27), none⟩,
      ⟨(some 25), .mv (.t 28), none⟩])
    (.cond (.t 25)
      (.seq (.rg [⟨(some 4), .mv (.k (.d (.int .i64 1))), none⟩])
      .ret)
      .skip)))))
(.seq (.rg [⟨(some 4), .mv (.k (.d (.int .i64 0))), none⟩])
.ret)))) }
theorem af76_ok : cFun Tryz.prog eqT Tryz.f76 = some af76 := by kernel_rfl
/-- dossier/val.may -/
noncomputable def af77 : AFun := { np := 2, nt := 70, res := [.t 4], code :=
(.seq (.rg [⟨(some 2), .box (.t 0), none⟩,
  ⟨(some 3), .box (.t 1), none⟩,
  ⟨(some 4), .mv (.k (.d (.bool false))), none⟩])
(.seq (.rg [⟨(some 7), .ld (some 6) (.t 2), none⟩,
  ⟨(some 8), .call (.k (.fn 110 [])) [(.t 7)], none⟩,
  ⟨(some 5), .new [.d (.int .i64 0), .d (.bool false), .d (.int .i64 0), .d (.int .i64 0), .d (.str []), .nils], none⟩,
  ⟨none, .st 6 (.t 5) (.t 8), none⟩])
(.seq (.seq (.rg [⟨(some 9), .fad (.t 5) 1, none⟩,
  ⟨(some 10), .ld none (.t 9), none⟩,
  ⟨(some 11), .fad (.t 2) 1, none⟩,
  ⟨(some 12), .ld none (.t 11), none⟩,
  ⟨(some 13), .eqb true (.t 10) (.t 12), none⟩,
  ⟨(some 14), .mv (.t 13), none⟩,
  ⟨(some 15), .fad (.t 5) 2, some (14, false)⟩,
  ⟨(some 16), .ld (some 2) (.t 15), some (14, false)⟩,
  ⟨(some 17), .fad (.t 2) 2, some (14, false)⟩,
  ⟨(some 18), .ld (some 2) (.t 17), some (14, false)⟩,
  ⟨(some 19), .eqs 2 true (.t 16) (.t 18), some (14, false)⟩,
  ⟨(some 20), .pick (.t 14) (.k (.d (.bool true))) (.t 19), none⟩,
  ⟨(some 21), .mv (.t 20), none⟩,
  ⟨(some 22), .fad (.t 5) 4, some (21, false)⟩,
  ⟨(some 23), .ld none (.t 22), some (21, false)⟩,
  ⟨(some 24), .fad (.t 2) 4, some (21, false)⟩,
  ⟨(some 25), .ld none (.t 24), some (21, false)⟩,
  ⟨(some 26), .bin .neq (.t 23) (.t 25), some (21, false)⟩,
  ⟨(some 27), .pick (.t 21) (.k (.d (.bool true))) (.t 26), none⟩,
  ⟨(some 28), .mv (.t 27), none⟩,
  ⟨(some 29), .fad (.t 5) 5, some (28, false)⟩,
  ⟨(some 30), .ld none (.t 29), some (28, false)⟩,
  ⟨(some 31), .lenq false (.t 30), some (28, false)⟩,
  ⟨(some 32), .fad (.t 2) 5, some (28, false)⟩,
  ⟨(some 33), .ld none (.t 32), some (28, false)⟩,
  ⟨(some 34), .lenq false (.t 33), some (28, false)⟩,
  ⟨(some 35), .bin .neq (.t 31) (.t 34), some (28, false)⟩,
  ⟨(some 36), .pick (.t 28) (.k (.d (.bool true))) (.t 35), none⟩])
(.cond (.t 36)
  (.seq (.rg [⟨(some 4), .mv (.k (.d (.bool false))), none⟩])
  .ret)
  .skip))
(.seq (.seq (.rg [⟨(some 37), .fad (.t 2) 0, none⟩,
  ⟨(some 38), .ld none (.t 37), none⟩])
(.block 0
  (.seq (.seq (.rg [⟨(some 40), .bin .eql (.t 38) (.k (.d (.int .i64 0))), none⟩,
    ⟨(some 39), .mv (.t 40), none⟩])
  (.cond (.t 39)
    .skip
    (.rg [⟨(some 41), .bin .eql (.t 38) (.k (.d (.int .i64 1))), none⟩,
      ⟨(some 39), .mv (.t 41), none⟩])))
  (.cond (.t 39)
    (.seq (.rg [⟨(some 4), .mv (.k (.d (.bool true))), none⟩])
    .ret)
    (.seq (.rg [⟨(some 43), .bin .eql (.t 38) (.k (.d (.int .i64 2))), none⟩,
      ⟨(some 42), .mv (.t 43), none⟩])
    (.cond (.t 42)
      (.seq (.rg [⟨(some 44), .fad (.t 2) 2, none⟩,
        ⟨(some 45), .ld (some 2) (.t 44), none⟩,
        ⟨(some 46), .call (.k (.fn 43 [])) [(.t 45)], none⟩,
        ⟨(some 4), .mv (.t 46), none⟩])
      .ret)
      (.seq (.rg [⟨(some 48), .bin .eql (.t 38) (.k (.d (.int .i64 3))), none⟩,
        ⟨(some 47), .mv (.t 48), none⟩])
      (.cond (.t 47)
        (.seq (.rg [⟨(some 49), .fad (.t 2) 4, none⟩,
          ⟨(some 50), .ld none (.t 49), none⟩,
          ⟨(some 51), .call (.k (.fn 111 [])) [(.t 50)], none⟩,
          ⟨(some 4), .mv (.t 51), none⟩])
        .ret)
        (.seq (.rg [⟨(some 53), .bin .eql (.t 38) (.k (.d (.int .i64 4))), none⟩,
          ⟨(some 52), .mv (.t 53), none⟩])
        (.cond (.t 52)
          (.seq (.rg [⟨(some 54), .fnv 112 [(.t 3)], none⟩,
            ⟨(some 6), .mv (.t 54), none⟩])
          (.seq (.rg [⟨(some 55), .ld none (.t 3), none⟩,
            ⟨(some 56), .bin .lss (.t 55) (.k (.d (.int .i64 2))), none⟩,
            ⟨(some 57), .mv (.t 56), none⟩,
            ⟨(some 58), .fad (.t 2) 5, some (57, true)⟩,
            ⟨(some 59), .ld none (.t 58), some (57, true)⟩,
            ⟨(some 60), .lenq false (.t 59), some (57, true)⟩,
            ⟨(some 61), .bin .leq (.t 60) (.k (.d (.int .i64 8))), some (57, true)⟩,
            ⟨(some 62), .pick (.t 57) (.t 61) (.k (.d (.bool false))), none⟩,
            ⟨(some 63), .mv (.t 62), none⟩,
            ⟨(some 64), .fad (.t 2) 5, some (63, true)⟩,
            ⟨(some 65), .ld none (.t 64), some (63, true)⟩,
            ⟨(some 66), .mv (.t 6), some (63, true)⟩,
            ⟨(some 67), .call (.k (.fn 113 [])) [(.t 65), (.t 66)], some (63, true)⟩,
            ⟨(some 68), .un .not (.t 67), some (63, true)⟩,
            ⟨(some 69), .pick (.t 63) (.t 68) (.k (.d (.bool false))), none⟩,
            ⟨(some 4), .mv (.t 69), none⟩])
          .ret))
          .skip))))))))))
(.seq (.rg [⟨(some 4), .mv (.k (.d (.bool false))), none⟩])
.ret))))) }
theorem af77_ok : cFun Tryz.prog eqT Tryz.f77 = some af77 := by kernel_rfl
/-- dossier/val.Copy -/
noncomputable def af78 : AFun := { np := 1, nt := 25, res := [.c 2 (some 6)], code :=
(.seq (.rg [⟨(some 1), .box (.t 0), none⟩,
  ⟨(some 2), .new [.d (.int .i64 0), .d (.bool false), .d (.int .i64 0), .d (.int .i64 0), .d (.str []), .nils], none⟩])
(.seq (.rg [⟨(some 5), .fad (.t 1) 5, none⟩,
  ⟨(some 6), .ld none (.t 5), none⟩,
  ⟨(some 7), .call (.k (.fn 114 [])) [(.t 6)], none⟩,
  ⟨(some 8), .fad (.t 1) 5, none⟩,
  ⟨none, .st 1 (.t 8) (.t 7), none⟩])
(.seq (.seq (.rg [⟨(some 9), .fad (.t 1) 5, none⟩,
  ⟨(some 10), .ld none (.t 9), none⟩,
  ⟨(some 11), .lenq false (.t 10), none⟩,
  ⟨(some 12), .mv (.k (.d (.int .i64 0))), none⟩])
(.block 0
  (.loop
    (.seq (.rg [⟨(some 13), .bin .lss (.t 12) (.t 11), none⟩])
    (.seq (.cond (.t 13)
      .skip
      (.exit 0))
    (.seq (.block 1
      (.seq (.rg [⟨(some 14), .mv (.t 12), none⟩,
        ⟨(some 15), .iad 6 (.t 10) (.t 12), none⟩,
        ⟨(some 16), .ld (some 6) (.t 15), none⟩,
        ⟨(some 4), .new [.d (.int .i64 0), .d (.bool false), .d (.int .i64 0), .d (.int .i64 0), .d (.str []), .nils], none⟩,
        ⟨(some 3), .mv (.t 14), none⟩,
        ⟨none, .st 6 (.t 4) (.t 16), none⟩])
      (.rd [⟨(some 17), .fad (.t 1) 5, none⟩,
        ⟨(some 18), .ld none (.t 17), none⟩,
        ⟨(some 19), .mv (.t 3), none⟩,
        ⟨(some 20), .ld (some 6) (.t 4), none⟩,
        ⟨(some 21), .call (.k (.fn 78 [])) [(.t 20)], none⟩,
        ⟨(some 22), .iad 6 (.t 18) (.t 19), none⟩,
        ⟨none, .st 6 (.t 22) (.t 21), none⟩] [(1, 4)])))
    (.rg [⟨(some 23), .bin .add (.t 12) (.k (.d (.int .i64 1))), none⟩,
      ⟨(some 12), .mv (.t 23), none⟩])))))))
(.seq (.rg [⟨(some 24), .ld (some 6) (.t 1), none⟩,
  ⟨none, .st 6 (.t 2) (.t 24), none⟩])
.ret)))) }
theorem af78_ok : cFun Tryz.prog eqT Tryz.f78 = some af78 := by kernel_rfl
/-- dossier/val.And -/
noncomputable def af79 : AFun := { np := 2, nt := 22, res := [.c 4 (some 6)], code :=
(.seq (.rg [⟨(some 2), .box (.t 0), none⟩,
  ⟨(some 3), .box (.t 1), none⟩,
  ⟨(some 4), .new [.d (.int .i64 0), .d (.bool false), .d (.int .i64 0), .d (.int .i64 0), .d (.str []), .nils], none⟩])
(.seq (.block 0
  (.seq (.rg [⟨(some 6), .ld (some 6) (.t 2), none⟩,
    ⟨(some 7), .call (.k (.fn 115 [])) [(.t 6)], none⟩,
    ⟨(some 8), .mv (.t 7), none⟩,
    ⟨(some 9), .ld (some 6) (.t 3), some (8, false)⟩,
    ⟨(some 10), .call (.k (.fn 115 [])) [(.t 9)], some (8, false)⟩,
    ⟨(some 11), .pick (.t 8) (.k (.d (.bool true))) (.t 10), none⟩,
    ⟨(some 5), .mv (.t 11), none⟩])
  (.cond (.t 5)
    (.seq (.rg [⟨(some 12), .call (.k (.fn 116 [])) [(.k (.d (.bool false)))], none⟩,
      ⟨none, .st 6 (.t 4) (.t 12), none⟩])
    .ret)
    (.seq (.rg [⟨(some 14), .ld (some 6) (.t 2), none⟩,
      ⟨(some 15), .call (.k (.fn 45 [])) [(.t 14)], none⟩,
      ⟨(some 16), .mv (.t 15), none⟩,
      ⟨(some 17), .ld (some 6) (.t 3), some (16, true)⟩,
      ⟨(some 18), .call (.k (.fn 45 [])) [(.t 17)], some (16, true)⟩,
      ⟨(some 19), .pick (.t 16) (.t 18) (.k (.d (.bool false))), none⟩,
      ⟨(some 13), .mv (.t 19), none⟩])
    (.cond (.t 13)
      (.seq (.rg [⟨(some 20), .call (.k (.fn 116 [])) [(.k (.d (.bool true)))], none⟩,
        ⟨none, .st 6 (.t 4) (.t 20), none⟩])
      .ret)
      .skip)))))
(.seq (.rg [⟨(some 21), .build [.int .i64 0, .bool false, .int .i64 0, .int .i64 0, .str [], .sl []] [], none⟩,
  ⟨none, .st 6 (.t 4) (.t 21), none⟩])
.ret))) }
theorem af79_ok : cFun Tryz.prog eqT Tryz.f79 = some af79 := by kernel_rfl
/-- dossier/val.Or -/
noncomputable def af80 : AFun := { np := 2, nt := 11, res := [.c 4 (some 6)], code :=
(.seq (.rg [⟨(some 2), .box (.t 0), none⟩,
  ⟨(some 3), .box (.t 1), none⟩,
  ⟨(some 4), .new [.d (.int .i64 0), .d (.bool false), .d (.int .i64 0), .d (.int .i64 0), .d (.str []), .nils], none⟩])
(.seq (.rd [⟨(some 5), .ld (some 6) (.t 2), none⟩,
  ⟨(some 6), .call (.k (.fn 117 [])) [(.t 5)], none⟩,
  ⟨(some 7), .ld (some 6) (.t 3), none⟩,
  ⟨(some 8), .call (.k (.fn 117 [])) [(.t 7)], none⟩,
  ⟨(some 9), .call (.k (.fn 79 [])) [(.t 6), (.t 8)], none⟩,
  ⟨(some 10), .call (.k (.fn 117 [])) [(.t 9)], none⟩,
  ⟨none, .st 6 (.t 4) (.t 10), none⟩] [(1, 2), (0, 3), (0, 4), (2, 4), (0, 5), (1, 5), (2, 5), (3, 5)])
.ret)) }
theorem af80_ok : cFun Tryz.prog eqT Tryz.f80 = some af80 := by kernel_rfl
end Go.Proofs.YtkmmfenknekcbaaGreat
