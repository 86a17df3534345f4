/- The compiled code of this seat's functions, printed by a program; each is what the compiler's function makes of the model's code (kernel_rfl). -/
import Derived.Test.YtkmmfenknekcbaaAeComp
import Derived.Test.YtkmmfenknekcbaaProg
set_option linter.unusedSimpArgs false
set_option linter.unusedVariables false
set_option maxRecDepth 100000
namespace Go.Proofs.Ytkmmfenknekcbaa
open Go.Ae
def eqT (t : TypeId) : Bool := t == 23
/-- gosem.cut.init -/
noncomputable def af2 : AFun := { np := 0, nt := 1, res := [], code :=
(.rg [⟨(some 0), .call (.k (.fn 1 [])) [], none⟩]) }
theorem af2_ok : cFun Try.prog eqT Try.f2 = some af2 := by kernel_rfl
/-- dossier/dossierlaw6.EvalMods -/
noncomputable def af3 : AFun := { np := 2, nt := 96, res := [.t 4], code :=
(.seq (.rg [⟨(some 4), .mv (.k (.d (.bool false))), none⟩])
(.seq (.seq (.rg [⟨(some 9), .mv (.t 0), none⟩,
  ⟨(some 10), .bin .lss (.t 9) (.k (.d (.int .i64 (-1000000)))), none⟩,
  ⟨(some 11), .mv (.t 10), none⟩,
  ⟨(some 12), .mv (.t 0), some (11, false)⟩,
  ⟨(some 13), .bin .gtr (.t 12) (.k (.d (.int .i64 1000000))), some (11, false)⟩,
  ⟨(some 14), .pick (.t 11) (.k (.d (.bool true))) (.t 13), none⟩,
  ⟨(some 15), .mv (.t 14), none⟩,
  ⟨(some 16), .mv (.t 1), some (15, false)⟩,
  ⟨(some 17), .bin .lss (.t 16) (.k (.d (.int .i64 (-1000)))), some (15, false)⟩,
  ⟨(some 18), .pick (.t 15) (.k (.d (.bool true))) (.t 17), none⟩,
  ⟨(some 19), .mv (.t 18), none⟩,
  ⟨(some 20), .mv (.t 1), some (19, false)⟩,
  ⟨(some 21), .bin .gtr (.t 20) (.k (.d (.int .i64 1000))), some (19, false)⟩,
  ⟨(some 22), .pick (.t 19) (.k (.d (.bool true))) (.t 21), none⟩])
(.cond (.t 22)
  (.seq (.rg [⟨(some 4), .mv (.k (.d (.bool true))), none⟩])
  .ret)
  .skip))
(.seq (.rg [⟨(some 23), .mv (.t 0), none⟩,
  ⟨(some 24), .call (.k (.fn 8 [])) [(.t 23)], none⟩,
  ⟨(some 25), .build [.str [], .int .i64 0, .bool false, .int .i64 0, .int .i64 0, .str [], .sl []] [(0, 1, (.k (.d (.str [97])))), (1, 6, (.t 24))], none⟩,
  ⟨(some 26), .mv (.t 1), none⟩,
  ⟨(some 27), .call (.k (.fn 8 [])) [(.t 26)], none⟩,
  ⟨(some 28), .build [.str [], .int .i64 0, .bool false, .int .i64 0, .int .i64 0, .str [], .sl []] [(0, 1, (.k (.d (.str [98])))), (1, 6, (.t 27))], none⟩,
  ⟨(some 29), .mkrow 29 7 [(.t 25), (.t 28)], none⟩,
  ⟨(some 5), .mv (.t 29), none⟩])
(.seq (.rg [⟨(some 31), .mv (.t 5), none⟩,
  ⟨(some 32), .call (.k (.fn 9 [])) [(.k (.d (.str [109, 111, 100, 40, 97, 44, 32, 98, 41]))), (.t 31)], none⟩,
  ⟨(some 30), .mv (.t 32), none⟩,
  ⟨(some 33), .ext (.t 30) 0, none⟩,
  ⟨(some 34), .ext (.t 30) 1, none⟩,
  ⟨(some 6), .new [.d (.int .i64 0), .d (.bool false), .d (.int .i64 0), .d (.int .i64 0), .d (.str []), .nils], none⟩,
  ⟨none, .st 6 (.t 6) (.t 33), none⟩,
  ⟨(some 7), .mv (.t 34), none⟩])
(.seq (.seq (.rg [⟨(some 35), .mv (.t 1), none⟩,
  ⟨(some 36), .bin .eql (.t 35) (.k (.d (.int .i64 0))), none⟩])
(.cond (.t 36)
  (.seq (.rg [⟨(some 37), .mv (.t 7), none⟩,
    ⟨(some 38), .bin .eql (.t 37) (.k (.d (.int .i64 0))), none⟩,
    ⟨(some 39), .mv (.t 38), none⟩,
    ⟨(some 40), .fad (.t 6) 0, some (39, true)⟩,
    ⟨(some 41), .ld none (.t 40), some (39, true)⟩,
    ⟨(some 42), .bin .eql (.t 41) (.k (.d (.int .i64 0))), some (39, true)⟩,
    ⟨(some 43), .pick (.t 39) (.t 42) (.k (.d (.bool false))), none⟩,
    ⟨(some 44), .mv (.t 43), none⟩,
    ⟨(some 45), .call (.k (.fn 10 [])) [], some (44, true)⟩,
    ⟨(some 46), .pick (.t 44) (.t 45) (.k (.d (.bool false))), none⟩,
    ⟨(some 4), .mv (.t 46), none⟩])
  .ret)
  .skip))
(.seq (.rg [⟨(some 47), .fad (.t 6) 2, none⟩,
  ⟨(some 48), .fad (.t 47) 0, none⟩,
  ⟨(some 49), .ld none (.t 48), none⟩,
  ⟨(some 8), .mv (.t 49), none⟩])
(.seq (.rg [⟨(some 50), .mv (.t 7), none⟩,
  ⟨(some 51), .bin .eql (.t 50) (.k (.d (.int .i64 0))), none⟩,
  ⟨(some 52), .mv (.t 51), none⟩,
  ⟨(some 53), .fad (.t 6) 0, some (52, true)⟩,
  ⟨(some 54), .ld none (.t 53), some (52, true)⟩,
  ⟨(some 55), .bin .eql (.t 54) (.k (.d (.int .i64 2))), some (52, true)⟩,
  ⟨(some 56), .pick (.t 52) (.t 55) (.k (.d (.bool false))), none⟩,
  ⟨(some 57), .mv (.t 56), none⟩,
  ⟨(some 58), .fad (.t 6) 2, some (57, true)⟩,
  ⟨(some 59), .fad (.t 58) 1, some (57, true)⟩,
  ⟨(some 60), .ld none (.t 59), some (57, true)⟩,
  ⟨(some 61), .bin .eql (.t 60) (.k (.d (.int .i64 0))), some (57, true)⟩,
  ⟨(some 62), .pick (.t 57) (.t 61) (.k (.d (.bool false))), none⟩,
  ⟨(some 63), .mv (.t 62), none⟩,
  ⟨(some 64), .mv (.t 0), some (63, true)⟩,
  ⟨(some 65), .mv (.t 8), some (63, true)⟩,
  ⟨(some 66), .bin .sub (.t 64) (.t 65), some (63, true)⟩,
  ⟨(some 67), .mv (.t 1), some (63, true)⟩,
  ⟨(some 68), .bin .rem (.t 66) (.t 67), some (63, true)⟩,
  ⟨(some 69), .bin .eql (.t 68) (.k (.d (.int .i64 0))), some (63, true)⟩,
  ⟨(some 70), .pick (.t 63) (.t 69) (.k (.d (.bool false))), none⟩,
  ⟨(some 71), .mv (.t 70), none⟩,
  ⟨(some 72), .mv (.t 8), some (71, true)⟩,
  ⟨(some 73), .bin .eql (.t 72) (.k (.d (.int .i64 0))), some (71, true)⟩,
  ⟨(some 74), .mv (.t 73), some (71, true)⟩,
  ⟨(some 75), .mv (.t 8), some (74, false)⟩,
  ⟨(some 76), .bin .lss (.t 75) (.k (.d (.int .i64 0))), some (74, false)⟩,
  ⟨(some 77), .mv (.t 1), some (74, false)⟩,
  ⟨(some 78), .bin .lss (.t 77) (.k (.d (.int .i64 0))), some (74, false)⟩,
  ⟨(some 79), .eqb false (.t 76) (.t 78), some (74, false)⟩,
  ⟨(some 80), .pick (.t 74) (.k (.d (.bool true))) (.t 79), some (71, true)⟩,
  ⟨(some 81), .pick (.t 71) (.t 80) (.k (.d (.bool false))), none⟩,
  ⟨(some 82), .mv (.t 81), none⟩,
  ⟨(some 83), .mv (.t 8), some (82, true)⟩,
  ⟨(some 84), .mv (.t 8), some (82, true)⟩,
  ⟨(some 85), .un .neg (.t 84), some (82, true)⟩,
  ⟨(some 86), .mm true (.t 83) [(.t 85)], some (82, true)⟩,
  ⟨(some 87), .mv (.t 1), some (82, true)⟩,
  ⟨(some 88), .mv (.t 1), some (82, true)⟩,
  ⟨(some 89), .un .neg (.t 88), some (82, true)⟩,
  ⟨(some 90), .mm true (.t 87) [(.t 89)], some (82, true)⟩,
  ⟨(some 91), .bin .lss (.t 86) (.t 90), some (82, true)⟩,
  ⟨(some 92), .pick (.t 82) (.t 91) (.k (.d (.bool false))), none⟩,
  ⟨(some 93), .mv (.t 92), none⟩,
  ⟨(some 94), .call (.k (.fn 10 [])) [], some (93, true)⟩,
  ⟨(some 95), .pick (.t 93) (.t 94) (.k (.d (.bool false))), none⟩,
  ⟨(some 4), .mv (.t 95), none⟩])
.ret))))))) }
theorem af3_ok : cFun Try.prog eqT Try.f3 = some af3 := by kernel_rfl
/-- dossier/dossierlaw6.EvalLists -/
noncomputable def af4 : AFun := { np := 2, nt := 182, res := [.t 4], code :=
(.seq (.rg [⟨(some 4), .mv (.k (.d (.bool false))), none⟩])
(.seq (.seq (.rg [⟨(some 25), .mv (.t 0), none⟩,
  ⟨(some 26), .lenq false (.t 25), none⟩,
  ⟨(some 27), .bin .lss (.t 26) (.k (.d (.int .i64 1))), none⟩,
  ⟨(some 28), .mv (.t 27), none⟩,
  ⟨(some 29), .mv (.t 0), some (28, false)⟩,
  ⟨(some 30), .lenq false (.t 29), some (28, false)⟩,
  ⟨(some 31), .bin .gtr (.t 30) (.k (.d (.int .i64 8))), some (28, false)⟩,
  ⟨(some 32), .pick (.t 28) (.k (.d (.bool true))) (.t 31), none⟩,
  ⟨(some 33), .mv (.t 32), none⟩,
  ⟨(some 34), .mv (.t 1), some (33, false)⟩,
  ⟨(some 35), .bin .lss (.t 34) (.k (.d (.int .i64 0))), some (33, false)⟩,
  ⟨(some 36), .pick (.t 33) (.k (.d (.bool true))) (.t 35), none⟩,
  ⟨(some 37), .mv (.t 36), none⟩,
  ⟨(some 38), .mv (.t 1), some (37, false)⟩,
  ⟨(some 39), .bin .gtr (.t 38) (.k (.d (.int .i64 100))), some (37, false)⟩,
  ⟨(some 40), .pick (.t 37) (.k (.d (.bool true))) (.t 39), none⟩])
(.cond (.t 40)
  (.seq (.rg [⟨(some 4), .mv (.k (.d (.bool true))), none⟩])
  .ret)
  .skip))
(.seq (.rg [⟨(some 41), .build [.int .i64 0, .bool false, .int .i64 0, .int .i64 0, .str [], .sl []] [(0, 1, (.k (.d (.int .i64 4))))], none⟩,
  ⟨(some 5), .new [.d (.int .i64 0), .d (.bool false), .d (.int .i64 0), .d (.int .i64 0), .d (.str []), .nils], none⟩,
  ⟨none, .st 6 (.t 5) (.t 41), none⟩])
(.seq (.rg [⟨(some 6), .mv (.k (.d (.int .i64 1000))), none⟩,
  ⟨(some 7), .mv (.k (.d (.int .i64 (-1)))), none⟩,
  ⟨(some 8), .mv (.k (.d (.int .i64 0))), none⟩,
  ⟨(some 9), .mv (.k (.d (.bool false))), none⟩])
(.seq (.rg [⟨(some 42), .build [.int .i64 0, .bool false, .int .i64 0, .int .i64 0, .str [], .bool false, .bool false, .sl []] [(0, 1, (.k (.d (.int .i64 10))))], none⟩,
  ⟨(some 10), .new [.d (.int .i64 0), .d (.bool false), .d (.int .i64 0), .d (.int .i64 0), .d (.str []), .d (.bool false), .d (.bool false), .nils], none⟩,
  ⟨none, .st 8 (.t 10) (.t 42), none⟩])
(.seq (.seq (.rg [⟨(some 11), .mv (.k (.d (.int .i64 0))), none⟩])
(.block 0
  (.loop
    (.seq (.seq (.rg [⟨(some 43), .mv (.t 11), none⟩,
      ⟨(some 44), .mv (.t 0), none⟩,
      ⟨(some 45), .lenq false (.t 44), none⟩,
      ⟨(some 46), .bin .lss (.t 43) (.t 45), none⟩])
    (.cond (.t 46)
      .skip
      (.exit 0)))
    (.seq (.block 1
      (.seq (.rg [⟨(some 49), .mv (.t 0), none⟩,
        ⟨(some 50), .mv (.t 11), none⟩,
        ⟨(some 51), .iad 1 (.t 49) (.t 50), none⟩,
        ⟨(some 52), .ld none (.t 51), none⟩,
        ⟨(some 53), .bin .and (.t 52) (.k (.d (.int .i64 127))), none⟩,
        ⟨(some 12), .mv (.t 53), none⟩])
      (.seq (.rd [⟨(some 54), .fad (.t 5) 5, none⟩,
        ⟨(some 55), .ld none (.t 54), none⟩,
        ⟨(some 56), .mv (.t 12), none⟩,
        ⟨(some 57), .call (.k (.fn 8 [])) [(.t 56)], none⟩,
        ⟨(some 58), .mkrow 26 6 [(.t 57)], none⟩,
        ⟨(some 59), .app 26 6 72 (.t 55) (.t 58), none⟩,
        ⟨(some 60), .fad (.t 5) 5, none⟩,
        ⟨none, .st 1 (.t 60) (.t 59), none⟩] [(1, 3), (1, 4)])
      (.seq (.rg [⟨(some 61), .fad (.t 10) 7, none⟩,
        ⟨(some 62), .ld none (.t 61), none⟩,
        ⟨(some 63), .mv (.t 12), none⟩,
        ⟨(some 64), .build [.int .i64 0, .int .i64 0] [(0, 1, (.t 63))], none⟩,
        ⟨(some 65), .build [.int .i64 0, .bool false, .int .i64 0, .int .i64 0, .str [], .bool false, .bool false, .sl []] [(0, 1, (.k (.d (.int .i64 3)))), (2, 2, (.t 64))], none⟩,
        ⟨(some 66), .mkrow 39 8 [(.t 65)], none⟩,
        ⟨(some 67), .app 39 8 80 (.t 62) (.t 66), none⟩,
        ⟨(some 68), .fad (.t 10) 7, none⟩,
        ⟨none, .st 1 (.t 68) (.t 67), none⟩])
      (.rg [⟨(some 69), .mv (.t 6), none⟩,
        ⟨(some 70), .mv (.t 12), none⟩,
        ⟨(some 71), .mm false (.t 69) [(.t 70)], none⟩,
        ⟨(some 72), .mv (.t 7), none⟩,
        ⟨(some 73), .mv (.t 12), none⟩,
        ⟨(some 74), .mm true (.t 72) [(.t 73)], none⟩,
        ⟨(some 75), .mv (.t 8), none⟩,
        ⟨(some 76), .mv (.t 12), none⟩,
        ⟨(some 77), .bin .add (.t 75) (.t 76), none⟩,
        ⟨(some 78), .mv (.t 9), none⟩,
        ⟨(some 79), .mv (.t 78), none⟩,
        ⟨(some 80), .mv (.t 12), some (79, false)⟩,
        ⟨(some 81), .mv (.t 1), some (79, false)⟩,
        ⟨(some 82), .bin .eql (.t 80) (.t 81), some (79, false)⟩,
        ⟨(some 83), .pick (.t 79) (.k (.d (.bool true))) (.t 82), none⟩,
        ⟨(some 6), .mv (.t 71), none⟩,
        ⟨(some 7), .mv (.t 74), none⟩,
        ⟨(some 8), .mv (.t 77), none⟩,
        ⟨(some 9), .mv (.t 83), none⟩])))))
    (.rg [⟨(some 47), .mv (.t 11), none⟩,
      ⟨(some 48), .bin .add (.t 47) (.k (.d (.int .i64 1))), none⟩,
      ⟨(some 11), .mv (.t 48), none⟩]))))))
(.seq (.rd [⟨(some 84), .ld (some 6) (.t 5), none⟩,
  ⟨(some 85), .build [.str [], .int .i64 0, .bool false, .int .i64 0, .int .i64 0, .str [], .sl []] [(0, 1, (.k (.d (.str [108])))), (1, 6, (.t 84))], none⟩,
  ⟨(some 86), .mv (.t 1), none⟩,
  ⟨(some 87), .call (.k (.fn 8 [])) [(.t 86)], none⟩,
  ⟨(some 88), .build [.str [], .int .i64 0, .bool false, .int .i64 0, .int .i64 0, .str [], .sl []] [(0, 1, (.k (.d (.str [120])))), (1, 6, (.t 87))], none⟩,
  ⟨(some 89), .mkrow 29 7 [(.t 85), (.t 88)], none⟩,
  ⟨(some 13), .mv (.t 89), none⟩] [(0, 3), (0, 5), (3, 5)])
(.seq (.rg [⟨(some 90), .mkrow 9 1 [(.k (.d (.str [109, 105, 110]))), (.k (.d (.str [109, 97, 120]))), (.k (.d (.str [115, 117, 109])))], none⟩,
  ⟨(some 91), .mv (.t 6), none⟩,
  ⟨(some 92), .mv (.t 7), none⟩,
  ⟨(some 93), .mv (.t 8), none⟩,
  ⟨(some 94), .mkrow 3 1 [(.t 91), (.t 92), (.t 93)], none⟩,
  ⟨(some 14), .mv (.t 90), none⟩,
  ⟨(some 15), .mv (.t 94), none⟩])
(.seq (.seq (.rg [⟨(some 16), .mv (.k (.d (.int .i64 0))), none⟩])
(.block 2
  (.loop
    (.seq (.seq (.rg [⟨(some 95), .mv (.t 16), none⟩,
      ⟨(some 96), .bin .lss (.t 95) (.k (.d (.int .i64 3))), none⟩])
    (.cond (.t 96)
      .skip
      (.exit 2)))
    (.seq (.block 3
      (.seq (.rg [⟨(some 100), .mv (.t 14), none⟩,
        ⟨(some 101), .mv (.t 16), none⟩,
        ⟨(some 102), .iad 1 (.t 100) (.t 101), none⟩,
        ⟨(some 103), .ld none (.t 102), none⟩,
        ⟨(some 104), .bin .add (.t 103) (.k (.d (.str [40, 108, 41]))), none⟩,
        ⟨(some 105), .mv (.t 13), none⟩,
        ⟨(some 106), .call (.k (.fn 9 [])) [(.t 104), (.t 105)], none⟩,
        ⟨(some 99), .mv (.t 106), none⟩,
        ⟨(some 107), .ext (.t 99) 0, none⟩,
        ⟨(some 108), .ext (.t 99) 1, none⟩,
        ⟨(some 17), .new [.d (.int .i64 0), .d (.bool false), .d (.int .i64 0), .d (.int .i64 0), .d (.str []), .nils], none⟩,
        ⟨none, .st 6 (.t 17) (.t 107), none⟩,
        ⟨(some 18), .mv (.t 108), none⟩])
      (.seq (.rg [⟨(some 109), .mv (.t 14), none⟩,
        ⟨(some 110), .mv (.t 16), none⟩,
        ⟨(some 111), .iad 1 (.t 109) (.t 110), none⟩,
        ⟨(some 112), .ld none (.t 111), none⟩,
        ⟨(some 113), .fad (.t 10) 4, none⟩,
        ⟨none, .st 1 (.t 113) (.t 112), none⟩])
      (.seq (.rg [⟨(some 115), .ld (some 8) (.t 10), none⟩,
        ⟨(some 116), .call (.k (.fn 11 [])) [(.t 115), (.k (.nils))], none⟩,
        ⟨(some 114), .mv (.t 116), none⟩,
        ⟨(some 117), .ext (.t 114) 0, none⟩,
        ⟨(some 118), .ext (.t 114) 1, none⟩,
        ⟨(some 19), .new [.d (.int .i64 0), .d (.bool false), .d (.int .i64 0), .d (.int .i64 0), .d (.str []), .nils], none⟩,
        ⟨none, .st 6 (.t 19) (.t 117), none⟩,
        ⟨(some 20), .mv (.t 118), none⟩])
      (.seq (.rd [⟨(some 119), .mv (.t 18), none⟩,
        ⟨(some 120), .bin .neq (.t 119) (.k (.d (.int .i64 0))), none⟩,
        ⟨(some 121), .mv (.t 120), none⟩,
        ⟨(some 122), .mv (.t 20), some (121, false)⟩,
        ⟨(some 123), .bin .neq (.t 122) (.k (.d (.int .i64 0))), some (121, false)⟩,
        ⟨(some 124), .pick (.t 121) (.k (.d (.bool true))) (.t 123), none⟩,
        ⟨(some 125), .mv (.t 124), none⟩,
        ⟨(some 126), .ld (some 6) (.t 17), some (125, false)⟩,
        ⟨(some 127), .mv (.t 15), some (125, false)⟩,
        ⟨(some 128), .mv (.t 16), some (125, false)⟩,
        ⟨(some 129), .iad 1 (.t 127) (.t 128), some (125, false)⟩,
        ⟨(some 130), .ld none (.t 129), some (125, false)⟩,
        ⟨(some 131), .call (.k (.fn 8 [])) [(.t 130)], some (125, false)⟩,
        ⟨(some 132), .call (.k (.fn 12 [])) [(.t 126), (.t 131)], some (125, false)⟩,
        ⟨(some 133), .un .not (.t 132), some (125, false)⟩,
        ⟨(some 134), .pick (.t 125) (.k (.d (.bool true))) (.t 133), none⟩,
        ⟨(some 135), .mv (.t 134), none⟩,
        ⟨(some 136), .ld (some 6) (.t 19), some (135, false)⟩,
        ⟨(some 137), .mv (.t 15), some (135, false)⟩,
        ⟨(some 138), .mv (.t 16), some (135, false)⟩,
        ⟨(some 139), .iad 1 (.t 137) (.t 138), some (135, false)⟩,
        ⟨(some 140), .ld none (.t 139), some (135, false)⟩,
        ⟨(some 141), .call (.k (.fn 8 [])) [(.t 140)], some (135, false)⟩,
        ⟨(some 142), .call (.k (.fn 12 [])) [(.t 136), (.t 141)], some (135, false)⟩,
        ⟨(some 143), .un .not (.t 142), some (135, false)⟩,
        ⟨(some 144), .pick (.t 135) (.k (.d (.bool true))) (.t 143), none⟩] [(7, 12), (11, 13), (12, 17), (13, 17), (12, 21), (13, 21), (7, 22), (11, 22), (12, 22), (13, 22), (17, 22), (7, 23), (11, 23), (12, 23), (13, 23), (21, 23)])
      (.cond (.t 144)
        (.seq (.rg [⟨(some 4), .mv (.k (.d (.bool false))), none⟩])
        .ret)
        .skip))))))
    (.rg [⟨(some 97), .mv (.t 16), none⟩,
      ⟨(some 98), .bin .add (.t 97) (.k (.d (.int .i64 1))), none⟩,
      ⟨(some 16), .mv (.t 98), none⟩]))))))
(.seq (.rg [⟨(some 146), .mv (.t 13), none⟩,
  ⟨(some 147), .call (.k (.fn 9 [])) [(.k (.d (.str [99, 111, 117, 110, 116, 40, 108, 41]))), (.t 146)], none⟩,
  ⟨(some 145), .mv (.t 147), none⟩,
  ⟨(some 148), .ext (.t 145) 0, none⟩,
  ⟨(some 149), .ext (.t 145) 1, none⟩,
  ⟨(some 21), .new [.d (.int .i64 0), .d (.bool false), .d (.int .i64 0), .d (.int .i64 0), .d (.str []), .nils], none⟩,
  ⟨none, .st 6 (.t 21) (.t 148), none⟩,
  ⟨(some 22), .mv (.t 149), none⟩])
(.seq (.rg [⟨(some 151), .mv (.t 13), none⟩,
  ⟨(some 152), .call (.k (.fn 9 [])) [(.k (.d (.str [104, 97, 115, 40, 108, 44, 32, 120, 41]))), (.t 151)], none⟩,
  ⟨(some 150), .mv (.t 152), none⟩,
  ⟨(some 153), .ext (.t 150) 0, none⟩,
  ⟨(some 154), .ext (.t 150) 1, none⟩,
  ⟨(some 23), .new [.d (.int .i64 0), .d (.bool false), .d (.int .i64 0), .d (.int .i64 0), .d (.str []), .nils], none⟩,
  ⟨none, .st 6 (.t 23) (.t 153), none⟩,
  ⟨(some 24), .mv (.t 154), none⟩])
(.seq (.rd [⟨(some 155), .mv (.t 22), none⟩,
  ⟨(some 156), .bin .eql (.t 155) (.k (.d (.int .i64 0))), none⟩,
  ⟨(some 157), .mv (.t 156), none⟩,
  ⟨(some 158), .mv (.t 24), some (157, true)⟩,
  ⟨(some 159), .bin .eql (.t 158) (.k (.d (.int .i64 0))), some (157, true)⟩,
  ⟨(some 160), .pick (.t 157) (.t 159) (.k (.d (.bool false))), none⟩,
  ⟨(some 161), .mv (.t 160), none⟩,
  ⟨(some 162), .ld (some 6) (.t 21), some (161, true)⟩,
  ⟨(some 163), .mv (.t 0), some (161, true)⟩,
  ⟨(some 164), .lenq false (.t 163), some (161, true)⟩,
  ⟨(some 165), .call (.k (.fn 8 [])) [(.t 164)], some (161, true)⟩,
  ⟨(some 166), .call (.k (.fn 12 [])) [(.t 162), (.t 165)], some (161, true)⟩,
  ⟨(some 167), .pick (.t 161) (.t 166) (.k (.d (.bool false))), none⟩,
  ⟨(some 168), .mv (.t 167), none⟩,
  ⟨(some 169), .fad (.t 23) 0, some (168, true)⟩,
  ⟨(some 170), .ld none (.t 169), some (168, true)⟩,
  ⟨(some 171), .bin .eql (.t 170) (.k (.d (.int .i64 1))), some (168, true)⟩,
  ⟨(some 172), .pick (.t 168) (.t 171) (.k (.d (.bool false))), none⟩,
  ⟨(some 173), .mv (.t 172), none⟩,
  ⟨(some 174), .fad (.t 23) 1, some (173, true)⟩,
  ⟨(some 175), .ld none (.t 174), some (173, true)⟩,
  ⟨(some 176), .mv (.t 9), some (173, true)⟩,
  ⟨(some 177), .eqb false (.t 175) (.t 176), some (173, true)⟩,
  ⟨(some 178), .pick (.t 173) (.t 177) (.k (.d (.bool false))), none⟩,
  ⟨(some 179), .mv (.t 178), none⟩,
  ⟨(some 180), .call (.k (.fn 10 [])) [], some (179, true)⟩,
  ⟨(some 181), .pick (.t 179) (.t 180) (.k (.d (.bool false))), none⟩,
  ⟨(some 4), .mv (.t 181), none⟩] [(7, 10), (10, 15), (11, 15), (10, 20), (11, 20), (7, 25), (10, 25), (11, 25), (15, 25), (20, 25)])
.ret)))))))))))) }
theorem af4_ok : cFun Try.prog eqT Try.f4 = some af4 := by kernel_rfl
/-- dossier/dossierlaw6.EvalArith -/
noncomputable def af5 : AFun := { np := 5, nt := 110, res := [.t 10], code :=
(.seq (.rg [⟨(some 10), .mv (.k (.d (.bool false))), none⟩])
(.seq (.seq (.rg [⟨(some 15), .mv (.t 0), none⟩,
  ⟨(some 16), .bin .lss (.t 15) (.k (.d (.int .i64 (-1000)))), none⟩,
  ⟨(some 17), .mv (.t 16), none⟩,
  ⟨(some 18), .mv (.t 0), some (17, false)⟩,
  ⟨(some 19), .bin .gtr (.t 18) (.k (.d (.int .i64 1000))), some (17, false)⟩,
  ⟨(some 20), .pick (.t 17) (.k (.d (.bool true))) (.t 19), none⟩,
  ⟨(some 21), .mv (.t 20), none⟩,
  ⟨(some 22), .mv (.t 1), some (21, false)⟩,
  ⟨(some 23), .bin .lss (.t 22) (.k (.d (.int .i64 (-1000)))), some (21, false)⟩,
  ⟨(some 24), .pick (.t 21) (.k (.d (.bool true))) (.t 23), none⟩,
  ⟨(some 25), .mv (.t 24), none⟩,
  ⟨(some 26), .mv (.t 1), some (25, false)⟩,
  ⟨(some 27), .bin .gtr (.t 26) (.k (.d (.int .i64 1000))), some (25, false)⟩,
  ⟨(some 28), .pick (.t 25) (.k (.d (.bool true))) (.t 27), none⟩,
  ⟨(some 29), .mv (.t 28), none⟩,
  ⟨(some 30), .mv (.t 2), some (29, false)⟩,
  ⟨(some 31), .bin .lss (.t 30) (.k (.d (.int .i64 (-1000)))), some (29, false)⟩,
  ⟨(some 32), .pick (.t 29) (.k (.d (.bool true))) (.t 31), none⟩,
  ⟨(some 33), .mv (.t 32), none⟩,
  ⟨(some 34), .mv (.t 2), some (33, false)⟩,
  ⟨(some 35), .bin .gtr (.t 34) (.k (.d (.int .i64 1000))), some (33, false)⟩,
  ⟨(some 36), .pick (.t 33) (.k (.d (.bool true))) (.t 35), none⟩,
  ⟨(some 37), .mv (.t 36), none⟩,
  ⟨(some 38), .mv (.t 3), some (37, false)⟩,
  ⟨(some 39), .bin .lss (.t 38) (.k (.d (.int .i64 0))), some (37, false)⟩,
  ⟨(some 40), .pick (.t 37) (.k (.d (.bool true))) (.t 39), none⟩,
  ⟨(some 41), .mv (.t 40), none⟩,
  ⟨(some 42), .mv (.t 3), some (41, false)⟩,
  ⟨(some 43), .bin .gtr (.t 42) (.k (.d (.int .i64 2))), some (41, false)⟩,
  ⟨(some 44), .pick (.t 41) (.k (.d (.bool true))) (.t 43), none⟩,
  ⟨(some 45), .mv (.t 44), none⟩,
  ⟨(some 46), .mv (.t 4), some (45, false)⟩,
  ⟨(some 47), .bin .lss (.t 46) (.k (.d (.int .i64 0))), some (45, false)⟩,
  ⟨(some 48), .pick (.t 45) (.k (.d (.bool true))) (.t 47), none⟩,
  ⟨(some 49), .mv (.t 48), none⟩,
  ⟨(some 50), .mv (.t 4), some (49, false)⟩,
  ⟨(some 51), .bin .gtr (.t 50) (.k (.d (.int .i64 2))), some (49, false)⟩,
  ⟨(some 52), .pick (.t 49) (.k (.d (.bool true))) (.t 51), none⟩])
(.cond (.t 52)
  (.seq (.rg [⟨(some 10), .mv (.k (.d (.bool true))), none⟩])
  .ret)
  .skip))
(.seq (.rg [⟨(some 53), .mv (.t 0), none⟩,
  ⟨(some 54), .call (.k (.fn 8 [])) [(.t 53)], none⟩,
  ⟨(some 55), .build [.str [], .int .i64 0, .bool false, .int .i64 0, .int .i64 0, .str [], .sl []] [(0, 1, (.k (.d (.str [97])))), (1, 6, (.t 54))], none⟩,
  ⟨(some 56), .mv (.t 1), none⟩,
  ⟨(some 57), .call (.k (.fn 8 [])) [(.t 56)], none⟩,
  ⟨(some 58), .build [.str [], .int .i64 0, .bool false, .int .i64 0, .int .i64 0, .str [], .sl []] [(0, 1, (.k (.d (.str [98])))), (1, 6, (.t 57))], none⟩,
  ⟨(some 59), .mv (.t 2), none⟩,
  ⟨(some 60), .call (.k (.fn 8 [])) [(.t 59)], none⟩,
  ⟨(some 61), .build [.str [], .int .i64 0, .bool false, .int .i64 0, .int .i64 0, .str [], .sl []] [(0, 1, (.k (.d (.str [99])))), (1, 6, (.t 60))], none⟩,
  ⟨(some 62), .mkrow 29 7 [(.t 55), (.t 58), (.t 61)], none⟩,
  ⟨(some 11), .mv (.t 62), none⟩])
(.seq (.rd [⟨(some 64), .mkrow 9 1 [(.k (.d (.str [43]))), (.k (.d (.str [45]))), (.k (.d (.str [42])))], none⟩,
  ⟨(some 65), .mv (.t 3), none⟩,
  ⟨(some 66), .iad 1 (.t 64) (.t 65), none⟩,
  ⟨(some 67), .ld none (.t 66), none⟩,
  ⟨(some 68), .bin .add (.k (.d (.str [97, 32]))) (.t 67), none⟩,
  ⟨(some 69), .bin .add (.t 68) (.k (.d (.str [32, 98, 32]))), none⟩,
  ⟨(some 70), .mkrow 9 1 [(.k (.d (.str [43]))), (.k (.d (.str [45]))), (.k (.d (.str [42])))], none⟩,
  ⟨(some 71), .mv (.t 4), none⟩,
  ⟨(some 72), .iad 1 (.t 70) (.t 71), none⟩,
  ⟨(some 73), .ld none (.t 72), none⟩,
  ⟨(some 74), .bin .add (.t 69) (.t 73), none⟩,
  ⟨(some 75), .bin .add (.t 74) (.k (.d (.str [32, 99]))), none⟩,
  ⟨(some 76), .mv (.t 11), none⟩,
  ⟨(some 77), .call (.k (.fn 9 [])) [(.t 75), (.t 76)], none⟩,
  ⟨(some 63), .mv (.t 77), none⟩,
  ⟨(some 78), .ext (.t 63) 0, none⟩,
  ⟨(some 79), .ext (.t 63) 1, none⟩,
  ⟨(some 12), .new [.d (.int .i64 0), .d (.bool false), .d (.int .i64 0), .d (.int .i64 0), .d (.str []), .nils], none⟩,
  ⟨none, .st 6 (.t 12) (.t 78), none⟩,
  ⟨(some 13), .mv (.t 79), none⟩] [(0, 3), (0, 6), (3, 6), (0, 9), (6, 9), (0, 13), (3, 13), (6, 13), (9, 13), (0, 17), (3, 17), (6, 17), (9, 17), (13, 17)])
(.seq (.rg [⟨(some 14), .mv (.k (.d (.int .i64 0))), none⟩])
(.seq (.seq (.rg [⟨(some 80), .mv (.t 3), none⟩,
  ⟨(some 81), .bin .lss (.t 80) (.k (.d (.int .i64 2))), none⟩,
  ⟨(some 82), .mv (.t 81), none⟩,
  ⟨(some 83), .mv (.t 4), some (82, true)⟩,
  ⟨(some 84), .bin .eql (.t 83) (.k (.d (.int .i64 2))), some (82, true)⟩,
  ⟨(some 85), .pick (.t 82) (.t 84) (.k (.d (.bool false))), none⟩])
(.cond (.t 85)
  (.rg [⟨(some 86), .mv (.t 0), none⟩,
    ⟨(some 87), .mv (.t 1), none⟩,
    ⟨(some 88), .mv (.t 2), none⟩,
    ⟨(some 89), .call (.k (.fn 13 [])) [(.t 87), (.t 88), (.k (.d (.int .i64 2)))], none⟩,
    ⟨(some 90), .mv (.t 3), none⟩,
    ⟨(some 91), .call (.k (.fn 13 [])) [(.t 86), (.t 89), (.t 90)], none⟩,
    ⟨(some 14), .mv (.t 91), none⟩])
  (.rg [⟨(some 92), .mv (.t 0), none⟩,
    ⟨(some 93), .mv (.t 1), none⟩,
    ⟨(some 94), .mv (.t 3), none⟩,
    ⟨(some 95), .call (.k (.fn 13 [])) [(.t 92), (.t 93), (.t 94)], none⟩,
    ⟨(some 96), .mv (.t 2), none⟩,
    ⟨(some 97), .mv (.t 4), none⟩,
    ⟨(some 98), .call (.k (.fn 13 [])) [(.t 95), (.t 96), (.t 97)], none⟩,
    ⟨(some 14), .mv (.t 98), none⟩])))
(.seq (.rd [⟨(some 99), .mv (.t 13), none⟩,
  ⟨(some 100), .bin .eql (.t 99) (.k (.d (.int .i64 0))), none⟩,
  ⟨(some 101), .mv (.t 100), none⟩,
  ⟨(some 102), .ld (some 6) (.t 12), some (101, true)⟩,
  ⟨(some 103), .mv (.t 14), some (101, true)⟩,
  ⟨(some 104), .call (.k (.fn 8 [])) [(.t 103)], some (101, true)⟩,
  ⟨(some 105), .call (.k (.fn 12 [])) [(.t 102), (.t 104)], some (101, true)⟩,
  ⟨(some 106), .pick (.t 101) (.t 105) (.k (.d (.bool false))), none⟩,
  ⟨(some 107), .mv (.t 106), none⟩,
  ⟨(some 108), .call (.k (.fn 10 [])) [], some (107, true)⟩,
  ⟨(some 109), .pick (.t 107) (.t 108) (.k (.d (.bool false))), none⟩,
  ⟨(some 10), .mv (.t 109), none⟩] [(3, 5), (3, 9), (5, 9), (6, 9)])
.ret))))))) }
theorem af5_ok : cFun Try.prog eqT Try.f5 = some af5 := by kernel_rfl
/-- dossier/dossierlaw6.EvalThree -/
noncomputable def af6 : AFun := { np := 2, nt := 121, res := [.t 4], code :=
(.seq (.rg [⟨(some 4), .mv (.k (.d (.bool false))), none⟩])
(.seq (.seq (.rg [⟨(some 16), .mv (.t 0), none⟩,
  ⟨(some 17), .bin .lss (.t 16) (.k (.d (.int .i64 0))), none⟩,
  ⟨(some 18), .mv (.t 17), none⟩,
  ⟨(some 19), .mv (.t 0), some (18, false)⟩,
  ⟨(some 20), .bin .gtr (.t 19) (.k (.d (.int .i64 2))), some (18, false)⟩,
  ⟨(some 21), .pick (.t 18) (.k (.d (.bool true))) (.t 20), none⟩,
  ⟨(some 22), .mv (.t 21), none⟩,
  ⟨(some 23), .mv (.t 1), some (22, false)⟩,
  ⟨(some 24), .bin .lss (.t 23) (.k (.d (.int .i64 0))), some (22, false)⟩,
  ⟨(some 25), .pick (.t 22) (.k (.d (.bool true))) (.t 24), none⟩,
  ⟨(some 26), .mv (.t 25), none⟩,
  ⟨(some 27), .mv (.t 1), some (26, false)⟩,
  ⟨(some 28), .bin .gtr (.t 27) (.k (.d (.int .i64 2))), some (26, false)⟩,
  ⟨(some 29), .pick (.t 26) (.k (.d (.bool true))) (.t 28), none⟩])
(.cond (.t 29)
  (.seq (.rg [⟨(some 4), .mv (.k (.d (.bool true))), none⟩])
  .ret)
  .skip))
(.seq (.rg [⟨(some 30), .build [.int .i64 0, .bool false, .int .i64 0, .int .i64 0, .str [], .sl []] [(0, 1, (.k (.d (.int .i64 1))))], none⟩,
  ⟨(some 31), .build [.int .i64 0, .bool false, .int .i64 0, .int .i64 0, .str [], .sl []] [(0, 1, (.k (.d (.int .i64 1)))), (1, 1, (.k (.d (.bool true))))], none⟩,
  ⟨(some 32), .build [.int .i64 0, .bool false, .int .i64 0, .int .i64 0, .str [], .sl []] [], none⟩,
  ⟨(some 33), .mkrow 26 6 [(.t 30), (.t 31), (.t 32)], none⟩,
  ⟨(some 5), .mv (.t 33), none⟩])
(.seq (.rd [⟨(some 34), .mv (.t 5), none⟩,
  ⟨(some 35), .mv (.t 0), none⟩,
  ⟨(some 36), .iad 6 (.t 34) (.t 35), none⟩,
  ⟨(some 37), .ld (some 6) (.t 36), none⟩,
  ⟨(some 38), .build [.str [], .int .i64 0, .bool false, .int .i64 0, .int .i64 0, .str [], .sl []] [(0, 1, (.k (.d (.str [97])))), (1, 6, (.t 37))], none⟩,
  ⟨(some 39), .mv (.t 5), none⟩,
  ⟨(some 40), .mv (.t 1), none⟩,
  ⟨(some 41), .iad 6 (.t 39) (.t 40), none⟩,
  ⟨(some 42), .ld (some 6) (.t 41), none⟩,
  ⟨(some 43), .build [.str [], .int .i64 0, .bool false, .int .i64 0, .int .i64 0, .str [], .sl []] [(0, 1, (.k (.d (.str [98])))), (1, 6, (.t 42))], none⟩,
  ⟨(some 44), .mkrow 29 7 [(.t 38), (.t 43)], none⟩,
  ⟨(some 6), .mv (.t 44), none⟩] [(3, 10), (8, 10)])
(.seq (.rg [⟨(some 46), .mv (.t 6), none⟩,
  ⟨(some 47), .call (.k (.fn 9 [])) [(.k (.d (.str [97, 32, 97, 110, 100, 32, 98]))), (.t 46)], none⟩,
  ⟨(some 45), .mv (.t 47), none⟩,
  ⟨(some 48), .ext (.t 45) 0, none⟩,
  ⟨(some 49), .ext (.t 45) 1, none⟩,
  ⟨(some 7), .new [.d (.int .i64 0), .d (.bool false), .d (.int .i64 0), .d (.int .i64 0), .d (.str []), .nils], none⟩,
  ⟨none, .st 6 (.t 7) (.t 48), none⟩,
  ⟨(some 8), .mv (.t 49), none⟩])
(.seq (.rg [⟨(some 51), .mv (.t 6), none⟩,
  ⟨(some 52), .call (.k (.fn 9 [])) [(.k (.d (.str [97, 32, 111, 114, 32, 98]))), (.t 51)], none⟩,
  ⟨(some 50), .mv (.t 52), none⟩,
  ⟨(some 53), .ext (.t 50) 0, none⟩,
  ⟨(some 54), .ext (.t 50) 1, none⟩,
  ⟨(some 9), .new [.d (.int .i64 0), .d (.bool false), .d (.int .i64 0), .d (.int .i64 0), .d (.str []), .nils], none⟩,
  ⟨none, .st 6 (.t 9) (.t 53), none⟩,
  ⟨(some 10), .mv (.t 54), none⟩])
(.seq (.rg [⟨(some 56), .mv (.t 6), none⟩,
  ⟨(some 57), .call (.k (.fn 9 [])) [(.k (.d (.str [110, 111, 116, 40, 97, 41]))), (.t 56)], none⟩,
  ⟨(some 55), .mv (.t 57), none⟩,
  ⟨(some 58), .ext (.t 55) 0, none⟩,
  ⟨(some 59), .ext (.t 55) 1, none⟩,
  ⟨(some 11), .new [.d (.int .i64 0), .d (.bool false), .d (.int .i64 0), .d (.int .i64 0), .d (.str []), .nils], none⟩,
  ⟨none, .st 6 (.t 11) (.t 58), none⟩,
  ⟨(some 12), .mv (.t 59), none⟩])
(.seq (.rg [⟨(some 13), .mv (.k (.d (.int .i64 2))), none⟩,
  ⟨(some 14), .mv (.k (.d (.int .i64 2))), none⟩])
(.seq (.seq (.rg [⟨(some 60), .mv (.t 0), none⟩,
  ⟨(some 61), .bin .eql (.t 60) (.k (.d (.int .i64 0))), none⟩,
  ⟨(some 62), .mv (.t 61), none⟩,
  ⟨(some 63), .mv (.t 1), some (62, false)⟩,
  ⟨(some 64), .bin .eql (.t 63) (.k (.d (.int .i64 0))), some (62, false)⟩,
  ⟨(some 65), .pick (.t 62) (.k (.d (.bool true))) (.t 64), none⟩])
(.cond (.t 65)
  (.rg [⟨(some 13), .mv (.k (.d (.int .i64 0))), none⟩])
  (.seq (.rg [⟨(some 66), .mv (.t 0), none⟩,
    ⟨(some 67), .bin .eql (.t 66) (.k (.d (.int .i64 1))), none⟩,
    ⟨(some 68), .mv (.t 67), none⟩,
    ⟨(some 69), .mv (.t 1), some (68, true)⟩,
    ⟨(some 70), .bin .eql (.t 69) (.k (.d (.int .i64 1))), some (68, true)⟩,
    ⟨(some 71), .pick (.t 68) (.t 70) (.k (.d (.bool false))), none⟩])
  (.cond (.t 71)
    (.rg [⟨(some 13), .mv (.k (.d (.int .i64 1))), none⟩])
    .skip))))
(.seq (.seq (.rg [⟨(some 72), .mv (.t 0), none⟩,
  ⟨(some 73), .bin .eql (.t 72) (.k (.d (.int .i64 1))), none⟩,
  ⟨(some 74), .mv (.t 73), none⟩,
  ⟨(some 75), .mv (.t 1), some (74, false)⟩,
  ⟨(some 76), .bin .eql (.t 75) (.k (.d (.int .i64 1))), some (74, false)⟩,
  ⟨(some 77), .pick (.t 74) (.k (.d (.bool true))) (.t 76), none⟩])
(.cond (.t 77)
  (.rg [⟨(some 14), .mv (.k (.d (.int .i64 1))), none⟩])
  (.seq (.rg [⟨(some 78), .mv (.t 0), none⟩,
    ⟨(some 79), .bin .eql (.t 78) (.k (.d (.int .i64 0))), none⟩,
    ⟨(some 80), .mv (.t 79), none⟩,
    ⟨(some 81), .mv (.t 1), some (80, true)⟩,
    ⟨(some 82), .bin .eql (.t 81) (.k (.d (.int .i64 0))), some (80, true)⟩,
    ⟨(some 83), .pick (.t 80) (.t 82) (.k (.d (.bool false))), none⟩])
  (.cond (.t 83)
    (.rg [⟨(some 14), .mv (.k (.d (.int .i64 0))), none⟩])
    .skip))))
(.seq (.rg [⟨(some 84), .mkrow 3 1 [(.k (.d (.int .i64 1))), (.k (.d (.int .i64 0))), (.k (.d (.int .i64 2)))], none⟩,
  ⟨(some 85), .mv (.t 0), none⟩,
  ⟨(some 86), .iad 1 (.t 84) (.t 85), none⟩,
  ⟨(some 87), .ld none (.t 86), none⟩,
  ⟨(some 15), .mv (.t 87), none⟩])
(.seq (.rd [⟨(some 88), .mv (.t 8), none⟩,
  ⟨(some 89), .mv (.t 10), none⟩,
  ⟨(some 90), .bin .add (.t 88) (.t 89), none⟩,
  ⟨(some 91), .mv (.t 12), none⟩,
  ⟨(some 92), .bin .add (.t 90) (.t 91), none⟩,
  ⟨(some 93), .bin .eql (.t 92) (.k (.d (.int .i64 0))), none⟩,
  ⟨(some 94), .mv (.t 93), none⟩,
  ⟨(some 95), .ld (some 6) (.t 7), some (94, true)⟩,
  ⟨(some 96), .mv (.t 5), some (94, true)⟩,
  ⟨(some 97), .mv (.t 13), some (94, true)⟩,
  ⟨(some 98), .iad 6 (.t 96) (.t 97), some (94, true)⟩,
  ⟨(some 99), .ld (some 6) (.t 98), some (94, true)⟩,
  ⟨(some 100), .call (.k (.fn 12 [])) [(.t 95), (.t 99)], some (94, true)⟩,
  ⟨(some 101), .pick (.t 94) (.t 100) (.k (.d (.bool false))), none⟩,
  ⟨(some 102), .mv (.t 101), none⟩,
  ⟨(some 103), .ld (some 6) (.t 9), some (102, true)⟩,
  ⟨(some 104), .mv (.t 5), some (102, true)⟩,
  ⟨(some 105), .mv (.t 14), some (102, true)⟩,
  ⟨(some 106), .iad 6 (.t 104) (.t 105), some (102, true)⟩,
  ⟨(some 107), .ld (some 6) (.t 106), some (102, true)⟩,
  ⟨(some 108), .call (.k (.fn 12 [])) [(.t 103), (.t 107)], some (102, true)⟩,
  ⟨(some 109), .pick (.t 102) (.t 108) (.k (.d (.bool false))), none⟩,
  ⟨(some 110), .mv (.t 109), none⟩,
  ⟨(some 111), .ld (some 6) (.t 11), some (110, true)⟩,
  ⟨(some 112), .mv (.t 5), some (110, true)⟩,
  ⟨(some 113), .mv (.t 15), some (110, true)⟩,
  ⟨(some 114), .iad 6 (.t 112) (.t 113), some (110, true)⟩,
  ⟨(some 115), .ld (some 6) (.t 114), some (110, true)⟩,
  ⟨(some 116), .call (.k (.fn 12 [])) [(.t 111), (.t 115)], some (110, true)⟩,
  ⟨(some 117), .pick (.t 110) (.t 116) (.k (.d (.bool false))), none⟩,
  ⟨(some 118), .mv (.t 117), none⟩,
  ⟨(some 119), .call (.k (.fn 10 [])) [], some (118, true)⟩,
  ⟨(some 120), .pick (.t 118) (.t 119) (.k (.d (.bool false))), none⟩,
  ⟨(some 4), .mv (.t 120), none⟩] [(12, 15), (12, 19), (7, 20), (11, 20), (12, 20), (12, 23), (20, 23), (12, 27), (20, 27), (7, 28), (11, 28), (12, 28), (15, 28), (19, 28), (20, 28), (7, 31), (11, 31), (12, 31), (15, 31), (19, 31), (20, 31), (23, 31), (27, 31), (28, 31)])
.ret)))))))))))) }
theorem af6_ok : cFun Try.prog eqT Try.f6 = some af6 := by kernel_rfl
/-- dossier/dossierlaw6.EvalWrong -/
noncomputable def af7 : AFun := { np := 2, nt := 64, res := [.t 4], code :=
(.seq (.rg [⟨(some 2), .box (.t 0), none⟩,
  ⟨(some 4), .mv (.k (.d (.bool false))), none⟩])
(.seq (.rg [⟨(some 8), .mkrow 9 1 [(.k (.d (.str [118, 32, 43, 32, 116, 114, 117, 101]))), (.k (.d (.str [118, 32, 42, 32, 110, 117, 108, 108]))), (.k (.d (.str [118, 32, 60, 32, 110, 117, 108, 108]))), (.k (.d (.str [45, 118]))), (.k (.d (.str [97, 98, 115, 40, 118, 44, 32, 118, 41]))), (.k (.d (.str [109, 111, 100, 40, 118, 41]))), (.k (.d (.str [108, 101, 110, 40, 118, 41]))), (.k (.d (.str [99, 111, 117, 110, 116, 40, 118, 41]))), (.k (.d (.str [102, 111, 111, 40, 118, 41]))), (.k (.d (.str [104, 97, 115, 40, 118, 44, 32, 118, 41]))), (.k (.d (.str [49, 32, 47, 32, 48]))), (.k (.d (.str [99, 97, 116, 40, 41]))), (.k (.d (.str [109, 105, 110, 40, 41])))], none⟩,
  ⟨(some 5), .mv (.t 8), none⟩])
(.seq (.seq (.rg [⟨(some 9), .fad (.t 2) 5, none⟩,
  ⟨(some 10), .ld none (.t 9), none⟩,
  ⟨(some 11), .lenq false (.t 10), none⟩,
  ⟨(some 12), .bin .gtr (.t 11) (.k (.d (.int .i64 20))), none⟩,
  ⟨(some 13), .mv (.t 12), none⟩,
  ⟨(some 14), .ld (some 6) (.t 2), some (13, false)⟩,
  ⟨(some 15), .call (.k (.fn 14 [])) [(.t 14)], some (13, false)⟩,
  ⟨(some 16), .un .not (.t 15), some (13, false)⟩,
  ⟨(some 17), .pick (.t 13) (.k (.d (.bool true))) (.t 16), none⟩,
  ⟨(some 18), .mv (.t 17), none⟩,
  ⟨(some 19), .mv (.t 1), some (18, false)⟩,
  ⟨(some 20), .bin .lss (.t 19) (.k (.d (.int .i64 0))), some (18, false)⟩,
  ⟨(some 21), .pick (.t 18) (.k (.d (.bool true))) (.t 20), none⟩,
  ⟨(some 22), .mv (.t 21), none⟩,
  ⟨(some 23), .mv (.t 1), some (22, false)⟩,
  ⟨(some 24), .mv (.t 5), some (22, false)⟩,
  ⟨(some 25), .lenq false (.t 24), some (22, false)⟩,
  ⟨(some 26), .bin .geq (.t 23) (.t 25), some (22, false)⟩,
  ⟨(some 27), .pick (.t 22) (.k (.d (.bool true))) (.t 26), none⟩,
  ⟨(some 28), .mv (.t 27), none⟩,
  ⟨(some 29), .fad (.t 2) 0, some (28, false)⟩,
  ⟨(some 30), .ld none (.t 29), some (28, false)⟩,
  ⟨(some 31), .bin .eql (.t 30) (.k (.d (.int .i64 2))), some (28, false)⟩,
  ⟨(some 32), .pick (.t 28) (.k (.d (.bool true))) (.t 31), none⟩,
  ⟨(some 33), .mv (.t 32), none⟩,
  ⟨(some 34), .fad (.t 2) 0, some (33, false)⟩,
  ⟨(some 35), .ld none (.t 34), some (33, false)⟩,
  ⟨(some 36), .bin .eql (.t 35) (.k (.d (.int .i64 3))), some (33, false)⟩,
  ⟨(some 37), .pick (.t 33) (.k (.d (.bool true))) (.t 36), none⟩,
  ⟨(some 38), .mv (.t 37), none⟩,
  ⟨(some 39), .fad (.t 2) 0, some (38, false)⟩,
  ⟨(some 40), .ld none (.t 39), some (38, false)⟩,
  ⟨(some 41), .bin .eql (.t 40) (.k (.d (.int .i64 4))), some (38, false)⟩,
  ⟨(some 42), .pick (.t 38) (.k (.d (.bool true))) (.t 41), none⟩])
(.cond (.t 42)
  (.seq (.rg [⟨(some 4), .mv (.k (.d (.bool true))), none⟩])
  .ret)
  .skip))
(.seq (.rd [⟨(some 44), .mv (.t 5), none⟩,
  ⟨(some 45), .mv (.t 1), none⟩,
  ⟨(some 46), .iad 1 (.t 44) (.t 45), none⟩,
  ⟨(some 47), .ld none (.t 46), none⟩,
  ⟨(some 48), .ld (some 6) (.t 2), none⟩,
  ⟨(some 49), .build [.str [], .int .i64 0, .bool false, .int .i64 0, .int .i64 0, .str [], .sl []] [(0, 1, (.k (.d (.str [118])))), (1, 6, (.t 48))], none⟩,
  ⟨(some 50), .mkrow 29 7 [(.t 49)], none⟩,
  ⟨(some 51), .call (.k (.fn 9 [])) [(.t 47), (.t 50)], none⟩,
  ⟨(some 43), .mv (.t 51), none⟩,
  ⟨(some 52), .ext (.t 43) 0, none⟩,
  ⟨(some 53), .ext (.t 43) 1, none⟩,
  ⟨(some 6), .new [.d (.int .i64 0), .d (.bool false), .d (.int .i64 0), .d (.int .i64 0), .d (.str []), .nils], none⟩,
  ⟨none, .st 6 (.t 6) (.t 52), none⟩,
  ⟨(some 7), .mv (.t 53), none⟩] [(3, 6), (4, 6), (4, 7), (3, 11), (4, 11), (6, 11), (7, 11)])
(.seq (.rg [⟨(some 54), .mv (.t 7), none⟩,
  ⟨(some 55), .bin .eql (.t 54) (.k (.d (.int .i64 0))), none⟩,
  ⟨(some 56), .mv (.t 55), none⟩,
  ⟨(some 57), .fad (.t 6) 0, some (56, true)⟩,
  ⟨(some 58), .ld none (.t 57), some (56, true)⟩,
  ⟨(some 59), .bin .eql (.t 58) (.k (.d (.int .i64 0))), some (56, true)⟩,
  ⟨(some 60), .pick (.t 56) (.t 59) (.k (.d (.bool false))), none⟩,
  ⟨(some 61), .mv (.t 60), none⟩,
  ⟨(some 62), .call (.k (.fn 10 [])) [], some (61, true)⟩,
  ⟨(some 63), .pick (.t 61) (.t 62) (.k (.d (.bool false))), none⟩,
  ⟨(some 4), .mv (.t 63), none⟩])
.ret))))) }
theorem af7_ok : cFun Try.prog eqT Try.f7 = some af7 := by kernel_rfl
/-- dossier/dossierlaw6.num -/
noncomputable def af8 : AFun := { np := 1, nt := 6, res := [.c 2 (some 6)], code :=
(.seq (.rg [⟨(some 2), .new [.d (.int .i64 0), .d (.bool false), .d (.int .i64 0), .d (.int .i64 0), .d (.str []), .nils], none⟩])
(.seq (.rg [⟨(some 3), .mv (.t 0), none⟩,
  ⟨(some 4), .build [.int .i64 0, .int .i64 0] [(0, 1, (.t 3))], none⟩,
  ⟨(some 5), .build [.int .i64 0, .bool false, .int .i64 0, .int .i64 0, .str [], .sl []] [(0, 1, (.k (.d (.int .i64 2)))), (2, 2, (.t 4))], none⟩,
  ⟨none, .st 6 (.t 2) (.t 5), none⟩])
.ret)) }
theorem af8_ok : cFun Try.prog eqT Try.f8 = some af8 := by kernel_rfl
/-- dossier/dossierlaw6.told -/
noncomputable def af9 : AFun := { np := 2, nt := 23, res := [.c 4 (some 6), .t 5], code :=
(.seq (.rg [⟨(some 4), .new [.d (.int .i64 0), .d (.bool false), .d (.int .i64 0), .d (.int .i64 0), .d (.str []), .nils], none⟩,
  ⟨(some 5), .mv (.k (.d (.int .i64 0))), none⟩])
(.seq (.rg [⟨(some 10), .mv (.t 0), none⟩,
  ⟨(some 11), .call (.k (.fn 15 [])) [(.t 10)], none⟩,
  ⟨(some 9), .mv (.t 11), none⟩,
  ⟨(some 12), .ext (.t 9) 0, none⟩,
  ⟨(some 13), .ext (.t 9) 1, none⟩,
  ⟨(some 14), .ext (.t 9) 2, none⟩,
  ⟨(some 6), .new [.d (.int .i64 0), .d (.bool false), .d (.int .i64 0), .d (.int .i64 0), .d (.str []), .d (.bool false), .d (.bool false), .nils], none⟩,
  ⟨none, .st 8 (.t 6) (.t 12), none⟩,
  ⟨(some 7), .mv (.t 13), none⟩,
  ⟨(some 8), .mv (.t 14), none⟩])
(.seq (.seq (.rg [⟨(some 15), .mv (.t 8), none⟩,
  ⟨(some 16), .bin .neq (.t 15) (.k (.d (.int .i64 0))), none⟩])
(.cond (.t 16)
  (.seq (.rg [⟨(some 17), .build [.int .i64 0, .bool false, .int .i64 0, .int .i64 0, .str [], .sl []] [], none⟩,
    ⟨none, .st 6 (.t 4) (.t 17), none⟩,
    ⟨(some 5), .mv (.k (.d (.int .i64 2))), none⟩])
  .ret)
  .skip))
(.seq (.rg [⟨(some 18), .ld (some 8) (.t 6), none⟩,
  ⟨(some 19), .mv (.t 1), none⟩,
  ⟨(some 20), .call (.k (.fn 11 [])) [(.t 18), (.t 19)], none⟩,
  ⟨(some 21), .ext (.t 20) 0, none⟩,
  ⟨(some 22), .ext (.t 20) 1, none⟩,
  ⟨none, .st 6 (.t 4) (.t 21), none⟩,
  ⟨(some 5), .mv (.t 22), none⟩])
.ret)))) }
theorem af9_ok : cFun Try.prog eqT Try.f9 = some af9 := by kernel_rfl
/-- dossier/dossierlaw6.known -/
noncomputable def af10 : AFun := { np := 0, nt := 20, res := [.t 0], code :=
(.seq (.rg [⟨(some 0), .mv (.k (.d (.bool false))), none⟩])
(.seq (.rg [⟨(some 4), .call (.k (.fn 9 [])) [(.k (.d (.str [115, 117, 109, 40, 91, 49, 44, 32, 50, 44, 32, 51, 93, 41, 32, 47, 32, 52]))), (.k (.nils))], none⟩,
  ⟨(some 3), .mv (.t 4), none⟩,
  ⟨(some 5), .ext (.t 3) 0, none⟩,
  ⟨(some 6), .ext (.t 3) 1, none⟩,
  ⟨(some 1), .new [.d (.int .i64 0), .d (.bool false), .d (.int .i64 0), .d (.int .i64 0), .d (.str []), .nils], none⟩,
  ⟨none, .st 6 (.t 1) (.t 5), none⟩,
  ⟨(some 2), .mv (.t 6), none⟩])
(.seq (.rg [⟨(some 7), .mv (.t 2), none⟩,
  ⟨(some 8), .bin .eql (.t 7) (.k (.d (.int .i64 0))), none⟩,
  ⟨(some 9), .mv (.t 8), none⟩,
  ⟨(some 10), .fad (.t 1) 0, some (9, true)⟩,
  ⟨(some 11), .ld none (.t 10), some (9, true)⟩,
  ⟨(some 12), .bin .eql (.t 11) (.k (.d (.int .i64 2))), some (9, true)⟩,
  ⟨(some 13), .pick (.t 9) (.t 12) (.k (.d (.bool false))), none⟩,
  ⟨(some 14), .mv (.t 13), none⟩,
  ⟨(some 15), .fad (.t 1) 2, some (14, true)⟩,
  ⟨(some 16), .ld (some 2) (.t 15), some (14, true)⟩,
  ⟨(some 17), .build [.int .i64 0, .int .i64 0] [(0, 1, (.k (.d (.int .i64 15)))), (1, 1, (.k (.d (.int .i64 1))))], some (14, true)⟩,
  ⟨(some 18), .eqs 2 false (.t 16) (.t 17), some (14, true)⟩,
  ⟨(some 19), .pick (.t 14) (.t 18) (.k (.d (.bool false))), none⟩,
  ⟨(some 0), .mv (.t 19), none⟩])
.ret))) }
theorem af10_ok : cFun Try.prog eqT Try.f10 = some af10 := by kernel_rfl
/-- dossier/eval.Eval -/
noncomputable def af11 : AFun := { np := 2, nt := 61, res := [.c 4 (some 6), .t 5], code :=
(.seq (.rg [⟨(some 2), .box (.t 0), none⟩,
  ⟨(some 4), .new [.d (.int .i64 0), .d (.bool false), .d (.int .i64 0), .d (.int .i64 0), .d (.str []), .nils], none⟩,
  ⟨(some 5), .mv (.k (.d (.int .i64 0))), none⟩])
(.seq (.seq (.rg [⟨(some 11), .ld (some 8) (.t 2), none⟩,
  ⟨(some 12), .call (.k (.fn 16 [])) [(.t 11)], none⟩,
  ⟨(some 13), .un .not (.t 12), none⟩])
(.cond (.t 13)
  (.seq (.rg [⟨(some 14), .build [.int .i64 0, .bool false, .int .i64 0, .int .i64 0, .str [], .sl []] [], none⟩,
    ⟨none, .st 6 (.t 4) (.t 14), none⟩,
    ⟨(some 5), .mv (.k (.d (.int .i64 1))), none⟩])
  .ret)
  .skip))
(.seq (.block 0
  (.seq (.rg [⟨(some 16), .fad (.t 2) 0, none⟩,
    ⟨(some 17), .ld none (.t 16), none⟩,
    ⟨(some 18), .bin .eql (.t 17) (.k (.d (.int .i64 8))), none⟩,
    ⟨(some 15), .mv (.t 18), none⟩])
  (.cond (.t 15)
    (.seq (.rg [⟨(some 19), .ld (some 8) (.t 2), none⟩,
      ⟨(some 20), .mv (.t 1), none⟩,
      ⟨(some 21), .call (.k (.fn 17 [])) [(.t 19), (.t 20)], none⟩,
      ⟨(some 22), .ext (.t 21) 0, none⟩,
      ⟨(some 23), .ext (.t 21) 1, none⟩,
      ⟨none, .st 6 (.t 4) (.t 22), none⟩,
      ⟨(some 5), .mv (.t 23), none⟩])
    .ret)
    (.seq (.rg [⟨(some 25), .fad (.t 2) 0, none⟩,
      ⟨(some 26), .ld none (.t 25), none⟩,
      ⟨(some 27), .call (.k (.fn 18 [])) [(.t 26)], none⟩,
      ⟨(some 24), .mv (.t 27), none⟩])
    (.cond (.t 24)
      (.seq (.rg [⟨(some 28), .ld (some 8) (.t 2), none⟩,
        ⟨(some 29), .mv (.t 1), none⟩,
        ⟨(some 30), .call (.k (.fn 19 [])) [(.t 28), (.k (.nils)), (.t 29)], none⟩,
        ⟨(some 31), .ext (.t 30) 0, none⟩,
        ⟨(some 32), .ext (.t 30) 1, none⟩,
        ⟨none, .st 6 (.t 4) (.t 31), none⟩,
        ⟨(some 5), .mv (.t 32), none⟩])
      .ret)
      .skip)))))
(.seq (.rg [⟨(some 6), .mv (.k (.nils)), none⟩])
(.seq (.seq (.rg [⟨(some 33), .fad (.t 2) 7, none⟩,
  ⟨(some 34), .ld none (.t 33), none⟩,
  ⟨(some 35), .lenq false (.t 34), none⟩,
  ⟨(some 36), .mv (.k (.d (.int .i64 0))), none⟩])
(.block 1
  (.loop
    (.seq (.rg [⟨(some 37), .bin .lss (.t 36) (.t 35), none⟩])
    (.seq (.cond (.t 37)
      .skip
      (.exit 1))
    (.seq (.block 2
      (.seq (.rg [⟨(some 38), .iad 8 (.t 34) (.t 36), none⟩,
        ⟨(some 39), .ld (some 8) (.t 38), none⟩,
        ⟨(some 8), .new [.d (.int .i64 0), .d (.bool false), .d (.int .i64 0), .d (.int .i64 0), .d (.str []), .d (.bool false), .d (.bool false), .nils], none⟩,
        ⟨none, .st 8 (.t 8) (.t 39), none⟩])
      (.seq (.rg [⟨(some 41), .ld (some 8) (.t 8), none⟩,
        ⟨(some 42), .mv (.t 1), none⟩,
        ⟨(some 43), .call (.k (.fn 11 [])) [(.t 41), (.t 42)], none⟩,
        ⟨(some 40), .mv (.t 43), none⟩,
        ⟨(some 44), .ext (.t 40) 0, none⟩,
        ⟨(some 45), .ext (.t 40) 1, none⟩,
        ⟨(some 9), .new [.d (.int .i64 0), .d (.bool false), .d (.int .i64 0), .d (.int .i64 0), .d (.str []), .nils], none⟩,
        ⟨none, .st 6 (.t 9) (.t 44), none⟩,
        ⟨(some 10), .mv (.t 45), none⟩])
      (.seq (.seq (.rg [⟨(some 46), .mv (.t 10), none⟩,
        ⟨(some 47), .bin .neq (.t 46) (.k (.d (.int .i64 0))), none⟩])
      (.cond (.t 47)
        (.seq (.rg [⟨(some 48), .build [.int .i64 0, .bool false, .int .i64 0, .int .i64 0, .str [], .sl []] [], none⟩,
          ⟨(some 49), .mv (.t 10), none⟩,
          ⟨none, .st 6 (.t 4) (.t 48), none⟩,
          ⟨(some 5), .mv (.t 49), none⟩])
        .ret)
        .skip))
      (.rg [⟨(some 50), .mv (.t 6), none⟩,
        ⟨(some 51), .ld (some 6) (.t 9), none⟩,
        ⟨(some 52), .mkrow 26 6 [(.t 51)], none⟩,
        ⟨(some 53), .app 26 6 72 (.t 50) (.t 52), none⟩,
        ⟨(some 6), .mv (.t 53), none⟩])))))
    (.rg [⟨(some 54), .bin .add (.t 36) (.k (.d (.int .i64 1))), none⟩,
      ⟨(some 36), .mv (.t 54), none⟩])))))))
(.seq (.rg [⟨(some 55), .ld (some 8) (.t 2), none⟩,
  ⟨(some 56), .mv (.t 6), none⟩,
  ⟨(some 57), .mv (.t 1), none⟩,
  ⟨(some 58), .call (.k (.fn 19 [])) [(.t 55), (.t 56), (.t 57)], none⟩,
  ⟨(some 59), .ext (.t 58) 0, none⟩,
  ⟨(some 60), .ext (.t 58) 1, none⟩,
  ⟨none, .st 6 (.t 4) (.t 59), none⟩,
  ⟨(some 5), .mv (.t 60), none⟩])
.ret)))))) }
theorem af11_ok : cFun Try.prog eqT Try.f11 = some af11 := by kernel_rfl
/-- dossier/dossierref12.SameVal -/
noncomputable def af12 : AFun := { np := 2, nt := 60, res := [.t 4], code :=
(.seq (.rg [⟨(some 2), .box (.t 0), none⟩,
  ⟨(some 3), .box (.t 1), none⟩,
  ⟨(some 4), .mv (.k (.d (.bool false))), none⟩])
(.seq (.seq (.rg [⟨(some 6), .fad (.t 2) 0, none⟩,
  ⟨(some 7), .ld none (.t 6), none⟩,
  ⟨(some 8), .fad (.t 3) 0, none⟩,
  ⟨(some 9), .ld none (.t 8), none⟩,
  ⟨(some 10), .bin .neq (.t 7) (.t 9), none⟩,
  ⟨(some 11), .mv (.t 10), none⟩,
  ⟨(some 12), .fad (.t 2) 1, some (11, false)⟩,
  ⟨(some 13), .ld none (.t 12), some (11, false)⟩,
  ⟨(some 14), .fad (.t 3) 1, some (11, false)⟩,
  ⟨(some 15), .ld none (.t 14), some (11, false)⟩,
  ⟨(some 16), .eqb true (.t 13) (.t 15), some (11, false)⟩,
  ⟨(some 17), .pick (.t 11) (.k (.d (.bool true))) (.t 16), none⟩,
  ⟨(some 18), .mv (.t 17), none⟩,
  ⟨(some 19), .fad (.t 2) 2, some (18, false)⟩,
  ⟨(some 20), .ld (some 2) (.t 19), some (18, false)⟩,
  ⟨(some 21), .fad (.t 3) 2, some (18, false)⟩,
  ⟨(some 22), .ld (some 2) (.t 21), some (18, false)⟩,
  ⟨(some 23), .eqs 2 true (.t 20) (.t 22), some (18, false)⟩,
  ⟨(some 24), .pick (.t 18) (.k (.d (.bool true))) (.t 23), none⟩,
  ⟨(some 25), .mv (.t 24), none⟩,
  ⟨(some 26), .fad (.t 2) 4, some (25, false)⟩,
  ⟨(some 27), .ld none (.t 26), some (25, false)⟩,
  ⟨(some 28), .fad (.t 3) 4, some (25, false)⟩,
  ⟨(some 29), .ld none (.t 28), some (25, false)⟩,
  ⟨(some 30), .bin .neq (.t 27) (.t 29), some (25, false)⟩,
  ⟨(some 31), .pick (.t 25) (.k (.d (.bool true))) (.t 30), none⟩,
  ⟨(some 32), .mv (.t 31), none⟩,
  ⟨(some 33), .fad (.t 2) 5, some (32, false)⟩,
  ⟨(some 34), .ld none (.t 33), some (32, false)⟩,
  ⟨(some 35), .lenq false (.t 34), some (32, false)⟩,
  ⟨(some 36), .fad (.t 3) 5, some (32, false)⟩,
  ⟨(some 37), .ld none (.t 36), some (32, false)⟩,
  ⟨(some 38), .lenq false (.t 37), some (32, false)⟩,
  ⟨(some 39), .bin .neq (.t 35) (.t 38), some (32, false)⟩,
  ⟨(some 40), .pick (.t 32) (.k (.d (.bool true))) (.t 39), none⟩])
(.cond (.t 40)
  (.seq (.rg [⟨(some 4), .mv (.k (.d (.bool false))), none⟩])
  .ret)
  .skip))
(.seq (.seq (.rg [⟨(some 5), .mv (.k (.d (.int .i64 0))), none⟩])
(.block 0
  (.loop
    (.seq (.seq (.rg [⟨(some 41), .mv (.t 5), none⟩,
      ⟨(some 42), .fad (.t 2) 5, none⟩,
      ⟨(some 43), .ld none (.t 42), none⟩,
      ⟨(some 44), .lenq false (.t 43), none⟩,
      ⟨(some 45), .bin .lss (.t 41) (.t 44), none⟩])
    (.cond (.t 45)
      .skip
      (.exit 0)))
    (.seq (.block 1
      (.seq (.rd [⟨(some 48), .fad (.t 2) 5, none⟩,
        ⟨(some 49), .ld none (.t 48), none⟩,
        ⟨(some 50), .mv (.t 5), none⟩,
        ⟨(some 51), .iad 6 (.t 49) (.t 50), none⟩,
        ⟨(some 52), .ld (some 6) (.t 51), none⟩,
        ⟨(some 53), .fad (.t 3) 5, none⟩,
        ⟨(some 54), .ld none (.t 53), none⟩,
        ⟨(some 55), .mv (.t 5), none⟩,
        ⟨(some 56), .iad 6 (.t 54) (.t 55), none⟩,
        ⟨(some 57), .ld (some 6) (.t 56), none⟩,
        ⟨(some 58), .call (.k (.fn 12 [])) [(.t 52), (.t 57)], none⟩,
        ⟨(some 59), .un .not (.t 58), none⟩] [(1, 10), (6, 10)])
      (.cond (.t 59)
        (.seq (.rg [⟨(some 4), .mv (.k (.d (.bool false))), none⟩])
        .ret)
        .skip)))
    (.rg [⟨(some 46), .mv (.t 5), none⟩,
      ⟨(some 47), .bin .add (.t 46) (.k (.d (.int .i64 1))), none⟩,
      ⟨(some 5), .mv (.t 47), none⟩]))))))
(.seq (.rg [⟨(some 4), .mv (.k (.d (.bool true))), none⟩])
.ret)))) }
theorem af12_ok : cFun Try.prog eqT Try.f12 = some af12 := by kernel_rfl
/-- dossier/dossierlaw6.op -/
noncomputable def af13 : AFun := { np := 3, nt := 21, res := [.t 6], code :=
(.seq (.rg [⟨(some 6), .mv (.k (.d (.int .i64 0))), none⟩])
(.seq (.seq (.rg [⟨(some 7), .mv (.t 2), none⟩])
(.block 0
  (.seq (.rg [⟨(some 9), .bin .eql (.t 7) (.k (.d (.int .i64 0))), none⟩,
    ⟨(some 8), .mv (.t 9), none⟩])
  (.cond (.t 8)
    (.seq (.rg [⟨(some 10), .mv (.t 0), none⟩,
      ⟨(some 11), .mv (.t 1), none⟩,
      ⟨(some 12), .bin .add (.t 10) (.t 11), none⟩,
      ⟨(some 6), .mv (.t 12), none⟩])
    .ret)
    (.seq (.rg [⟨(some 14), .bin .eql (.t 7) (.k (.d (.int .i64 1))), none⟩,
      ⟨(some 13), .mv (.t 14), none⟩])
    (.cond (.t 13)
      (.seq (.rg [⟨(some 15), .mv (.t 0), none⟩,
        ⟨(some 16), .mv (.t 1), none⟩,
        ⟨(some 17), .bin .sub (.t 15) (.t 16), none⟩,
        ⟨(some 6), .mv (.t 17), none⟩])
      .ret)
      .skip))))))
(.seq (.rg [⟨(some 18), .mv (.t 0), none⟩,
  ⟨(some 19), .mv (.t 1), none⟩,
  ⟨(some 20), .bin .mul (.t 18) (.t 19), none⟩,
  ⟨(some 6), .mv (.t 20), none⟩])
.ret))) }
theorem af13_ok : cFun Try.prog eqT Try.f13 = some af13 := by kernel_rfl
/-- dossier/dossierref2.Is -/
noncomputable def af14 : AFun := { np := 1, nt := 5, res := [.t 2], code :=
(.seq (.rg [⟨(some 1), .box (.t 0), none⟩,
  ⟨(some 2), .mv (.k (.d (.bool false))), none⟩])
(.seq (.rg [⟨(some 3), .ld (some 6) (.t 1), none⟩,
  ⟨(some 4), .call (.k (.fn 20 [])) [(.t 3), (.k (.d (.int .i64 0)))], none⟩,
  ⟨(some 2), .mv (.t 4), none⟩])
.ret)) }
theorem af14_ok : cFun Try.prog eqT Try.f14 = some af14 := by kernel_rfl
/-- dossier/dossierref4.Parse -/
noncomputable def af15 : AFun := { np := 1, nt := 50, res := [.c 2 (some 8), .t 3, .t 4], code :=
(.seq (.rg [⟨(some 2), .new [.d (.int .i64 0), .d (.bool false), .d (.int .i64 0), .d (.int .i64 0), .d (.str []), .d (.bool false), .d (.bool false), .nils], none⟩,
  ⟨(some 3), .mv (.k (.d (.int .i64 0))), none⟩,
  ⟨(some 4), .mv (.k (.d (.int .i64 0))), none⟩])
(.seq (.rg [⟨(some 13), .mv (.t 0), none⟩,
  ⟨(some 14), .call (.k (.fn 21 [])) [(.t 13)], none⟩,
  ⟨(some 12), .mv (.t 14), none⟩,
  ⟨(some 15), .ext (.t 12) 0, none⟩,
  ⟨(some 16), .ext (.t 12) 1, none⟩,
  ⟨(some 17), .ext (.t 12) 2, none⟩,
  ⟨(some 5), .mv (.t 15), none⟩,
  ⟨(some 6), .mv (.t 16), none⟩,
  ⟨(some 7), .mv (.t 17), none⟩])
(.seq (.seq (.rg [⟨(some 18), .mv (.t 7), none⟩,
  ⟨(some 19), .bin .neq (.t 18) (.k (.d (.int .i64 0))), none⟩])
(.cond (.t 19)
  (.seq (.rg [⟨(some 20), .build [.int .i64 0, .bool false, .int .i64 0, .int .i64 0, .str [], .bool false, .bool false, .sl []] [], none⟩,
    ⟨(some 21), .mv (.t 6), none⟩,
    ⟨(some 22), .mv (.t 7), none⟩,
    ⟨none, .st 8 (.t 2) (.t 20), none⟩,
    ⟨(some 3), .mv (.t 21), none⟩,
    ⟨(some 4), .mv (.t 22), none⟩])
  .ret)
  .skip))
(.seq (.rg [⟨(some 24), .mv (.t 5), none⟩,
  ⟨(some 25), .mv (.t 6), none⟩,
  ⟨(some 26), .call (.k (.fn 22 [])) [(.t 24), (.k (.d (.int .i64 0))), (.t 25)], none⟩,
  ⟨(some 23), .mv (.t 26), none⟩,
  ⟨(some 27), .ext (.t 23) 0, none⟩,
  ⟨(some 28), .ext (.t 23) 1, none⟩,
  ⟨(some 29), .ext (.t 23) 2, none⟩,
  ⟨(some 30), .ext (.t 23) 3, none⟩,
  ⟨(some 8), .new [.d (.int .i64 0), .d (.bool false), .d (.int .i64 0), .d (.int .i64 0), .d (.str []), .d (.bool false), .d (.bool false), .nils], none⟩,
  ⟨none, .st 8 (.t 8) (.t 27), none⟩,
  ⟨(some 9), .mv (.t 28), none⟩,
  ⟨(some 10), .mv (.t 29), none⟩,
  ⟨(some 11), .mv (.t 30), none⟩])
(.seq (.block 0
  (.seq (.rg [⟨(some 32), .mv (.t 11), none⟩,
    ⟨(some 33), .bin .neq (.t 32) (.k (.d (.int .i64 0))), none⟩,
    ⟨(some 31), .mv (.t 33), none⟩])
  (.cond (.t 31)
    (.seq (.rg [⟨(some 34), .build [.int .i64 0, .bool false, .int .i64 0, .int .i64 0, .str [], .bool false, .bool false, .sl []] [], none⟩,
      ⟨(some 35), .mv (.t 10), none⟩,
      ⟨(some 36), .mv (.t 11), none⟩,
      ⟨none, .st 8 (.t 2) (.t 34), none⟩,
      ⟨(some 3), .mv (.t 35), none⟩,
      ⟨(some 4), .mv (.t 36), none⟩])
    .ret)
    (.seq (.rg [⟨(some 38), .mv (.t 9), none⟩,
      ⟨(some 39), .mv (.t 5), none⟩,
      ⟨(some 40), .lenq false (.t 39), none⟩,
      ⟨(some 41), .bin .lss (.t 38) (.t 40), none⟩,
      ⟨(some 37), .mv (.t 41), none⟩])
    (.cond (.t 37)
      (.seq (.rd [⟨(some 42), .build [.int .i64 0, .bool false, .int .i64 0, .int .i64 0, .str [], .bool false, .bool false, .sl []] [], none⟩,
        ⟨(some 43), .mv (.t 5), none⟩,
        ⟨(some 44), .mv (.t 9), none⟩,
        ⟨(some 45), .iad 3 (.t 43) (.t 44), none⟩,
        ⟨(some 46), .fad (.t 45) 2, none⟩,
        ⟨(some 47), .ld none (.t 46), none⟩,
        ⟨none, .st 8 (.t 2) (.t 42), none⟩,
        ⟨(some 3), .mv (.t 47), none⟩,
        ⟨(some 4), .mv (.k (.d (.int .i64 2))), none⟩] [(5, 6)])
      .ret)
      .skip)))))
(.seq (.rg [⟨(some 48), .ld (some 8) (.t 8), none⟩,
  ⟨(some 49), .mv (.t 6), none⟩,
  ⟨none, .st 8 (.t 2) (.t 48), none⟩,
  ⟨(some 3), .mv (.t 49), none⟩,
  ⟨(some 4), .mv (.k (.d (.int .i64 0))), none⟩])
.ret)))))) }
theorem af15_ok : cFun Try.prog eqT Try.f15 = some af15 := by kernel_rfl
/-- dossier/eval.may -/
noncomputable def af16 : AFun := { np := 1, nt := 41, res := [.t 2], code :=
(.seq (.rg [⟨(some 1), .box (.t 0), none⟩,
  ⟨(some 2), .mv (.k (.d (.bool false))), none⟩])
(.seq (.seq (.rg [⟨(some 3), .fad (.t 1) 0, none⟩,
  ⟨(some 4), .ld none (.t 3), none⟩])
(.block 0
  (.seq (.rg [⟨(some 6), .bin .eql (.t 4) (.k (.d (.int .i64 3))), none⟩,
    ⟨(some 5), .mv (.t 6), none⟩])
  (.cond (.t 5)
    (.seq (.rg [⟨(some 7), .fad (.t 1) 2, none⟩,
      ⟨(some 8), .ld (some 2) (.t 7), none⟩,
      ⟨(some 9), .call (.k (.fn 23 [])) [(.t 8)], none⟩,
      ⟨(some 2), .mv (.t 9), none⟩])
    .ret)
    (.seq (.rg [⟨(some 11), .bin .eql (.t 4) (.k (.d (.int .i64 4))), none⟩,
      ⟨(some 10), .mv (.t 11), none⟩])
    (.cond (.t 10)
      (.seq (.rg [⟨(some 12), .fad (.t 1) 4, none⟩,
        ⟨(some 13), .ld none (.t 12), none⟩,
        ⟨(some 14), .build [.int .i64 0, .bool false, .int .i64 0, .int .i64 0, .str [], .sl []] [(0, 1, (.k (.d (.int .i64 3)))), (4, 1, (.t 13))], none⟩,
        ⟨(some 15), .call (.k (.fn 24 [])) [(.t 14)], none⟩,
        ⟨(some 2), .mv (.t 15), none⟩])
      .ret)
      (.seq (.seq (.rg [⟨(some 17), .bin .eql (.t 4) (.k (.d (.int .i64 1))), none⟩,
        ⟨(some 16), .mv (.t 17), none⟩])
      (.cond (.t 16)
        .skip
        (.seq (.rg [⟨(some 18), .bin .eql (.t 4) (.k (.d (.int .i64 2))), none⟩,
          ⟨(some 16), .mv (.t 18), none⟩])
        (.cond (.t 16)
          .skip
          (.seq (.rg [⟨(some 19), .bin .eql (.t 4) (.k (.d (.int .i64 5))), none⟩,
            ⟨(some 16), .mv (.t 19), none⟩])
          (.cond (.t 16)
            .skip
            (.seq (.rg [⟨(some 20), .bin .eql (.t 4) (.k (.d (.int .i64 9))), none⟩,
              ⟨(some 16), .mv (.t 20), none⟩])
            (.cond (.t 16)
              .skip
              (.rg [⟨(some 21), .bin .eql (.t 4) (.k (.d (.int .i64 10))), none⟩,
                ⟨(some 16), .mv (.t 21), none⟩])))))))))
      (.cond (.t 16)
        (.seq (.rg [⟨(some 2), .mv (.k (.d (.bool true))), none⟩])
        .ret)
        (.seq (.rg [⟨(some 23), .bin .eql (.t 4) (.k (.d (.int .i64 7))), none⟩,
          ⟨(some 22), .mv (.t 23), none⟩])
        (.cond (.t 22)
          (.seq (.rg [⟨(some 24), .fad (.t 1) 7, none⟩,
            ⟨(some 25), .ld none (.t 24), none⟩,
            ⟨(some 26), .lenq false (.t 25), none⟩,
            ⟨(some 27), .bin .eql (.t 26) (.k (.d (.int .i64 1))), none⟩,
            ⟨(some 2), .mv (.t 27), none⟩])
          .ret)
          (.seq (.rg [⟨(some 29), .bin .eql (.t 4) (.k (.d (.int .i64 6))), none⟩,
            ⟨(some 28), .mv (.t 29), none⟩])
          (.cond (.t 28)
            (.seq (.rg [⟨(some 30), .fad (.t 1) 7, none⟩,
              ⟨(some 31), .ld none (.t 30), none⟩,
              ⟨(some 32), .lenq false (.t 31), none⟩,
              ⟨(some 33), .bin .eql (.t 32) (.k (.d (.int .i64 2))), none⟩,
              ⟨(some 2), .mv (.t 33), none⟩])
            .ret)
            (.seq (.seq (.rg [⟨(some 35), .bin .eql (.t 4) (.k (.d (.int .i64 8))), none⟩,
              ⟨(some 34), .mv (.t 35), none⟩])
            (.cond (.t 34)
              .skip
              (.rg [⟨(some 36), .bin .eql (.t 4) (.k (.d (.int .i64 11))), none⟩,
                ⟨(some 34), .mv (.t 36), none⟩])))
            (.cond (.t 34)
              (.seq (.rg [⟨(some 37), .fad (.t 1) 7, none⟩,
                ⟨(some 38), .ld none (.t 37), none⟩,
                ⟨(some 39), .lenq false (.t 38), none⟩,
                ⟨(some 40), .bin .eql (.t 39) (.k (.d (.int .i64 3))), none⟩,
                ⟨(some 2), .mv (.t 40), none⟩])
              .ret)
              .skip))))))))))))))
(.seq (.rg [⟨(some 2), .mv (.k (.d (.bool false))), none⟩])
.ret))) }
theorem af16_ok : cFun Try.prog eqT Try.f16 = some af16 := by kernel_rfl
/-- dossier/eval.choice -/
noncomputable def af17 : AFun := { np := 2, nt := 41, res := [.c 4 (some 6), .t 5], code :=
(.seq (.rg [⟨(some 2), .box (.t 0), none⟩,
  ⟨(some 4), .new [.d (.int .i64 0), .d (.bool false), .d (.int .i64 0), .d (.int .i64 0), .d (.str []), .nils], none⟩,
  ⟨(some 5), .mv (.k (.d (.int .i64 0))), none⟩])
(.seq (.rg [⟨(some 9), .fad (.t 2) 7, none⟩,
  ⟨(some 10), .ld none (.t 9), none⟩,
  ⟨(some 11), .iad 8 (.t 10) (.k (.d (.int .i64 0))), none⟩,
  ⟨(some 12), .ld (some 8) (.t 11), none⟩,
  ⟨(some 13), .mv (.t 1), none⟩,
  ⟨(some 14), .call (.k (.fn 11 [])) [(.t 12), (.t 13)], none⟩,
  ⟨(some 8), .mv (.t 14), none⟩,
  ⟨(some 15), .ext (.t 8) 0, none⟩,
  ⟨(some 16), .ext (.t 8) 1, none⟩,
  ⟨(some 6), .new [.d (.int .i64 0), .d (.bool false), .d (.int .i64 0), .d (.int .i64 0), .d (.str []), .nils], none⟩,
  ⟨none, .st 6 (.t 6) (.t 15), none⟩,
  ⟨(some 7), .mv (.t 16), none⟩])
(.seq (.block 0
  (.seq (.rg [⟨(some 18), .mv (.t 7), none⟩,
    ⟨(some 19), .bin .neq (.t 18) (.k (.d (.int .i64 0))), none⟩,
    ⟨(some 17), .mv (.t 19), none⟩])
  (.cond (.t 17)
    (.seq (.rg [⟨(some 20), .build [.int .i64 0, .bool false, .int .i64 0, .int .i64 0, .str [], .sl []] [], none⟩,
      ⟨(some 21), .mv (.t 7), none⟩,
      ⟨none, .st 6 (.t 4) (.t 20), none⟩,
      ⟨(some 5), .mv (.t 21), none⟩])
    .ret)
    (.seq (.rg [⟨(some 23), .ld (some 6) (.t 6), none⟩,
      ⟨(some 24), .call (.k (.fn 25 [])) [(.t 23)], none⟩,
      ⟨(some 22), .mv (.t 24), none⟩])
    (.cond (.t 22)
      (.seq (.rg [⟨(some 25), .fad (.t 2) 7, none⟩,
        ⟨(some 26), .ld none (.t 25), none⟩,
        ⟨(some 27), .iad 8 (.t 26) (.k (.d (.int .i64 1))), none⟩,
        ⟨(some 28), .ld (some 8) (.t 27), none⟩,
        ⟨(some 29), .mv (.t 1), none⟩,
        ⟨(some 30), .call (.k (.fn 11 [])) [(.t 28), (.t 29)], none⟩,
        ⟨(some 31), .ext (.t 30) 0, none⟩,
        ⟨(some 32), .ext (.t 30) 1, none⟩,
        ⟨none, .st 6 (.t 4) (.t 31), none⟩,
        ⟨(some 5), .mv (.t 32), none⟩])
      .ret)
      .skip)))))
(.seq (.rg [⟨(some 33), .fad (.t 2) 7, none⟩,
  ⟨(some 34), .ld none (.t 33), none⟩,
  ⟨(some 35), .iad 8 (.t 34) (.k (.d (.int .i64 2))), none⟩,
  ⟨(some 36), .ld (some 8) (.t 35), none⟩,
  ⟨(some 37), .mv (.t 1), none⟩,
  ⟨(some 38), .call (.k (.fn 11 [])) [(.t 36), (.t 37)], none⟩,
  ⟨(some 39), .ext (.t 38) 0, none⟩,
  ⟨(some 40), .ext (.t 38) 1, none⟩,
  ⟨none, .st 6 (.t 4) (.t 39), none⟩,
  ⟨(some 5), .mv (.t 40), none⟩])
.ret)))) }
theorem af17_ok : cFun Try.prog eqT Try.f17 = some af17 := by kernel_rfl
/-- dossier/eval.isLeaf -/
noncomputable def af18 : AFun := { np := 1, nt := 9, res := [.t 2], code :=
(.seq (.rg [⟨(some 2), .mv (.k (.d (.bool false))), none⟩])
(.seq (.rg [⟨(some 3), .mv (.t 0), none⟩,
  ⟨(some 4), .bin .geq (.t 3) (.k (.d (.int .i64 1))), none⟩,
  ⟨(some 5), .mv (.t 4), none⟩,
  ⟨(some 6), .mv (.t 0), some (5, true)⟩,
  ⟨(some 7), .bin .leq (.t 6) (.k (.d (.int .i64 5))), some (5, true)⟩,
  ⟨(some 8), .pick (.t 5) (.t 7) (.k (.d (.bool false))), none⟩,
  ⟨(some 2), .mv (.t 8), none⟩])
.ret)) }
theorem af18_ok : cFun Try.prog eqT Try.f18 = some af18 := by kernel_rfl
/-- dossier/eval.of -/
noncomputable def af19 : AFun := { np := 3, nt := 73, res := [.c 6 (some 6), .t 7], code :=
(.seq (.rg [⟨(some 3), .box (.t 0), none⟩,
  ⟨(some 6), .new [.d (.int .i64 0), .d (.bool false), .d (.int .i64 0), .d (.int .i64 0), .d (.str []), .nils], none⟩,
  ⟨(some 7), .mv (.k (.d (.int .i64 0))), none⟩])
(.seq (.seq (.rg [⟨(some 8), .fad (.t 3) 0, none⟩,
  ⟨(some 9), .ld none (.t 8), none⟩])
(.block 0
  (.seq (.rg [⟨(some 11), .bin .eql (.t 9) (.k (.d (.int .i64 2))), none⟩,
    ⟨(some 10), .mv (.t 11), none⟩])
  (.cond (.t 10)
    (.seq (.rg [⟨(some 12), .fad (.t 3) 1, none⟩,
      ⟨(some 13), .ld none (.t 12), none⟩,
      ⟨(some 14), .call (.k (.fn 26 [])) [(.t 13)], none⟩,
      ⟨none, .st 6 (.t 6) (.t 14), none⟩,
      ⟨(some 7), .mv (.k (.d (.int .i64 0))), none⟩])
    .ret)
    (.seq (.rg [⟨(some 16), .bin .eql (.t 9) (.k (.d (.int .i64 3))), none⟩,
      ⟨(some 15), .mv (.t 16), none⟩])
    (.cond (.t 15)
      (.seq (.rg [⟨(some 17), .fad (.t 3) 2, none⟩,
        ⟨(some 18), .ld (some 2) (.t 17), none⟩,
        ⟨(some 19), .call (.k (.fn 27 [])) [(.t 18)], none⟩,
        ⟨none, .st 6 (.t 6) (.t 19), none⟩,
        ⟨(some 7), .mv (.k (.d (.int .i64 0))), none⟩])
      .ret)
      (.seq (.rg [⟨(some 21), .bin .eql (.t 9) (.k (.d (.int .i64 4))), none⟩,
        ⟨(some 20), .mv (.t 21), none⟩])
      (.cond (.t 20)
        (.seq (.rg [⟨(some 22), .fad (.t 3) 4, none⟩,
          ⟨(some 23), .ld none (.t 22), none⟩,
          ⟨(some 24), .build [.int .i64 0, .bool false, .int .i64 0, .int .i64 0, .str [], .sl []] [(0, 1, (.k (.d (.int .i64 3)))), (4, 1, (.t 23))], none⟩,
          ⟨none, .st 6 (.t 6) (.t 24), none⟩,
          ⟨(some 7), .mv (.k (.d (.int .i64 0))), none⟩])
        .ret)
        (.seq (.rg [⟨(some 26), .bin .eql (.t 9) (.k (.d (.int .i64 5))), none⟩,
          ⟨(some 25), .mv (.t 26), none⟩])
        (.cond (.t 25)
          (.seq (.rg [⟨(some 27), .fad (.t 3) 4, none⟩,
            ⟨(some 28), .ld none (.t 27), none⟩,
            ⟨(some 29), .mv (.t 2), none⟩,
            ⟨(some 30), .call (.k (.fn 28 [])) [(.t 28), (.t 29)], none⟩,
            ⟨none, .st 6 (.t 6) (.t 30), none⟩,
            ⟨(some 7), .mv (.k (.d (.int .i64 0))), none⟩])
          .ret)
          (.seq (.rg [⟨(some 32), .bin .eql (.t 9) (.k (.d (.int .i64 6))), none⟩,
            ⟨(some 31), .mv (.t 32), none⟩])
          (.cond (.t 31)
            (.seq (.rd [⟨(some 33), .fad (.t 3) 4, none⟩,
              ⟨(some 34), .ld none (.t 33), none⟩,
              ⟨(some 35), .mv (.t 1), none⟩,
              ⟨(some 36), .iad 6 (.t 35) (.k (.d (.int .i64 0))), none⟩,
              ⟨(some 37), .ld (some 6) (.t 36), none⟩,
              ⟨(some 38), .mv (.t 1), none⟩,
              ⟨(some 39), .iad 6 (.t 38) (.k (.d (.int .i64 1))), none⟩,
              ⟨(some 40), .ld (some 6) (.t 39), none⟩,
              ⟨(some 41), .call (.k (.fn 29 [])) [(.t 34), (.t 37), (.t 40)], none⟩,
              ⟨(some 42), .ext (.t 41) 0, none⟩,
              ⟨(some 43), .ext (.t 41) 1, none⟩,
              ⟨none, .st 6 (.t 6) (.t 42), none⟩,
              ⟨(some 7), .mv (.t 43), none⟩] [])
            .ret)
            (.seq (.rg [⟨(some 45), .bin .eql (.t 9) (.k (.d (.int .i64 7))), none⟩,
              ⟨(some 44), .mv (.t 45), none⟩])
            (.cond (.t 44)
              (.seq (.rd [⟨(some 46), .call (.k (.fn 30 [])) [(.k (.d (.int .i64 0)))], none⟩,
                ⟨(some 47), .mv (.t 1), none⟩,
                ⟨(some 48), .iad 6 (.t 47) (.k (.d (.int .i64 0))), none⟩,
                ⟨(some 49), .ld (some 6) (.t 48), none⟩,
                ⟨(some 50), .call (.k (.fn 29 [])) [(.k (.d (.str [45]))), (.t 46), (.t 49)], none⟩,
                ⟨(some 51), .ext (.t 50) 0, none⟩,
                ⟨(some 52), .ext (.t 50) 1, none⟩,
                ⟨none, .st 6 (.t 6) (.t 51), none⟩,
                ⟨(some 7), .mv (.t 52), none⟩] [(0, 3)])
              .ret)
              (.seq (.rg [⟨(some 54), .bin .eql (.t 9) (.k (.d (.int .i64 9))), none⟩,
                ⟨(some 53), .mv (.t 54), none⟩])
              (.cond (.t 53)
                (.seq (.rg [⟨(some 55), .mv (.t 1), none⟩,
                  ⟨(some 56), .call (.k (.fn 31 [])) [(.t 55)], none⟩,
                  ⟨(some 57), .ext (.t 56) 0, none⟩,
                  ⟨(some 58), .ext (.t 56) 1, none⟩,
                  ⟨none, .st 6 (.t 6) (.t 57), none⟩,
                  ⟨(some 7), .mv (.t 58), none⟩])
                .ret)
                (.seq (.rg [⟨(some 60), .bin .eql (.t 9) (.k (.d (.int .i64 11))), none⟩,
                  ⟨(some 59), .mv (.t 60), none⟩])
                (.cond (.t 59)
                  (.seq (.rg [⟨(some 61), .ld (some 8) (.t 3), none⟩,
                    ⟨(some 62), .mv (.t 1), none⟩,
                    ⟨(some 63), .call (.k (.fn 32 [])) [(.t 61), (.t 62)], none⟩,
                    ⟨none, .st 6 (.t 6) (.t 63), none⟩,
                    ⟨(some 7), .mv (.k (.d (.int .i64 0))), none⟩])
                  .ret)
                  (.seq (.rg [⟨(some 65), .bin .eql (.t 9) (.k (.d (.int .i64 10))), none⟩,
                    ⟨(some 64), .mv (.t 65), none⟩])
                  (.cond (.t 64)
                    (.seq (.rg [⟨(some 66), .fad (.t 3) 4, none⟩,
                      ⟨(some 67), .ld none (.t 66), none⟩,
                      ⟨(some 68), .mv (.t 1), none⟩,
                      ⟨(some 69), .call (.k (.fn 33 [])) [(.t 67), (.t 68)], none⟩,
                      ⟨(some 70), .ext (.t 69) 0, none⟩,
                      ⟨(some 71), .ext (.t 69) 1, none⟩,
                      ⟨none, .st 6 (.t 6) (.t 70), none⟩,
                      ⟨(some 7), .mv (.t 71), none⟩])
                    .ret)
                    .skip))))))))))))))))))))
(.seq (.rg [⟨(some 72), .build [.int .i64 0, .bool false, .int .i64 0, .int .i64 0, .str [], .sl []] [], none⟩,
  ⟨none, .st 6 (.t 6) (.t 72), none⟩,
  ⟨(some 7), .mv (.k (.d (.int .i64 0))), none⟩])
.ret))) }
theorem af19_ok : cFun Try.prog eqT Try.f19 = some af19 := by kernel_rfl
/-- dossier/dossierref2.is -/
noncomputable def af20 : AFun := { np := 2, nt := 86, res := [.t 4], code :=
(.seq (.rg [⟨(some 2), .box (.t 0), none⟩,
  ⟨(some 4), .mv (.k (.d (.bool false))), none⟩])
(.seq (.seq (.rg [⟨(some 6), .fad (.t 2) 0, none⟩,
  ⟨(some 7), .ld none (.t 6), none⟩,
  ⟨(some 8), .bin .neq (.t 7) (.k (.d (.int .i64 1))), none⟩,
  ⟨(some 9), .mv (.t 8), none⟩,
  ⟨(some 10), .fad (.t 2) 1, some (9, true)⟩,
  ⟨(some 11), .ld none (.t 10), some (9, true)⟩,
  ⟨(some 12), .pick (.t 9) (.t 11) (.k (.d (.bool false))), none⟩,
  ⟨(some 13), .mv (.t 12), none⟩,
  ⟨(some 14), .fad (.t 2) 0, some (13, false)⟩,
  ⟨(some 15), .ld none (.t 14), some (13, false)⟩,
  ⟨(some 16), .bin .neq (.t 15) (.k (.d (.int .i64 2))), some (13, false)⟩,
  ⟨(some 17), .mv (.t 16), some (13, false)⟩,
  ⟨(some 18), .fad (.t 2) 2, some (17, true)⟩,
  ⟨(some 19), .ld (some 2) (.t 18), some (17, true)⟩,
  ⟨(some 20), .build [.int .i64 0, .int .i64 0] [], some (17, true)⟩,
  ⟨(some 21), .eqs 2 true (.t 19) (.t 20), some (17, true)⟩,
  ⟨(some 22), .pick (.t 17) (.t 21) (.k (.d (.bool false))), some (13, false)⟩,
  ⟨(some 23), .pick (.t 13) (.k (.d (.bool true))) (.t 22), none⟩,
  ⟨(some 24), .mv (.t 23), none⟩,
  ⟨(some 25), .fad (.t 2) 0, some (24, false)⟩,
  ⟨(some 26), .ld none (.t 25), some (24, false)⟩,
  ⟨(some 27), .bin .neq (.t 26) (.k (.d (.int .i64 3))), some (24, false)⟩,
  ⟨(some 28), .mv (.t 27), some (24, false)⟩,
  ⟨(some 29), .fad (.t 2) 4, some (28, true)⟩,
  ⟨(some 30), .ld none (.t 29), some (28, true)⟩,
  ⟨(some 31), .bin .neq (.t 30) (.k (.d (.str []))), some (28, true)⟩,
  ⟨(some 32), .pick (.t 28) (.t 31) (.k (.d (.bool false))), some (24, false)⟩,
  ⟨(some 33), .pick (.t 24) (.k (.d (.bool true))) (.t 32), none⟩,
  ⟨(some 34), .mv (.t 33), none⟩,
  ⟨(some 35), .fad (.t 2) 0, some (34, false)⟩,
  ⟨(some 36), .ld none (.t 35), some (34, false)⟩,
  ⟨(some 37), .bin .neq (.t 36) (.k (.d (.int .i64 4))), some (34, false)⟩,
  ⟨(some 38), .mv (.t 37), some (34, false)⟩,
  ⟨(some 39), .fad (.t 2) 5, some (38, true)⟩,
  ⟨(some 40), .ld none (.t 39), some (38, true)⟩,
  ⟨(some 41), .lenq false (.t 40), some (38, true)⟩,
  ⟨(some 42), .bin .gtr (.t 41) (.k (.d (.int .i64 0))), some (38, true)⟩,
  ⟨(some 43), .pick (.t 38) (.t 42) (.k (.d (.bool false))), some (34, false)⟩,
  ⟨(some 44), .pick (.t 34) (.k (.d (.bool true))) (.t 43), none⟩])
(.cond (.t 44)
  (.seq (.rg [⟨(some 4), .mv (.k (.d (.bool false))), none⟩])
  .ret)
  .skip))
(.seq (.seq (.rg [⟨(some 45), .fad (.t 2) 0, none⟩,
  ⟨(some 46), .ld none (.t 45), none⟩])
(.block 0
  (.seq (.seq (.rg [⟨(some 48), .bin .eql (.t 46) (.k (.d (.int .i64 0))), none⟩,
    ⟨(some 47), .mv (.t 48), none⟩])
  (.cond (.t 47)
    .skip
    (.rg [⟨(some 49), .bin .eql (.t 46) (.k (.d (.int .i64 1))), none⟩,
      ⟨(some 47), .mv (.t 49), none⟩])))
  (.cond (.t 47)
    (.seq (.rg [⟨(some 4), .mv (.k (.d (.bool true))), none⟩])
    .ret)
    (.seq (.rg [⟨(some 51), .bin .eql (.t 46) (.k (.d (.int .i64 2))), none⟩,
      ⟨(some 50), .mv (.t 51), none⟩])
    (.cond (.t 50)
      (.seq (.rg [⟨(some 52), .fad (.t 2) 2, none⟩,
        ⟨(some 53), .ld (some 2) (.t 52), none⟩,
        ⟨(some 54), .call (.k (.fn 34 [])) [(.t 53)], none⟩,
        ⟨(some 4), .mv (.t 54), none⟩])
      .ret)
      (.seq (.rg [⟨(some 56), .bin .eql (.t 46) (.k (.d (.int .i64 3))), none⟩,
        ⟨(some 55), .mv (.t 56), none⟩])
      (.cond (.t 55)
        (.seq (.rg [⟨(some 57), .fad (.t 2) 4, none⟩,
          ⟨(some 58), .ld none (.t 57), none⟩,
          ⟨(some 59), .call (.k (.fn 35 [])) [(.t 58)], none⟩,
          ⟨(some 4), .mv (.t 59), none⟩])
        .ret)
        (.seq (.rg [⟨(some 61), .bin .eql (.t 46) (.k (.d (.int .i64 4))), none⟩,
          ⟨(some 60), .mv (.t 61), none⟩])
        (.cond (.t 60)
          (.seq (.seq (.rg [⟨(some 62), .mv (.t 1), none⟩,
            ⟨(some 63), .bin .geq (.t 62) (.k (.d (.int .i64 2))), none⟩,
            ⟨(some 64), .mv (.t 63), none⟩,
            ⟨(some 65), .fad (.t 2) 5, some (64, false)⟩,
            ⟨(some 66), .ld none (.t 65), some (64, false)⟩,
            ⟨(some 67), .lenq false (.t 66), some (64, false)⟩,
            ⟨(some 68), .bin .gtr (.t 67) (.k (.d (.int .i64 8))), some (64, false)⟩,
            ⟨(some 69), .pick (.t 64) (.k (.d (.bool true))) (.t 68), none⟩])
          (.cond (.t 69)
            (.seq (.rg [⟨(some 4), .mv (.k (.d (.bool false))), none⟩])
            .ret)
            .skip))
          (.seq (.seq (.rg [⟨(some 5), .mv (.k (.d (.int .i64 0))), none⟩])
          (.block 1
            (.loop
              (.seq (.seq (.rg [⟨(some 70), .mv (.t 5), none⟩,
                ⟨(some 71), .fad (.t 2) 5, none⟩,
                ⟨(some 72), .ld none (.t 71), none⟩,
                ⟨(some 73), .lenq false (.t 72), none⟩,
                ⟨(some 74), .bin .lss (.t 70) (.t 73), none⟩])
              (.cond (.t 74)
                .skip
                (.exit 1)))
              (.seq (.block 2
                (.seq (.rg [⟨(some 77), .fad (.t 2) 5, none⟩,
                  ⟨(some 78), .ld none (.t 77), none⟩,
                  ⟨(some 79), .mv (.t 5), none⟩,
                  ⟨(some 80), .iad 6 (.t 78) (.t 79), none⟩,
                  ⟨(some 81), .ld (some 6) (.t 80), none⟩,
                  ⟨(some 82), .mv (.t 1), none⟩,
                  ⟨(some 83), .bin .add (.t 82) (.k (.d (.int .i64 1))), none⟩,
                  ⟨(some 84), .call (.k (.fn 20 [])) [(.t 81), (.t 83)], none⟩,
                  ⟨(some 85), .un .not (.t 84), none⟩])
                (.cond (.t 85)
                  (.seq (.rg [⟨(some 4), .mv (.k (.d (.bool false))), none⟩])
                  .ret)
                  .skip)))
              (.rg [⟨(some 75), .mv (.t 5), none⟩,
                ⟨(some 76), .bin .add (.t 75) (.k (.d (.int .i64 1))), none⟩,
                ⟨(some 5), .mv (.t 76), none⟩]))))))
          (.seq (.rg [⟨(some 4), .mv (.k (.d (.bool true))), none⟩])
          .ret)))
          .skip))))))))))
(.seq (.rg [⟨(some 4), .mv (.k (.d (.bool false))), none⟩])
.ret)))) }
theorem af20_ok : cFun Try.prog eqT Try.f20 = some af20 := by kernel_rfl
/-- dossier/dossierref3.Lex -/
noncomputable def af21 : AFun := { np := 1, nt := 49, res := [.t 2, .t 3, .t 4], code :=
(.seq (.rg [⟨(some 2), .mv (.k (.nils)), none⟩,
  ⟨(some 3), .mv (.k (.d (.int .i64 0))), none⟩,
  ⟨(some 4), .mv (.k (.d (.int .i64 0))), none⟩])
(.seq (.seq (.rg [⟨(some 10), .mv (.t 0), none⟩,
  ⟨(some 11), .lenq true (.t 10), none⟩,
  ⟨(some 12), .bin .gtr (.t 11) (.k (.d (.int .i64 200))), none⟩])
(.cond (.t 12)
  (.seq (.rg [⟨(some 2), .mv (.k (.nils)), none⟩,
    ⟨(some 3), .mv (.k (.d (.int .i64 0))), none⟩,
    ⟨(some 4), .mv (.k (.d (.int .i64 13))), none⟩])
  .ret)
  .skip))
(.seq (.rg [⟨(some 5), .mv (.k (.nils)), none⟩])
(.seq (.rg [⟨(some 6), .mv (.k (.d (.int .i64 0))), none⟩])
(.seq (.block 0
  (.loop
    (.seq (.seq (.rg [⟨(some 13), .mv (.t 6), none⟩,
      ⟨(some 14), .mv (.t 0), none⟩,
      ⟨(some 15), .lenq true (.t 14), none⟩,
      ⟨(some 16), .bin .lss (.t 13) (.t 15), none⟩])
    (.cond (.t 16)
      .skip
      (.exit 0)))
    (.block 1
      (.seq (.seq (.rg [⟨(some 17), .mv (.t 0), none⟩,
        ⟨(some 18), .mv (.t 6), none⟩,
        ⟨(some 19), .ixs (.t 17) (.t 18), none⟩,
        ⟨(some 20), .bin .eql (.t 19) (.k (.d (.int .u8 32))), none⟩])
      (.cond (.t 20)
        (.seq (.rg [⟨(some 21), .mv (.t 6), none⟩,
          ⟨(some 22), .bin .add (.t 21) (.k (.d (.int .i64 1))), none⟩,
          ⟨(some 6), .mv (.t 22), none⟩])
        (.exit 1))
        .skip))
      (.seq (.rg [⟨(some 24), .mv (.t 0), none⟩,
        ⟨(some 25), .mv (.t 6), none⟩,
        ⟨(some 26), .call (.k (.fn 36 [])) [(.t 24), (.t 25)], none⟩,
        ⟨(some 23), .mv (.t 26), none⟩,
        ⟨(some 27), .ext (.t 23) 0, none⟩,
        ⟨(some 28), .ext (.t 23) 1, none⟩,
        ⟨(some 29), .ext (.t 23) 2, none⟩,
        ⟨(some 7), .new [.d (.int .i64 0), .d (.str []), .d (.int .i64 0)], none⟩,
        ⟨none, .st 3 (.t 7) (.t 27), none⟩,
        ⟨(some 8), .mv (.t 28), none⟩,
        ⟨(some 9), .mv (.t 29), none⟩])
      (.seq (.seq (.rg [⟨(some 30), .mv (.t 5), none⟩,
        ⟨(some 31), .lenq false (.t 30), none⟩,
        ⟨(some 32), .bin .geq (.t 31) (.k (.d (.int .i64 60))), none⟩,
        ⟨(some 33), .mv (.t 32), none⟩,
        ⟨(some 34), .mv (.t 9), some (33, true)⟩,
        ⟨(some 35), .bin .eql (.t 34) (.k (.d (.int .i64 0))), some (33, true)⟩,
        ⟨(some 36), .pick (.t 33) (.t 35) (.k (.d (.bool false))), none⟩])
      (.cond (.t 36)
        (.rg [⟨(some 9), .mv (.k (.d (.int .i64 13))), none⟩])
        .skip))
      (.seq (.seq (.rg [⟨(some 37), .mv (.t 9), none⟩,
        ⟨(some 38), .bin .neq (.t 37) (.k (.d (.int .i64 0))), none⟩])
      (.cond (.t 38)
        (.seq (.rg [⟨(some 39), .mv (.t 6), none⟩,
          ⟨(some 40), .mv (.t 9), none⟩,
          ⟨(some 2), .mv (.k (.nils)), none⟩,
          ⟨(some 3), .mv (.t 39), none⟩,
          ⟨(some 4), .mv (.t 40), none⟩])
        .ret)
        .skip))
      (.seq (.rg [⟨(some 41), .mv (.t 5), none⟩,
        ⟨(some 42), .ld (some 3) (.t 7), none⟩,
        ⟨(some 43), .mkrow 59 3 [(.t 42)], none⟩,
        ⟨(some 44), .app 59 3 32 (.t 41) (.t 43), none⟩,
        ⟨(some 5), .mv (.t 44), none⟩])
      (.rg [⟨(some 45), .mv (.t 8), none⟩,
        ⟨(some 6), .mv (.t 45), none⟩]))))))))))
(.seq (.rg [⟨(some 46), .mv (.t 5), none⟩,
  ⟨(some 47), .mv (.t 0), none⟩,
  ⟨(some 48), .lenq true (.t 47), none⟩,
  ⟨(some 2), .mv (.t 46), none⟩,
  ⟨(some 3), .mv (.t 48), none⟩,
  ⟨(some 4), .mv (.k (.d (.int .i64 0))), none⟩])
.ret)))))) }
theorem af21_ok : cFun Try.prog eqT Try.f21 = some af21 := by kernel_rfl
/-- dossier/dossierref4.Take -/
noncomputable def af22 : AFun := { np := 3, nt := 39, res := [.c 6 (some 8), .t 7, .t 8, .t 9], code :=
(.seq (.rg [⟨(some 6), .new [.d (.int .i64 0), .d (.bool false), .d (.int .i64 0), .d (.int .i64 0), .d (.str []), .d (.bool false), .d (.bool false), .nils], none⟩,
  ⟨(some 7), .mv (.k (.d (.int .i64 0))), none⟩,
  ⟨(some 8), .mv (.k (.d (.int .i64 0))), none⟩,
  ⟨(some 9), .mv (.k (.d (.int .i64 0))), none⟩])
(.seq (.rg [⟨(some 12), .mv (.t 0), none⟩,
  ⟨(some 13), .mv (.t 1), none⟩,
  ⟨(some 14), .mv (.t 2), none⟩,
  ⟨(some 15), .build [.sl [], .int .i64 0, .int .i64 0, .int .i64 0, .int .i64 0] [(0, 1, (.t 12)), (1, 1, (.t 13)), (2, 1, (.t 14))], none⟩,
  ⟨(some 16), .box (.t 15), none⟩,
  ⟨(some 10), .mv (.t 16), none⟩])
(.seq (.rg [⟨(some 17), .mv (.t 10), none⟩,
  ⟨(some 18), .call (.k (.fn 37 [])) [(.t 17), (.k (.d (.int .i64 0)))], none⟩,
  ⟨(some 11), .new [.d (.int .i64 0), .d (.bool false), .d (.int .i64 0), .d (.int .i64 0), .d (.str []), .d (.bool false), .d (.bool false), .nils], none⟩,
  ⟨none, .st 8 (.t 11) (.t 18), none⟩])
(.seq (.seq (.rg [⟨(some 19), .mv (.t 10), none⟩,
  ⟨(some 20), .nilck (.t 19), none⟩,
  ⟨(some 21), .fad (.t 20) 3, none⟩,
  ⟨(some 22), .ld none (.t 21), none⟩,
  ⟨(some 23), .bin .neq (.t 22) (.k (.d (.int .i64 0))), none⟩])
(.cond (.t 23)
  (.seq (.rd [⟨(some 24), .build [.int .i64 0, .bool false, .int .i64 0, .int .i64 0, .str [], .bool false, .bool false, .sl []] [], none⟩,
    ⟨(some 25), .mv (.t 1), none⟩,
    ⟨(some 26), .mv (.t 10), none⟩,
    ⟨(some 27), .nilck (.t 26), none⟩,
    ⟨(some 28), .fad (.t 27) 4, none⟩,
    ⟨(some 29), .ld none (.t 28), none⟩,
    ⟨(some 30), .mv (.t 10), none⟩,
    ⟨(some 31), .nilck (.t 30), none⟩,
    ⟨(some 32), .fad (.t 31) 3, none⟩,
    ⟨(some 33), .ld none (.t 32), none⟩,
    ⟨none, .st 8 (.t 6) (.t 24), none⟩,
    ⟨(some 7), .mv (.t 25), none⟩,
    ⟨(some 8), .mv (.t 29), none⟩,
    ⟨(some 9), .mv (.t 33), none⟩] [(5, 10), (9, 10)])
  .ret)
  .skip))
(.seq (.rd [⟨(some 34), .ld (some 8) (.t 11), none⟩,
  ⟨(some 35), .mv (.t 10), none⟩,
  ⟨(some 36), .nilck (.t 35), none⟩,
  ⟨(some 37), .fad (.t 36) 1, none⟩,
  ⟨(some 38), .ld none (.t 37), none⟩,
  ⟨none, .st 8 (.t 6) (.t 34), none⟩,
  ⟨(some 7), .mv (.t 38), none⟩,
  ⟨(some 8), .mv (.k (.d (.int .i64 0))), none⟩,
  ⟨(some 9), .mv (.k (.d (.int .i64 0))), none⟩] [(4, 5)])
.ret))))) }
theorem af22_ok : cFun Try.prog eqT Try.f22 = some af22 := by kernel_rfl
/-- dossier/dec.Is -/
noncomputable def af23 : AFun := { np := 1, nt := 32, res := [.t 2], code :=
(.seq (.rg [⟨(some 1), .box (.t 0), none⟩,
  ⟨(some 2), .mv (.k (.d (.bool false))), none⟩])
(.seq (.rg [⟨(some 3), .fad (.t 1) 0, none⟩,
  ⟨(some 4), .ld none (.t 3), none⟩,
  ⟨(some 5), .bin .geq (.t 4) (.k (.d (.int .i64 (-1000000000)))), none⟩,
  ⟨(some 6), .mv (.t 5), none⟩,
  ⟨(some 7), .fad (.t 1) 0, some (6, true)⟩,
  ⟨(some 8), .ld none (.t 7), some (6, true)⟩,
  ⟨(some 9), .bin .leq (.t 8) (.k (.d (.int .i64 1000000000))), some (6, true)⟩,
  ⟨(some 10), .pick (.t 6) (.t 9) (.k (.d (.bool false))), none⟩,
  ⟨(some 11), .mv (.t 10), none⟩,
  ⟨(some 12), .fad (.t 1) 1, some (11, true)⟩,
  ⟨(some 13), .ld none (.t 12), some (11, true)⟩,
  ⟨(some 14), .bin .geq (.t 13) (.k (.d (.int .i64 0))), some (11, true)⟩,
  ⟨(some 15), .pick (.t 11) (.t 14) (.k (.d (.bool false))), none⟩,
  ⟨(some 16), .mv (.t 15), none⟩,
  ⟨(some 17), .fad (.t 1) 1, some (16, true)⟩,
  ⟨(some 18), .ld none (.t 17), some (16, true)⟩,
  ⟨(some 19), .bin .leq (.t 18) (.k (.d (.int .i64 4))), some (16, true)⟩,
  ⟨(some 20), .pick (.t 16) (.t 19) (.k (.d (.bool false))), none⟩,
  ⟨(some 21), .mv (.t 20), none⟩,
  ⟨(some 22), .fad (.t 1) 1, some (21, true)⟩,
  ⟨(some 23), .ld none (.t 22), some (21, true)⟩,
  ⟨(some 24), .bin .eql (.t 23) (.k (.d (.int .i64 0))), some (21, true)⟩,
  ⟨(some 25), .mv (.t 24), some (21, true)⟩,
  ⟨(some 26), .fad (.t 1) 0, some (25, false)⟩,
  ⟨(some 27), .ld none (.t 26), some (25, false)⟩,
  ⟨(some 28), .bin .rem (.t 27) (.k (.d (.int .i64 10))), some (25, false)⟩,
  ⟨(some 29), .bin .neq (.t 28) (.k (.d (.int .i64 0))), some (25, false)⟩,
  ⟨(some 30), .pick (.t 25) (.k (.d (.bool true))) (.t 29), some (21, true)⟩,
  ⟨(some 31), .pick (.t 21) (.t 30) (.k (.d (.bool false))), none⟩,
  ⟨(some 2), .mv (.t 31), none⟩])
.ret)) }
theorem af23_ok : cFun Try.prog eqT Try.f23 = some af23 := by kernel_rfl
/-- dossier/val.Is -/
noncomputable def af24 : AFun := { np := 1, nt := 5, res := [.t 2], code :=
(.seq (.rg [⟨(some 1), .box (.t 0), none⟩,
  ⟨(some 2), .mv (.k (.d (.bool false))), none⟩])
(.seq (.rg [⟨(some 3), .ld (some 6) (.t 1), none⟩,
  ⟨(some 4), .call (.k (.fn 38 [])) [(.t 3), (.k (.d (.int .i64 0)))], none⟩,
  ⟨(some 2), .mv (.t 4), none⟩])
.ret)) }
theorem af24_ok : cFun Try.prog eqT Try.f24 = some af24 := by kernel_rfl
/-- dossier/val.Truth -/
noncomputable def af25 : AFun := { np := 1, nt := 10, res := [.t 2], code :=
(.seq (.rg [⟨(some 1), .box (.t 0), none⟩,
  ⟨(some 2), .mv (.k (.d (.bool false))), none⟩])
(.seq (.rg [⟨(some 3), .fad (.t 1) 0, none⟩,
  ⟨(some 4), .ld none (.t 3), none⟩,
  ⟨(some 5), .bin .eql (.t 4) (.k (.d (.int .i64 1))), none⟩,
  ⟨(some 6), .mv (.t 5), none⟩,
  ⟨(some 7), .fad (.t 1) 1, some (6, true)⟩,
  ⟨(some 8), .ld none (.t 7), some (6, true)⟩,
  ⟨(some 9), .pick (.t 6) (.t 8) (.k (.d (.bool false))), none⟩,
  ⟨(some 2), .mv (.t 9), none⟩])
.ret)) }
theorem af25_ok : cFun Try.prog eqT Try.f25 = some af25 := by kernel_rfl
/-- dossier/eval.truth -/
noncomputable def af26 : AFun := { np := 1, nt := 5, res := [.c 2 (some 6)], code :=
(.seq (.rg [⟨(some 2), .new [.d (.int .i64 0), .d (.bool false), .d (.int .i64 0), .d (.int .i64 0), .d (.str []), .nils], none⟩])
(.seq (.rg [⟨(some 3), .mv (.t 0), none⟩,
  ⟨(some 4), .build [.int .i64 0, .bool false, .int .i64 0, .int .i64 0, .str [], .sl []] [(0, 1, (.k (.d (.int .i64 1)))), (1, 1, (.t 3))], none⟩,
  ⟨none, .st 6 (.t 2) (.t 4), none⟩])
.ret)) }
theorem af26_ok : cFun Try.prog eqT Try.f26 = some af26 := by kernel_rfl
/-- dossier/eval.num -/
noncomputable def af27 : AFun := { np := 1, nt := 5, res := [.c 2 (some 6)], code :=
(.seq (.rg [⟨(some 1), .box (.t 0), none⟩,
  ⟨(some 2), .new [.d (.int .i64 0), .d (.bool false), .d (.int .i64 0), .d (.int .i64 0), .d (.str []), .nils], none⟩])
(.seq (.rg [⟨(some 3), .ld (some 2) (.t 1), none⟩,
  ⟨(some 4), .build [.int .i64 0, .bool false, .int .i64 0, .int .i64 0, .str [], .sl []] [(0, 1, (.k (.d (.int .i64 2)))), (2, 2, (.t 3))], none⟩,
  ⟨none, .st 6 (.t 2) (.t 4), none⟩])
.ret)) }
theorem af27_ok : cFun Try.prog eqT Try.f27 = some af27 := by kernel_rfl
/-- dossier/eval.named -/
noncomputable def af28 : AFun := { np := 2, nt := 22, res := [.c 4 (some 6)], code :=
(.seq (.rg [⟨(some 4), .new [.d (.int .i64 0), .d (.bool false), .d (.int .i64 0), .d (.int .i64 0), .d (.str []), .nils], none⟩])
(.seq (.seq (.rg [⟨(some 7), .mv (.t 1), none⟩,
  ⟨(some 8), .lenq false (.t 7), none⟩,
  ⟨(some 9), .mv (.k (.d (.int .i64 0))), none⟩])
(.block 0
  (.loop
    (.seq (.rg [⟨(some 10), .bin .lss (.t 9) (.t 8), none⟩])
    (.seq (.cond (.t 10)
      .skip
      (.exit 0))
    (.seq (.block 1
      (.seq (.rg [⟨(some 11), .iad 7 (.t 7) (.t 9), none⟩,
        ⟨(some 12), .ld (some 7) (.t 11), none⟩,
        ⟨(some 6), .new [.d (.str []), .d (.int .i64 0), .d (.bool false), .d (.int .i64 0), .d (.int .i64 0), .d (.str []), .nils], none⟩,
        ⟨none, .st 7 (.t 6) (.t 12), none⟩])
      (.seq (.rg [⟨(some 13), .fad (.t 6) 0, none⟩,
        ⟨(some 14), .ld none (.t 13), none⟩,
        ⟨(some 15), .mv (.t 0), none⟩,
        ⟨(some 16), .bin .eql (.t 14) (.t 15), none⟩])
      (.cond (.t 16)
        (.seq (.rg [⟨(some 17), .fad (.t 6) 1, none⟩,
          ⟨(some 18), .ld (some 6) (.t 17), none⟩,
          ⟨(some 19), .call (.k (.fn 39 [])) [(.t 18)], none⟩,
          ⟨none, .st 6 (.t 4) (.t 19), none⟩])
        .ret)
        .skip))))
    (.rg [⟨(some 20), .bin .add (.t 9) (.k (.d (.int .i64 1))), none⟩,
      ⟨(some 9), .mv (.t 20), none⟩])))))))
(.seq (.rg [⟨(some 21), .build [.int .i64 0, .bool false, .int .i64 0, .int .i64 0, .str [], .sl []] [], none⟩,
  ⟨none, .st 6 (.t 4) (.t 21), none⟩])
.ret))) }
theorem af28_ok : cFun Try.prog eqT Try.f28 = some af28 := by kernel_rfl
/-- dossier/eval.bin -/
noncomputable def af29 : AFun := { np := 3, nt := 69, res := [.c 6 (some 6), .t 7], code :=
(.seq (.rg [⟨(some 4), .box (.t 1), none⟩,
  ⟨(some 5), .box (.t 2), none⟩,
  ⟨(some 6), .new [.d (.int .i64 0), .d (.bool false), .d (.int .i64 0), .d (.int .i64 0), .d (.str []), .nils], none⟩,
  ⟨(some 7), .mv (.k (.d (.int .i64 0))), none⟩])
(.seq (.rg [⟨(some 9), .ld (some 6) (.t 4), none⟩,
  ⟨(some 10), .ld (some 6) (.t 5), none⟩,
  ⟨(some 11), .mkrow 26 6 [(.t 9), (.t 10)], none⟩,
  ⟨(some 12), .call (.k (.fn 40 [])) [(.k (.d (.int .i64 2))), (.t 11)], none⟩,
  ⟨(some 8), .mv (.t 12), none⟩])
(.seq (.seq (.rg [⟨(some 13), .mv (.t 0), none⟩])
(.block 0
  (.seq (.rg [⟨(some 15), .bin .eql (.t 13) (.k (.d (.str [97, 110, 100]))), none⟩,
    ⟨(some 14), .mv (.t 15), none⟩])
  (.cond (.t 14)
    (.seq (.rg [⟨(some 16), .ld (some 6) (.t 4), none⟩,
      ⟨(some 17), .ld (some 6) (.t 5), none⟩,
      ⟨(some 18), .call (.k (.fn 41 [])) [(.t 16), (.t 17)], none⟩,
      ⟨none, .st 6 (.t 6) (.t 18), none⟩,
      ⟨(some 7), .mv (.k (.d (.int .i64 0))), none⟩])
    .ret)
    (.seq (.rg [⟨(some 20), .bin .eql (.t 13) (.k (.d (.str [111, 114]))), none⟩,
      ⟨(some 19), .mv (.t 20), none⟩])
    (.cond (.t 19)
      (.seq (.rg [⟨(some 21), .ld (some 6) (.t 4), none⟩,
        ⟨(some 22), .ld (some 6) (.t 5), none⟩,
        ⟨(some 23), .call (.k (.fn 42 [])) [(.t 21), (.t 22)], none⟩,
        ⟨none, .st 6 (.t 6) (.t 23), none⟩,
        ⟨(some 7), .mv (.k (.d (.int .i64 0))), none⟩])
      .ret)
      (.seq (.rg [⟨(some 25), .bin .eql (.t 13) (.k (.d (.str [43]))), none⟩,
        ⟨(some 24), .mv (.t 25), none⟩])
      (.cond (.t 24)
        (.seq (.block 1
          (.seq (.rg [⟨(some 27), .mv (.t 8), none⟩,
            ⟨(some 26), .mv (.t 27), none⟩])
          (.cond (.t 26)
            (.seq (.rg [⟨(some 28), .fad (.t 4) 2, none⟩,
              ⟨(some 29), .ld (some 2) (.t 28), none⟩,
              ⟨(some 30), .fad (.t 5) 2, none⟩,
              ⟨(some 31), .ld (some 2) (.t 30), none⟩,
              ⟨(some 32), .call (.k (.fn 44 [])) [(.t 29), (.t 31)], none⟩,
              ⟨(some 33), .ext (.t 32) 0, none⟩,
              ⟨(some 34), .ext (.t 32) 1, none⟩,
              ⟨(some 35), .call (.k (.fn 43 [])) [(.t 33), (.t 34)], none⟩,
              ⟨(some 36), .ext (.t 35) 0, none⟩,
              ⟨(some 37), .ext (.t 35) 1, none⟩,
              ⟨none, .st 6 (.t 6) (.t 36), none⟩,
              ⟨(some 7), .mv (.t 37), none⟩])
            .ret)
            (.seq (.rg [⟨(some 39), .ld (some 6) (.t 4), none⟩,
              ⟨(some 40), .ld (some 6) (.t 5), none⟩,
              ⟨(some 41), .mkrow 26 6 [(.t 39), (.t 40)], none⟩,
              ⟨(some 42), .call (.k (.fn 40 [])) [(.k (.d (.int .i64 3))), (.t 41)], none⟩,
              ⟨(some 38), .mv (.t 42), none⟩])
            (.cond (.t 38)
              (.seq (.rg [⟨(some 43), .ld (some 6) (.t 4), none⟩,
                ⟨(some 44), .ld (some 6) (.t 5), none⟩,
                ⟨(some 45), .mkrow 26 6 [(.t 43), (.t 44)], none⟩,
                ⟨(some 46), .call (.k (.fn 45 [])) [(.t 45)], none⟩,
                ⟨(some 47), .ext (.t 46) 0, none⟩,
                ⟨(some 48), .ext (.t 46) 1, none⟩,
                ⟨none, .st 6 (.t 6) (.t 47), none⟩,
                ⟨(some 7), .mv (.t 48), none⟩])
              .ret)
              .skip)))))
        (.seq (.rg [⟨(some 49), .build [.int .i64 0, .bool false, .int .i64 0, .int .i64 0, .str [], .sl []] [], none⟩,
          ⟨none, .st 6 (.t 6) (.t 49), none⟩,
          ⟨(some 7), .mv (.k (.d (.int .i64 0))), none⟩])
        .ret))
        (.seq (.seq (.rg [⟨(some 51), .bin .eql (.t 13) (.k (.d (.str [45]))), none⟩,
          ⟨(some 50), .mv (.t 51), none⟩])
        (.cond (.t 50)
          .skip
          (.seq (.rg [⟨(some 52), .bin .eql (.t 13) (.k (.d (.str [42]))), none⟩,
            ⟨(some 50), .mv (.t 52), none⟩])
          (.cond (.t 50)
            .skip
            (.rg [⟨(some 53), .bin .eql (.t 13) (.k (.d (.str [47]))), none⟩,
              ⟨(some 50), .mv (.t 53), none⟩])))))
        (.cond (.t 50)
          (.seq (.seq (.rg [⟨(some 54), .mv (.t 8), none⟩,
            ⟨(some 55), .un .not (.t 54), none⟩])
          (.cond (.t 55)
            (.seq (.rg [⟨(some 56), .build [.int .i64 0, .bool false, .int .i64 0, .int .i64 0, .str [], .sl []] [], none⟩,
              ⟨none, .st 6 (.t 6) (.t 56), none⟩,
              ⟨(some 7), .mv (.k (.d (.int .i64 0))), none⟩])
            .ret)
            .skip))
          (.seq (.rg [⟨(some 57), .mv (.t 0), none⟩,
            ⟨(some 58), .fad (.t 4) 2, none⟩,
            ⟨(some 59), .ld (some 2) (.t 58), none⟩,
            ⟨(some 60), .fad (.t 5) 2, none⟩,
            ⟨(some 61), .ld (some 2) (.t 60), none⟩,
            ⟨(some 62), .call (.k (.fn 46 [])) [(.t 57), (.t 59), (.t 61)], none⟩,
            ⟨(some 63), .ext (.t 62) 0, none⟩,
            ⟨(some 64), .ext (.t 62) 1, none⟩,
            ⟨none, .st 6 (.t 6) (.t 63), none⟩,
            ⟨(some 7), .mv (.t 64), none⟩])
          .ret))
          .skip))))))))))
(.seq (.rg [⟨(some 65), .mv (.t 0), none⟩,
  ⟨(some 66), .ld (some 6) (.t 4), none⟩,
  ⟨(some 67), .ld (some 6) (.t 5), none⟩,
  ⟨(some 68), .call (.k (.fn 47 [])) [(.t 65), (.t 66), (.t 67)], none⟩,
  ⟨none, .st 6 (.t 6) (.t 68), none⟩,
  ⟨(some 7), .mv (.k (.d (.int .i64 0))), none⟩])
.ret)))) }
theorem af29_ok : cFun Try.prog eqT Try.f29 = some af29 := by kernel_rfl
/-- dossier/eval.whole -/
noncomputable def af30 : AFun := { np := 1, nt := 6, res := [.c 2 (some 6)], code :=
(.seq (.rg [⟨(some 2), .new [.d (.int .i64 0), .d (.bool false), .d (.int .i64 0), .d (.int .i64 0), .d (.str []), .nils], none⟩])
(.seq (.rg [⟨(some 3), .mv (.t 0), none⟩,
  ⟨(some 4), .build [.int .i64 0, .int .i64 0] [(0, 1, (.t 3))], none⟩,
  ⟨(some 5), .call (.k (.fn 27 [])) [(.t 4)], none⟩,
  ⟨none, .st 6 (.t 2) (.t 5), none⟩])
.ret)) }
theorem af30_ok : cFun Try.prog eqT Try.f30 = some af30 := by kernel_rfl
/-- dossier/eval.list -/
noncomputable def af31 : AFun := { np := 1, nt := 18, res := [.c 2 (some 6), .t 3], code :=
(.seq (.rg [⟨(some 2), .new [.d (.int .i64 0), .d (.bool false), .d (.int .i64 0), .d (.int .i64 0), .d (.str []), .nils], none⟩,
  ⟨(some 3), .mv (.k (.d (.int .i64 0))), none⟩])
(.seq (.rg [⟨(some 5), .mv (.t 0), none⟩,
  ⟨(some 6), .build [.int .i64 0, .bool false, .int .i64 0, .int .i64 0, .str [], .sl []] [(0, 1, (.k (.d (.int .i64 4)))), (5, 1, (.t 5))], none⟩,
  ⟨(some 7), .call (.k (.fn 39 [])) [(.t 6)], none⟩,
  ⟨(some 4), .new [.d (.int .i64 0), .d (.bool false), .d (.int .i64 0), .d (.int .i64 0), .d (.str []), .nils], none⟩,
  ⟨none, .st 6 (.t 4) (.t 7), none⟩])
(.seq (.seq (.rg [⟨(some 8), .mv (.t 0), none⟩,
  ⟨(some 9), .lenq false (.t 8), none⟩,
  ⟨(some 10), .bin .gtr (.t 9) (.k (.d (.int .i64 8))), none⟩,
  ⟨(some 11), .mv (.t 10), none⟩,
  ⟨(some 12), .ld (some 6) (.t 4), some (11, false)⟩,
  ⟨(some 13), .call (.k (.fn 48 [])) [(.t 12)], some (11, false)⟩,
  ⟨(some 14), .bin .gtr (.t 13) (.k (.d (.int .i64 2))), some (11, false)⟩,
  ⟨(some 15), .pick (.t 11) (.k (.d (.bool true))) (.t 14), none⟩])
(.cond (.t 15)
  (.seq (.rg [⟨(some 16), .build [.int .i64 0, .bool false, .int .i64 0, .int .i64 0, .str [], .sl []] [], none⟩,
    ⟨none, .st 6 (.t 2) (.t 16), none⟩,
    ⟨(some 3), .mv (.k (.d (.int .i64 3))), none⟩])
  .ret)
  .skip))
(.seq (.rg [⟨(some 17), .ld (some 6) (.t 4), none⟩,
  ⟨none, .st 6 (.t 2) (.t 17), none⟩,
  ⟨(some 3), .mv (.k (.d (.int .i64 0))), none⟩])
.ret)))) }
theorem af31_ok : cFun Try.prog eqT Try.f31 = some af31 := by kernel_rfl
/-- dossier/eval.within -/
noncomputable def af32 : AFun := { np := 2, nt := 28, res := [.c 4 (some 6)], code :=
(.seq (.rg [⟨(some 2), .box (.t 0), none⟩,
  ⟨(some 4), .new [.d (.int .i64 0), .d (.bool false), .d (.int .i64 0), .d (.int .i64 0), .d (.str []), .nils], none⟩])
(.seq (.rg [⟨(some 5), .mv (.k (.d (.str [62]))), none⟩,
  ⟨(some 6), .mv (.k (.d (.str [60]))), none⟩])
(.seq (.seq (.rg [⟨(some 7), .fad (.t 2) 5, none⟩,
  ⟨(some 8), .ld none (.t 7), none⟩])
(.cond (.t 8)
  (.rg [⟨(some 5), .mv (.k (.d (.str [62, 61]))), none⟩])
  .skip))
(.seq (.seq (.rg [⟨(some 9), .fad (.t 2) 6, none⟩,
  ⟨(some 10), .ld none (.t 9), none⟩])
(.cond (.t 10)
  (.rg [⟨(some 6), .mv (.k (.d (.str [60, 61]))), none⟩])
  .skip))
(.seq (.rd [⟨(some 11), .mv (.t 5), none⟩,
  ⟨(some 12), .mv (.t 1), none⟩,
  ⟨(some 13), .iad 6 (.t 12) (.k (.d (.int .i64 0))), none⟩,
  ⟨(some 14), .ld (some 6) (.t 13), none⟩,
  ⟨(some 15), .mv (.t 1), none⟩,
  ⟨(some 16), .iad 6 (.t 15) (.k (.d (.int .i64 1))), none⟩,
  ⟨(some 17), .ld (some 6) (.t 16), none⟩,
  ⟨(some 18), .call (.k (.fn 47 [])) [(.t 11), (.t 14), (.t 17)], none⟩,
  ⟨(some 19), .mv (.t 6), none⟩,
  ⟨(some 20), .mv (.t 1), none⟩,
  ⟨(some 21), .iad 6 (.t 20) (.k (.d (.int .i64 0))), none⟩,
  ⟨(some 22), .ld (some 6) (.t 21), none⟩,
  ⟨(some 23), .mv (.t 1), none⟩,
  ⟨(some 24), .iad 6 (.t 23) (.k (.d (.int .i64 2))), none⟩,
  ⟨(some 25), .ld (some 6) (.t 24), none⟩,
  ⟨(some 26), .call (.k (.fn 47 [])) [(.t 19), (.t 22), (.t 25)], none⟩,
  ⟨(some 27), .call (.k (.fn 41 [])) [(.t 18), (.t 26)], none⟩,
  ⟨none, .st 6 (.t 4) (.t 27), none⟩] [(7, 11), (7, 14), (3, 15), (6, 15), (3, 16), (6, 16), (11, 16), (14, 16)])
.ret))))) }
theorem af32_ok : cFun Try.prog eqT Try.f32 = some af32 := by kernel_rfl
/-- dossier/eval.call -/
noncomputable def af33 : AFun := { np := 2, nt := 51, res := [.c 4 (some 6), .t 5], code :=
(.seq (.rg [⟨(some 4), .new [.d (.int .i64 0), .d (.bool false), .d (.int .i64 0), .d (.int .i64 0), .d (.str []), .nils], none⟩,
  ⟨(some 5), .mv (.k (.d (.int .i64 0))), none⟩])
(.seq (.seq (.rg [⟨(some 6), .mv (.t 0), none⟩])
(.block 0
  (.seq (.seq (.rg [⟨(some 8), .bin .eql (.t 6) (.k (.d (.str [109, 105, 110]))), none⟩,
    ⟨(some 7), .mv (.t 8), none⟩])
  (.cond (.t 7)
    .skip
    (.seq (.rg [⟨(some 9), .bin .eql (.t 6) (.k (.d (.str [109, 97, 120]))), none⟩,
      ⟨(some 7), .mv (.t 9), none⟩])
    (.cond (.t 7)
      .skip
      (.rg [⟨(some 10), .bin .eql (.t 6) (.k (.d (.str [115, 117, 109]))), none⟩,
        ⟨(some 7), .mv (.t 10), none⟩])))))
  (.cond (.t 7)
    (.seq (.rg [⟨(some 11), .mv (.t 0), none⟩,
      ⟨(some 12), .mv (.t 1), none⟩,
      ⟨(some 13), .call (.k (.fn 49 [])) [(.t 11), (.t 12)], none⟩,
      ⟨(some 14), .ext (.t 13) 0, none⟩,
      ⟨(some 15), .ext (.t 13) 1, none⟩,
      ⟨none, .st 6 (.t 4) (.t 14), none⟩,
      ⟨(some 5), .mv (.t 15), none⟩])
    .ret)
    (.seq (.rg [⟨(some 17), .bin .eql (.t 6) (.k (.d (.str [99, 97, 116]))), none⟩,
      ⟨(some 16), .mv (.t 17), none⟩])
    (.cond (.t 16)
      (.seq (.seq (.rg [⟨(some 18), .mv (.t 1), none⟩,
        ⟨(some 19), .lenq false (.t 18), none⟩,
        ⟨(some 20), .bin .eql (.t 19) (.k (.d (.int .i64 0))), none⟩,
        ⟨(some 21), .mv (.t 20), none⟩,
        ⟨(some 22), .mv (.t 1), some (21, false)⟩,
        ⟨(some 23), .call (.k (.fn 40 [])) [(.k (.d (.int .i64 3))), (.t 22)], some (21, false)⟩,
        ⟨(some 24), .un .not (.t 23), some (21, false)⟩,
        ⟨(some 25), .pick (.t 21) (.k (.d (.bool true))) (.t 24), none⟩])
      (.cond (.t 25)
        (.seq (.rg [⟨(some 26), .build [.int .i64 0, .bool false, .int .i64 0, .int .i64 0, .str [], .sl []] [], none⟩,
          ⟨none, .st 6 (.t 4) (.t 26), none⟩,
          ⟨(some 5), .mv (.k (.d (.int .i64 0))), none⟩])
        .ret)
        .skip))
      (.seq (.rg [⟨(some 27), .mv (.t 1), none⟩,
        ⟨(some 28), .call (.k (.fn 45 [])) [(.t 27)], none⟩,
        ⟨(some 29), .ext (.t 28) 0, none⟩,
        ⟨(some 30), .ext (.t 28) 1, none⟩,
        ⟨none, .st 6 (.t 4) (.t 29), none⟩,
        ⟨(some 5), .mv (.t 30), none⟩])
      .ret))
      .skip))))))
(.seq (.seq (.rg [⟨(some 31), .mv (.t 1), none⟩,
  ⟨(some 32), .lenq false (.t 31), none⟩])
(.block 1
  (.seq (.rg [⟨(some 34), .bin .eql (.t 32) (.k (.d (.int .i64 1))), none⟩,
    ⟨(some 33), .mv (.t 34), none⟩])
  (.cond (.t 33)
    (.seq (.rg [⟨(some 35), .mv (.t 0), none⟩,
      ⟨(some 36), .mv (.t 1), none⟩,
      ⟨(some 37), .iad 6 (.t 36) (.k (.d (.int .i64 0))), none⟩,
      ⟨(some 38), .ld (some 6) (.t 37), none⟩,
      ⟨(some 39), .call (.k (.fn 50 [])) [(.t 35), (.t 38)], none⟩,
      ⟨none, .st 6 (.t 4) (.t 39), none⟩,
      ⟨(some 5), .mv (.k (.d (.int .i64 0))), none⟩])
    .ret)
    (.seq (.rg [⟨(some 41), .bin .eql (.t 32) (.k (.d (.int .i64 2))), none⟩,
      ⟨(some 40), .mv (.t 41), none⟩])
    (.cond (.t 40)
      (.seq (.rd [⟨(some 42), .mv (.t 0), none⟩,
        ⟨(some 43), .mv (.t 1), none⟩,
        ⟨(some 44), .iad 6 (.t 43) (.k (.d (.int .i64 0))), none⟩,
        ⟨(some 45), .ld (some 6) (.t 44), none⟩,
        ⟨(some 46), .mv (.t 1), none⟩,
        ⟨(some 47), .iad 6 (.t 46) (.k (.d (.int .i64 1))), none⟩,
        ⟨(some 48), .ld (some 6) (.t 47), none⟩,
        ⟨(some 49), .call (.k (.fn 51 [])) [(.t 42), (.t 45), (.t 48)], none⟩,
        ⟨none, .st 6 (.t 4) (.t 49), none⟩,
        ⟨(some 5), .mv (.k (.d (.int .i64 0))), none⟩] [])
      .ret)
      .skip))))))
(.seq (.rg [⟨(some 50), .build [.int .i64 0, .bool false, .int .i64 0, .int .i64 0, .str [], .sl []] [], none⟩,
  ⟨none, .st 6 (.t 4) (.t 50), none⟩,
  ⟨(some 5), .mv (.k (.d (.int .i64 0))), none⟩])
.ret)))) }
theorem af33_ok : cFun Try.prog eqT Try.f33 = some af33 := by kernel_rfl
/-- dossier/dossierref1.Is -/
noncomputable def af34 : AFun := { np := 1, nt := 32, res := [.t 2], code :=
(.seq (.rg [⟨(some 1), .box (.t 0), none⟩,
  ⟨(some 2), .mv (.k (.d (.bool false))), none⟩])
(.seq (.rg [⟨(some 3), .fad (.t 1) 0, none⟩,
  ⟨(some 4), .ld none (.t 3), none⟩,
  ⟨(some 5), .bin .geq (.t 4) (.k (.d (.int .i64 (-1000000000)))), none⟩,
  ⟨(some 6), .mv (.t 5), none⟩,
  ⟨(some 7), .fad (.t 1) 0, some (6, true)⟩,
  ⟨(some 8), .ld none (.t 7), some (6, true)⟩,
  ⟨(some 9), .bin .leq (.t 8) (.k (.d (.int .i64 1000000000))), some (6, true)⟩,
  ⟨(some 10), .pick (.t 6) (.t 9) (.k (.d (.bool false))), none⟩,
  ⟨(some 11), .mv (.t 10), none⟩,
  ⟨(some 12), .fad (.t 1) 1, some (11, true)⟩,
  ⟨(some 13), .ld none (.t 12), some (11, true)⟩,
  ⟨(some 14), .bin .geq (.t 13) (.k (.d (.int .i64 0))), some (11, true)⟩,
  ⟨(some 15), .pick (.t 11) (.t 14) (.k (.d (.bool false))), none⟩,
  ⟨(some 16), .mv (.t 15), none⟩,
  ⟨(some 17), .fad (.t 1) 1, some (16, true)⟩,
  ⟨(some 18), .ld none (.t 17), some (16, true)⟩,
  ⟨(some 19), .bin .leq (.t 18) (.k (.d (.int .i64 4))), some (16, true)⟩,
  ⟨(some 20), .pick (.t 16) (.t 19) (.k (.d (.bool false))), none⟩,
  ⟨(some 21), .mv (.t 20), none⟩,
  ⟨(some 22), .fad (.t 1) 1, some (21, true)⟩,
  ⟨(some 23), .ld none (.t 22), some (21, true)⟩,
  ⟨(some 24), .bin .eql (.t 23) (.k (.d (.int .i64 0))), some (21, true)⟩,
  ⟨(some 25), .mv (.t 24), some (21, true)⟩,
  ⟨(some 26), .fad (.t 1) 0, some (25, false)⟩,
  ⟨(some 27), .ld none (.t 26), some (25, false)⟩,
  ⟨(some 28), .bin .rem (.t 27) (.k (.d (.int .i64 10))), some (25, false)⟩,
  ⟨(some 29), .bin .neq (.t 28) (.k (.d (.int .i64 0))), some (25, false)⟩,
  ⟨(some 30), .pick (.t 25) (.k (.d (.bool true))) (.t 29), some (21, true)⟩,
  ⟨(some 31), .pick (.t 21) (.t 30) (.k (.d (.bool false))), none⟩,
  ⟨(some 2), .mv (.t 31), none⟩])
.ret)) }
theorem af34_ok : cFun Try.prog eqT Try.f34 = some af34 := by kernel_rfl
/-- dossier/dossierref2.text -/
noncomputable def af35 : AFun := { np := 1, nt := 29, res := [.t 2], code :=
(.seq (.rg [⟨(some 2), .mv (.k (.d (.bool false))), none⟩])
(.seq (.seq (.rg [⟨(some 3), .mv (.k (.d (.int .i64 0))), none⟩])
(.block 0
  (.loop
    (.seq (.seq (.rg [⟨(some 4), .mv (.t 3), none⟩,
      ⟨(some 5), .mv (.t 0), none⟩,
      ⟨(some 6), .lenq true (.t 5), none⟩,
      ⟨(some 7), .bin .lss (.t 4) (.t 6), none⟩])
    (.cond (.t 7)
      .skip
      (.exit 0)))
    (.seq (.block 1
      (.seq (.rg [⟨(some 10), .mv (.t 0), none⟩,
        ⟨(some 11), .mv (.t 3), none⟩,
        ⟨(some 12), .ixs (.t 10) (.t 11), none⟩,
        ⟨(some 13), .bin .lss (.t 12) (.k (.d (.int .u8 32))), none⟩,
        ⟨(some 14), .mv (.t 13), none⟩,
        ⟨(some 15), .mv (.t 0), some (14, false)⟩,
        ⟨(some 16), .mv (.t 3), some (14, false)⟩,
        ⟨(some 17), .ixs (.t 15) (.t 16), some (14, false)⟩,
        ⟨(some 18), .bin .gtr (.t 17) (.k (.d (.int .u8 126))), some (14, false)⟩,
        ⟨(some 19), .pick (.t 14) (.k (.d (.bool true))) (.t 18), none⟩,
        ⟨(some 20), .mv (.t 19), none⟩,
        ⟨(some 21), .mv (.t 0), some (20, false)⟩,
        ⟨(some 22), .mv (.t 3), some (20, false)⟩,
        ⟨(some 23), .ixs (.t 21) (.t 22), some (20, false)⟩,
        ⟨(some 24), .bin .eql (.t 23) (.k (.d (.int .u8 34))), some (20, false)⟩,
        ⟨(some 25), .pick (.t 20) (.k (.d (.bool true))) (.t 24), none⟩])
      (.cond (.t 25)
        (.seq (.rg [⟨(some 2), .mv (.k (.d (.bool false))), none⟩])
        .ret)
        .skip)))
    (.rg [⟨(some 8), .mv (.t 3), none⟩,
      ⟨(some 9), .bin .add (.t 8) (.k (.d (.int .i64 1))), none⟩,
      ⟨(some 3), .mv (.t 9), none⟩]))))))
(.seq (.rg [⟨(some 26), .mv (.t 0), none⟩,
  ⟨(some 27), .lenq true (.t 26), none⟩,
  ⟨(some 28), .bin .leq (.t 27) (.k (.d (.int .i64 16))), none⟩,
  ⟨(some 2), .mv (.t 28), none⟩])
.ret))) }
theorem af35_ok : cFun Try.prog eqT Try.f35 = some af35 := by kernel_rfl
/-- dossier/dossierref3.next -/
noncomputable def af36 : AFun := { np := 2, nt := 219, res := [.c 4 (some 3), .t 5, .t 6], code :=
(.seq (.rg [⟨(some 4), .new [.d (.int .i64 0), .d (.str []), .d (.int .i64 0)], none⟩,
  ⟨(some 5), .mv (.k (.d (.int .i64 0))), none⟩,
  ⟨(some 6), .mv (.k (.d (.int .i64 0))), none⟩])
(.seq (.rg [⟨(some 10), .mv (.t 1), none⟩,
  ⟨(some 7), .mv (.t 10), none⟩])
(.seq (.block 0
  (.seq (.rg [⟨(some 12), .mv (.t 0), none⟩,
    ⟨(some 13), .mv (.t 1), none⟩,
    ⟨(some 14), .ixs (.t 12) (.t 13), none⟩,
    ⟨(some 15), .call (.k (.fn 52 [])) [(.t 14)], none⟩,
    ⟨(some 11), .mv (.t 15), none⟩])
  (.cond (.t 11)
    (.seq (.block 1
      (.loop
        (.seq (.seq (.rg [⟨(some 16), .mv (.t 7), none⟩,
          ⟨(some 17), .mv (.t 0), none⟩,
          ⟨(some 18), .lenq true (.t 17), none⟩,
          ⟨(some 19), .bin .lss (.t 16) (.t 18), none⟩,
          ⟨(some 20), .mv (.t 19), none⟩,
          ⟨(some 21), .mv (.t 0), some (20, true)⟩,
          ⟨(some 22), .mv (.t 7), some (20, true)⟩,
          ⟨(some 23), .ixs (.t 21) (.t 22), some (20, true)⟩,
          ⟨(some 24), .call (.k (.fn 52 [])) [(.t 23)], some (20, true)⟩,
          ⟨(some 25), .mv (.t 24), some (20, true)⟩,
          ⟨(some 26), .mv (.t 0), some (25, false)⟩,
          ⟨(some 27), .mv (.t 7), some (25, false)⟩,
          ⟨(some 28), .ixs (.t 26) (.t 27), some (25, false)⟩,
          ⟨(some 29), .call (.k (.fn 53 [])) [(.t 28)], some (25, false)⟩,
          ⟨(some 30), .pick (.t 25) (.k (.d (.bool true))) (.t 29), some (20, true)⟩,
          ⟨(some 31), .pick (.t 20) (.t 30) (.k (.d (.bool false))), none⟩])
        (.cond (.t 31)
          .skip
          (.exit 1)))
        (.block 2
          (.rg [⟨(some 32), .mv (.t 7), none⟩,
            ⟨(some 33), .bin .add (.t 32) (.k (.d (.int .i64 1))), none⟩,
            ⟨(some 7), .mv (.t 33), none⟩])))))
    (.seq (.seq (.rg [⟨(some 34), .mv (.t 7), none⟩,
      ⟨(some 35), .mv (.t 1), none⟩,
      ⟨(some 36), .bin .sub (.t 34) (.t 35), none⟩,
      ⟨(some 37), .bin .gtr (.t 36) (.k (.d (.int .i64 8))), none⟩,
      ⟨(some 38), .mv (.t 37), none⟩,
      ⟨(some 39), .mv (.t 0), some (38, true)⟩,
      ⟨(some 40), .mv (.t 1), some (38, true)⟩,
      ⟨(some 41), .mv (.t 7), some (38, true)⟩,
      ⟨(some 42), .ss (.t 39) (some (.t 40)) (some (.t 41)), some (38, true)⟩,
      ⟨(some 43), .call (.k (.fn 54 [])) [(.t 42)], some (38, true)⟩,
      ⟨(some 44), .un .not (.t 43), some (38, true)⟩,
      ⟨(some 45), .pick (.t 38) (.t 44) (.k (.d (.bool false))), none⟩])
    (.cond (.t 45)
      (.seq (.rg [⟨(some 46), .build [.int .i64 0, .str [], .int .i64 0] [], none⟩,
        ⟨(some 47), .mv (.t 1), none⟩,
        ⟨none, .st 3 (.t 4) (.t 46), none⟩,
        ⟨(some 5), .mv (.t 47), none⟩,
        ⟨(some 6), .mv (.k (.d (.int .i64 13))), none⟩])
      .ret)
      .skip))
    (.seq (.rg [⟨(some 48), .mv (.t 0), none⟩,
      ⟨(some 49), .mv (.t 1), none⟩,
      ⟨(some 50), .mv (.t 7), none⟩,
      ⟨(some 51), .ss (.t 48) (some (.t 49)) (some (.t 50)), none⟩,
      ⟨(some 52), .mv (.t 1), none⟩,
      ⟨(some 53), .build [.int .i64 0, .str [], .int .i64 0] [(0, 1, (.k (.d (.int .i64 1)))), (1, 1, (.t 51)), (2, 1, (.t 52))], none⟩,
      ⟨(some 54), .mv (.t 7), none⟩,
      ⟨none, .st 3 (.t 4) (.t 53), none⟩,
      ⟨(some 5), .mv (.t 54), none⟩,
      ⟨(some 6), .mv (.k (.d (.int .i64 0))), none⟩])
    .ret)))
    (.seq (.rg [⟨(some 56), .mv (.t 0), none⟩,
      ⟨(some 57), .mv (.t 1), none⟩,
      ⟨(some 58), .ixs (.t 56) (.t 57), none⟩,
      ⟨(some 59), .call (.k (.fn 53 [])) [(.t 58)], none⟩,
      ⟨(some 55), .mv (.t 59), none⟩])
    (.cond (.t 55)
      (.seq (.block 3
        (.loop
          (.seq (.seq (.rg [⟨(some 60), .mv (.t 7), none⟩,
            ⟨(some 61), .mv (.t 0), none⟩,
            ⟨(some 62), .lenq true (.t 61), none⟩,
            ⟨(some 63), .bin .lss (.t 60) (.t 62), none⟩,
            ⟨(some 64), .mv (.t 63), none⟩,
            ⟨(some 65), .mv (.t 0), some (64, true)⟩,
            ⟨(some 66), .mv (.t 7), some (64, true)⟩,
            ⟨(some 67), .ixs (.t 65) (.t 66), some (64, true)⟩,
            ⟨(some 68), .call (.k (.fn 53 [])) [(.t 67)], some (64, true)⟩,
            ⟨(some 69), .pick (.t 64) (.t 68) (.k (.d (.bool false))), none⟩])
          (.cond (.t 69)
            .skip
            (.exit 3)))
          (.block 4
            (.rg [⟨(some 70), .mv (.t 7), none⟩,
              ⟨(some 71), .bin .add (.t 70) (.k (.d (.int .i64 1))), none⟩,
              ⟨(some 7), .mv (.t 71), none⟩])))))
      (.seq (.seq (.rg [⟨(some 72), .mv (.t 7), none⟩,
        ⟨(some 73), .bin .add (.t 72) (.k (.d (.int .i64 1))), none⟩,
        ⟨(some 74), .mv (.t 0), none⟩,
        ⟨(some 75), .lenq true (.t 74), none⟩,
        ⟨(some 76), .bin .lss (.t 73) (.t 75), none⟩,
        ⟨(some 77), .mv (.t 76), none⟩,
        ⟨(some 78), .mv (.t 0), some (77, true)⟩,
        ⟨(some 79), .mv (.t 7), some (77, true)⟩,
        ⟨(some 80), .ixs (.t 78) (.t 79), some (77, true)⟩,
        ⟨(some 81), .bin .eql (.t 80) (.k (.d (.int .u8 46))), some (77, true)⟩,
        ⟨(some 82), .pick (.t 77) (.t 81) (.k (.d (.bool false))), none⟩,
        ⟨(some 83), .mv (.t 82), none⟩,
        ⟨(some 84), .mv (.t 0), some (83, true)⟩,
        ⟨(some 85), .mv (.t 7), some (83, true)⟩,
        ⟨(some 86), .bin .add (.t 85) (.k (.d (.int .i64 1))), some (83, true)⟩,
        ⟨(some 87), .ixs (.t 84) (.t 86), some (83, true)⟩,
        ⟨(some 88), .call (.k (.fn 53 [])) [(.t 87)], some (83, true)⟩,
        ⟨(some 89), .pick (.t 83) (.t 88) (.k (.d (.bool false))), none⟩])
      (.cond (.t 89)
        (.seq (.rg [⟨(some 90), .mv (.t 7), none⟩,
          ⟨(some 91), .bin .add (.t 90) (.k (.d (.int .i64 1))), none⟩,
          ⟨(some 7), .mv (.t 91), none⟩])
        (.block 5
          (.loop
            (.seq (.seq (.rg [⟨(some 92), .mv (.t 7), none⟩,
              ⟨(some 93), .mv (.t 0), none⟩,
              ⟨(some 94), .lenq true (.t 93), none⟩,
              ⟨(some 95), .bin .lss (.t 92) (.t 94), none⟩,
              ⟨(some 96), .mv (.t 95), none⟩,
              ⟨(some 97), .mv (.t 0), some (96, true)⟩,
              ⟨(some 98), .mv (.t 7), some (96, true)⟩,
              ⟨(some 99), .ixs (.t 97) (.t 98), some (96, true)⟩,
              ⟨(some 100), .call (.k (.fn 53 [])) [(.t 99)], some (96, true)⟩,
              ⟨(some 101), .pick (.t 96) (.t 100) (.k (.d (.bool false))), none⟩])
            (.cond (.t 101)
              .skip
              (.exit 5)))
            (.block 6
              (.rg [⟨(some 102), .mv (.t 7), none⟩,
                ⟨(some 103), .bin .add (.t 102) (.k (.d (.int .i64 1))), none⟩,
                ⟨(some 7), .mv (.t 103), none⟩]))))))
        .skip))
      (.seq (.rg [⟨(some 104), .mv (.t 0), none⟩,
        ⟨(some 105), .mv (.t 1), none⟩,
        ⟨(some 106), .mv (.t 7), none⟩,
        ⟨(some 107), .ss (.t 104) (some (.t 105)) (some (.t 106)), none⟩,
        ⟨(some 108), .mv (.t 1), none⟩,
        ⟨(some 109), .build [.int .i64 0, .str [], .int .i64 0] [(0, 1, (.k (.d (.int .i64 2)))), (1, 1, (.t 107)), (2, 1, (.t 108))], none⟩,
        ⟨(some 110), .mv (.t 7), none⟩,
        ⟨none, .st 3 (.t 4) (.t 109), none⟩,
        ⟨(some 5), .mv (.t 110), none⟩,
        ⟨(some 6), .mv (.k (.d (.int .i64 0))), none⟩])
      .ret)))
      (.seq (.rg [⟨(some 112), .mv (.t 0), none⟩,
        ⟨(some 113), .mv (.t 1), none⟩,
        ⟨(some 114), .ixs (.t 112) (.t 113), none⟩,
        ⟨(some 115), .bin .eql (.t 114) (.k (.d (.int .u8 34))), none⟩,
        ⟨(some 111), .mv (.t 115), none⟩])
      (.cond (.t 111)
        (.seq (.rg [⟨(some 116), .mv (.t 7), none⟩,
          ⟨(some 117), .bin .add (.t 116) (.k (.d (.int .i64 1))), none⟩,
          ⟨(some 7), .mv (.t 117), none⟩])
        (.seq (.block 7
          (.loop
            (.seq (.seq (.rg [⟨(some 118), .mv (.t 7), none⟩,
              ⟨(some 119), .mv (.t 0), none⟩,
              ⟨(some 120), .lenq true (.t 119), none⟩,
              ⟨(some 121), .bin .lss (.t 118) (.t 120), none⟩,
              ⟨(some 122), .mv (.t 121), none⟩,
              ⟨(some 123), .mv (.t 0), some (122, true)⟩,
              ⟨(some 124), .mv (.t 7), some (122, true)⟩,
              ⟨(some 125), .ixs (.t 123) (.t 124), some (122, true)⟩,
              ⟨(some 126), .bin .neq (.t 125) (.k (.d (.int .u8 34))), some (122, true)⟩,
              ⟨(some 127), .pick (.t 122) (.t 126) (.k (.d (.bool false))), none⟩,
              ⟨(some 128), .mv (.t 127), none⟩,
              ⟨(some 129), .mv (.t 0), some (128, true)⟩,
              ⟨(some 130), .mv (.t 7), some (128, true)⟩,
              ⟨(some 131), .ixs (.t 129) (.t 130), some (128, true)⟩,
              ⟨(some 132), .bin .geq (.t 131) (.k (.d (.int .u8 32))), some (128, true)⟩,
              ⟨(some 133), .pick (.t 128) (.t 132) (.k (.d (.bool false))), none⟩,
              ⟨(some 134), .mv (.t 133), none⟩,
              ⟨(some 135), .mv (.t 0), some (134, true)⟩,
              ⟨(some 136), .mv (.t 7), some (134, true)⟩,
              ⟨(some 137), .ixs (.t 135) (.t 136), some (134, true)⟩,
              ⟨(some 138), .bin .leq (.t 137) (.k (.d (.int .u8 126))), some (134, true)⟩,
              ⟨(some 139), .pick (.t 134) (.t 138) (.k (.d (.bool false))), none⟩])
            (.cond (.t 139)
              .skip
              (.exit 7)))
            (.block 8
              (.rg [⟨(some 140), .mv (.t 7), none⟩,
                ⟨(some 141), .bin .add (.t 140) (.k (.d (.int .i64 1))), none⟩,
                ⟨(some 7), .mv (.t 141), none⟩])))))
        (.seq (.seq (.rg [⟨(some 142), .mv (.t 7), none⟩,
          ⟨(some 143), .mv (.t 0), none⟩,
          ⟨(some 144), .lenq true (.t 143), none⟩,
          ⟨(some 145), .bin .eql (.t 142) (.t 144), none⟩,
          ⟨(some 146), .mv (.t 145), none⟩,
          ⟨(some 147), .mv (.t 0), some (146, false)⟩,
          ⟨(some 148), .mv (.t 7), some (146, false)⟩,
          ⟨(some 149), .ixs (.t 147) (.t 148), some (146, false)⟩,
          ⟨(some 150), .bin .neq (.t 149) (.k (.d (.int .u8 34))), some (146, false)⟩,
          ⟨(some 151), .pick (.t 146) (.k (.d (.bool true))) (.t 150), none⟩])
        (.cond (.t 151)
          (.seq (.rg [⟨(some 152), .build [.int .i64 0, .str [], .int .i64 0] [], none⟩,
            ⟨(some 153), .mv (.t 1), none⟩,
            ⟨none, .st 3 (.t 4) (.t 152), none⟩,
            ⟨(some 5), .mv (.t 153), none⟩,
            ⟨(some 6), .mv (.k (.d (.int .i64 2))), none⟩])
          .ret)
          .skip))
        (.seq (.seq (.rg [⟨(some 154), .mv (.t 7), none⟩,
          ⟨(some 155), .mv (.t 1), none⟩,
          ⟨(some 156), .bin .sub (.t 154) (.t 155), none⟩,
          ⟨(some 157), .bin .sub (.t 156) (.k (.d (.int .i64 1))), none⟩,
          ⟨(some 158), .bin .gtr (.t 157) (.k (.d (.int .i64 16))), none⟩])
        (.cond (.t 158)
          (.seq (.rg [⟨(some 159), .build [.int .i64 0, .str [], .int .i64 0] [], none⟩,
            ⟨(some 160), .mv (.t 1), none⟩,
            ⟨none, .st 3 (.t 4) (.t 159), none⟩,
            ⟨(some 5), .mv (.t 160), none⟩,
            ⟨(some 6), .mv (.k (.d (.int .i64 13))), none⟩])
          .ret)
          .skip))
        (.seq (.rg [⟨(some 161), .mv (.t 0), none⟩,
          ⟨(some 162), .mv (.t 1), none⟩,
          ⟨(some 163), .bin .add (.t 162) (.k (.d (.int .i64 1))), none⟩,
          ⟨(some 164), .mv (.t 7), none⟩,
          ⟨(some 165), .ss (.t 161) (some (.t 163)) (some (.t 164)), none⟩,
          ⟨(some 166), .mv (.t 1), none⟩,
          ⟨(some 167), .build [.int .i64 0, .str [], .int .i64 0] [(0, 1, (.k (.d (.int .i64 3)))), (1, 1, (.t 165)), (2, 1, (.t 166))], none⟩,
          ⟨(some 168), .mv (.t 7), none⟩,
          ⟨(some 169), .bin .add (.t 168) (.k (.d (.int .i64 1))), none⟩,
          ⟨none, .st 3 (.t 4) (.t 167), none⟩,
          ⟨(some 5), .mv (.t 169), none⟩,
          ⟨(some 6), .mv (.k (.d (.int .i64 0))), none⟩])
        .ret)))))
        .skip)))))))
(.seq (.rg [⟨(some 170), .mkrow 9 1 [(.k (.d (.str [60, 61]))), (.k (.d (.str [62, 61]))), (.k (.d (.str [33, 61]))), (.k (.d (.str [46, 46]))), (.k (.d (.str [60]))), (.k (.d (.str [62]))), (.k (.d (.str [61]))), (.k (.d (.str [43]))), (.k (.d (.str [45]))), (.k (.d (.str [42]))), (.k (.d (.str [47]))), (.k (.d (.str [40]))), (.k (.d (.str [41]))), (.k (.d (.str [91]))), (.k (.d (.str [93]))), (.k (.d (.str [44])))], none⟩,
  ⟨(some 8), .mv (.t 170), none⟩])
(.seq (.seq (.rg [⟨(some 9), .mv (.k (.d (.int .i64 0))), none⟩])
(.block 9
  (.loop
    (.seq (.seq (.rg [⟨(some 171), .mv (.t 9), none⟩,
      ⟨(some 172), .mv (.t 8), none⟩,
      ⟨(some 173), .lenq false (.t 172), none⟩,
      ⟨(some 174), .bin .lss (.t 171) (.t 173), none⟩])
    (.cond (.t 174)
      .skip
      (.exit 9)))
    (.seq (.block 10
      (.seq (.rd [⟨(some 177), .mv (.t 0), none⟩,
        ⟨(some 178), .lenq true (.t 177), none⟩,
        ⟨(some 179), .mv (.t 1), none⟩,
        ⟨(some 180), .bin .sub (.t 178) (.t 179), none⟩,
        ⟨(some 181), .mv (.t 8), none⟩,
        ⟨(some 182), .mv (.t 9), none⟩,
        ⟨(some 183), .iad 1 (.t 181) (.t 182), none⟩,
        ⟨(some 184), .ld none (.t 183), none⟩,
        ⟨(some 185), .lenq true (.t 184), none⟩,
        ⟨(some 186), .bin .geq (.t 180) (.t 185), none⟩,
        ⟨(some 187), .mv (.t 186), none⟩,
        ⟨(some 188), .mv (.t 0), some (187, true)⟩,
        ⟨(some 189), .mv (.t 1), some (187, true)⟩,
        ⟨(some 190), .mv (.t 1), some (187, true)⟩,
        ⟨(some 191), .mv (.t 8), some (187, true)⟩,
        ⟨(some 192), .mv (.t 9), some (187, true)⟩,
        ⟨(some 193), .iad 1 (.t 191) (.t 192), some (187, true)⟩,
        ⟨(some 194), .ld none (.t 193), some (187, true)⟩,
        ⟨(some 195), .lenq true (.t 194), some (187, true)⟩,
        ⟨(some 196), .bin .add (.t 190) (.t 195), some (187, true)⟩,
        ⟨(some 197), .ss (.t 188) (some (.t 189)) (some (.t 196)), some (187, true)⟩,
        ⟨(some 198), .mv (.t 8), some (187, true)⟩,
        ⟨(some 199), .mv (.t 9), some (187, true)⟩,
        ⟨(some 200), .iad 1 (.t 198) (.t 199), some (187, true)⟩,
        ⟨(some 201), .ld none (.t 200), some (187, true)⟩,
        ⟨(some 202), .bin .eql (.t 197) (.t 201), some (187, true)⟩,
        ⟨(some 203), .pick (.t 187) (.t 202) (.k (.d (.bool false))), none⟩] [])
      (.cond (.t 203)
        (.seq (.rd [⟨(some 204), .mv (.t 8), none⟩,
          ⟨(some 205), .mv (.t 9), none⟩,
          ⟨(some 206), .iad 1 (.t 204) (.t 205), none⟩,
          ⟨(some 207), .ld none (.t 206), none⟩,
          ⟨(some 208), .mv (.t 1), none⟩,
          ⟨(some 209), .build [.int .i64 0, .str [], .int .i64 0] [(0, 1, (.k (.d (.int .i64 4)))), (1, 1, (.t 207)), (2, 1, (.t 208))], none⟩,
          ⟨(some 210), .mv (.t 1), none⟩,
          ⟨(some 211), .mv (.t 8), none⟩,
          ⟨(some 212), .mv (.t 9), none⟩,
          ⟨(some 213), .iad 1 (.t 211) (.t 212), none⟩,
          ⟨(some 214), .ld none (.t 213), none⟩,
          ⟨(some 215), .lenq true (.t 214), none⟩,
          ⟨(some 216), .bin .add (.t 210) (.t 215), none⟩,
          ⟨none, .st 3 (.t 4) (.t 209), none⟩,
          ⟨(some 5), .mv (.t 216), none⟩,
          ⟨(some 6), .mv (.k (.d (.int .i64 0))), none⟩] [(10, 13)])
        .ret)
        .skip)))
    (.rg [⟨(some 175), .mv (.t 9), none⟩,
      ⟨(some 176), .bin .add (.t 175) (.k (.d (.int .i64 1))), none⟩,
      ⟨(some 9), .mv (.t 176), none⟩]))))))
(.seq (.rg [⟨(some 217), .build [.int .i64 0, .str [], .int .i64 0] [], none⟩,
  ⟨(some 218), .mv (.t 1), none⟩,
  ⟨none, .st 3 (.t 4) (.t 217), none⟩,
  ⟨(some 5), .mv (.t 218), none⟩,
  ⟨(some 6), .mv (.k (.d (.int .i64 2))), none⟩])
.ret)))))) }
theorem af36_ok : cFun Try.prog eqT Try.f36 = some af36 := by kernel_rfl
/-- (*dossier/dossierref4.reader).expr -/
noncomputable def af37 : AFun := { np := 2, nt := 23, res := [.c 4 (some 8)], code :=
(.seq (.rg [⟨(some 4), .new [.d (.int .i64 0), .d (.bool false), .d (.int .i64 0), .d (.int .i64 0), .d (.str []), .d (.bool false), .d (.bool false), .nils], none⟩])
(.seq (.seq (.rg [⟨(some 6), .mv (.t 0), none⟩,
  ⟨(some 7), .mv (.t 1), none⟩,
  ⟨(some 8), .call (.k (.fn 55 [])) [(.t 6), (.t 7)], none⟩])
(.cond (.t 8)
  (.seq (.rg [⟨(some 9), .build [.int .i64 0, .bool false, .int .i64 0, .int .i64 0, .str [], .bool false, .bool false, .sl []] [], none⟩,
    ⟨none, .st 8 (.t 4) (.t 9), none⟩])
  .ret)
  .skip))
(.seq (.rg [⟨(some 10), .mv (.t 0), none⟩,
  ⟨(some 11), .mv (.t 1), none⟩,
  ⟨(some 12), .call (.k (.fn 56 [])) [(.t 10), (.t 11)], none⟩,
  ⟨(some 5), .new [.d (.int .i64 0), .d (.bool false), .d (.int .i64 0), .d (.int .i64 0), .d (.str []), .d (.bool false), .d (.bool false), .nils], none⟩,
  ⟨none, .st 8 (.t 5) (.t 12), none⟩])
(.seq (.block 0
  (.loop
    (.seq (.seq (.rg [⟨(some 13), .mv (.t 0), none⟩,
      ⟨(some 14), .mkrow 9 1 [(.k (.d (.str [111, 114])))], none⟩,
      ⟨(some 15), .call (.k (.fn 57 [])) [(.t 13), (.t 14)], none⟩,
      ⟨(some 16), .bin .neq (.t 15) (.k (.d (.str []))), none⟩])
    (.cond (.t 16)
      .skip
      (.exit 0)))
    (.block 1
      (.rd [⟨(some 17), .ld (some 8) (.t 5), none⟩,
        ⟨(some 18), .mv (.t 0), none⟩,
        ⟨(some 19), .mv (.t 1), none⟩,
        ⟨(some 20), .call (.k (.fn 56 [])) [(.t 18), (.t 19)], none⟩,
        ⟨(some 21), .call (.k (.fn 58 [])) [(.k (.d (.str [111, 114]))), (.t 17), (.t 20)], none⟩,
        ⟨none, .st 8 (.t 5) (.t 21), none⟩] [(0, 3)])))))
(.seq (.rg [⟨(some 22), .ld (some 8) (.t 5), none⟩,
  ⟨none, .st 8 (.t 4) (.t 22), none⟩])
.ret))))) }
theorem af37_ok : cFun Try.prog eqT Try.f37 = some af37 := by kernel_rfl
/-- dossier/val.may -/
noncomputable def af38 : AFun := { np := 2, nt := 70, res := [.t 4], code :=
(.seq (.rg [⟨(some 2), .box (.t 0), none⟩,
  ⟨(some 3), .box (.t 1), none⟩,
  ⟨(some 4), .mv (.k (.d (.bool false))), none⟩])
(.seq (.rg [⟨(some 7), .ld (some 6) (.t 2), none⟩,
  ⟨(some 8), .call (.k (.fn 59 [])) [(.t 7)], none⟩,
  ⟨(some 5), .new [.d (.int .i64 0), .d (.bool false), .d (.int .i64 0), .d (.int .i64 0), .d (.str []), .nils], none⟩,
  ⟨none, .st 6 (.t 5) (.t 8), none⟩])
(.seq (.seq (.rg [⟨(some 9), .fad (.t 5) 1, none⟩,
  ⟨(some 10), .ld none (.t 9), none⟩,
  ⟨(some 11), .fad (.t 2) 1, none⟩,
  ⟨(some 12), .ld none (.t 11), none⟩,
  ⟨(some 13), .eqb true (.t 10) (.t 12), none⟩,
  ⟨(some 14), .mv (.t 13), none⟩,
  ⟨(some 15), .fad (.t 5) 2, some (14, false)⟩,
  ⟨(some 16), .ld (some 2) (.t 15), some (14, false)⟩,
  ⟨(some 17), .fad (.t 2) 2, some (14, false)⟩,
  ⟨(some 18), .ld (some 2) (.t 17), some (14, false)⟩,
  ⟨(some 19), .eqs 2 true (.t 16) (.t 18), some (14, false)⟩,
  ⟨(some 20), .pick (.t 14) (.k (.d (.bool true))) (.t 19), none⟩,
  ⟨(some 21), .mv (.t 20), none⟩,
  ⟨(some 22), .fad (.t 5) 4, some (21, false)⟩,
  ⟨(some 23), .ld none (.t 22), some (21, false)⟩,
  ⟨(some 24), .fad (.t 2) 4, some (21, false)⟩,
  ⟨(some 25), .ld none (.t 24), some (21, false)⟩,
  ⟨(some 26), .bin .neq (.t 23) (.t 25), some (21, false)⟩,
  ⟨(some 27), .pick (.t 21) (.k (.d (.bool true))) (.t 26), none⟩,
  ⟨(some 28), .mv (.t 27), none⟩,
  ⟨(some 29), .fad (.t 5) 5, some (28, false)⟩,
  ⟨(some 30), .ld none (.t 29), some (28, false)⟩,
  ⟨(some 31), .lenq false (.t 30), some (28, false)⟩,
  ⟨(some 32), .fad (.t 2) 5, some (28, false)⟩,
  ⟨(some 33), .ld none (.t 32), some (28, false)⟩,
  ⟨(some 34), .lenq false (.t 33), some (28, false)⟩,
  ⟨(some 35), .bin .neq (.t 31) (.t 34), some (28, false)⟩,
  ⟨(some 36), .pick (.t 28) (.k (.d (.bool true))) (.t 35), none⟩])
(.cond (.t 36)
  (.seq (.rg [⟨(some 4), .mv (.k (.d (.bool false))), none⟩])
  .ret)
  .skip))
(.seq (.seq (.rg [⟨(some 37), .fad (.t 2) 0, none⟩,
  ⟨(some 38), .ld none (.t 37), none⟩])
(.block 0
  (.seq (.seq (.rg [⟨(some 40), .bin .eql (.t 38) (.k (.d (.int .i64 0))), none⟩,
    ⟨(some 39), .mv (.t 40), none⟩])
  (.cond (.t 39)
    .skip
    (.rg [⟨(some 41), .bin .eql (.t 38) (.k (.d (.int .i64 1))), none⟩,
      ⟨(some 39), .mv (.t 41), none⟩])))
  (.cond (.t 39)
    (.seq (.rg [⟨(some 4), .mv (.k (.d (.bool true))), none⟩])
    .ret)
    (.seq (.rg [⟨(some 43), .bin .eql (.t 38) (.k (.d (.int .i64 2))), none⟩,
      ⟨(some 42), .mv (.t 43), none⟩])
    (.cond (.t 42)
      (.seq (.rg [⟨(some 44), .fad (.t 2) 2, none⟩,
        ⟨(some 45), .ld (some 2) (.t 44), none⟩,
        ⟨(some 46), .call (.k (.fn 23 [])) [(.t 45)], none⟩,
        ⟨(some 4), .mv (.t 46), none⟩])
      .ret)
      (.seq (.rg [⟨(some 48), .bin .eql (.t 38) (.k (.d (.int .i64 3))), none⟩,
        ⟨(some 47), .mv (.t 48), none⟩])
      (.cond (.t 47)
        (.seq (.rg [⟨(some 49), .fad (.t 2) 4, none⟩,
          ⟨(some 50), .ld none (.t 49), none⟩,
          ⟨(some 51), .call (.k (.fn 60 [])) [(.t 50)], none⟩,
          ⟨(some 4), .mv (.t 51), none⟩])
        .ret)
        (.seq (.rg [⟨(some 53), .bin .eql (.t 38) (.k (.d (.int .i64 4))), none⟩,
          ⟨(some 52), .mv (.t 53), none⟩])
        (.cond (.t 52)
          (.seq (.rg [⟨(some 54), .fnv 61 [(.t 3)], none⟩,
            ⟨(some 6), .mv (.t 54), none⟩])
          (.seq (.rg [⟨(some 55), .ld none (.t 3), none⟩,
            ⟨(some 56), .bin .lss (.t 55) (.k (.d (.int .i64 2))), none⟩,
            ⟨(some 57), .mv (.t 56), none⟩,
            ⟨(some 58), .fad (.t 2) 5, some (57, true)⟩,
            ⟨(some 59), .ld none (.t 58), some (57, true)⟩,
            ⟨(some 60), .lenq false (.t 59), some (57, true)⟩,
            ⟨(some 61), .bin .leq (.t 60) (.k (.d (.int .i64 8))), some (57, true)⟩,
            ⟨(some 62), .pick (.t 57) (.t 61) (.k (.d (.bool false))), none⟩,
            ⟨(some 63), .mv (.t 62), none⟩,
            ⟨(some 64), .fad (.t 2) 5, some (63, true)⟩,
            ⟨(some 65), .ld none (.t 64), some (63, true)⟩,
            ⟨(some 66), .mv (.t 6), some (63, true)⟩,
            ⟨(some 67), .call (.k (.fn 62 [])) [(.t 65), (.t 66)], some (63, true)⟩,
            ⟨(some 68), .un .not (.t 67), some (63, true)⟩,
            ⟨(some 69), .pick (.t 63) (.t 68) (.k (.d (.bool false))), none⟩,
            ⟨(some 4), .mv (.t 69), none⟩])
          .ret))
          .skip))))))))))
(.seq (.rg [⟨(some 4), .mv (.k (.d (.bool false))), none⟩])
.ret))))) }
theorem af38_ok : cFun Try.prog eqT Try.f38 = some af38 := by kernel_rfl
/-- dossier/val.Copy -/
noncomputable def af39 : AFun := { np := 1, nt := 25, res := [.c 2 (some 6)], code :=
(.seq (.rg [⟨(some 1), .box (.t 0), none⟩,
  ⟨(some 2), .new [.d (.int .i64 0), .d (.bool false), .d (.int .i64 0), .d (.int .i64 0), .d (.str []), .nils], none⟩])
(.seq (.rg [⟨(some 5), .fad (.t 1) 5, none⟩,
  ⟨(some 6), .ld none (.t 5), none⟩,
  ⟨(some 7), .call (.k (.fn 63 [])) [(.t 6)], none⟩,
  ⟨(some 8), .fad (.t 1) 5, none⟩,
  ⟨none, .st 1 (.t 8) (.t 7), none⟩])
(.seq (.seq (.rg [⟨(some 9), .fad (.t 1) 5, none⟩,
  ⟨(some 10), .ld none (.t 9), none⟩,
  ⟨(some 11), .lenq false (.t 10), none⟩,
  ⟨(some 12), .mv (.k (.d (.int .i64 0))), none⟩])
(.block 0
  (.loop
    (.seq (.rg [⟨(some 13), .bin .lss (.t 12) (.t 11), none⟩])
    (.seq (.cond (.t 13)
      .skip
      (.exit 0))
    (.seq (.block 1
      (.seq (.rg [⟨(some 14), .mv (.t 12), none⟩,
        ⟨(some 15), .iad 6 (.t 10) (.t 12), none⟩,
        ⟨(some 16), .ld (some 6) (.t 15), none⟩,
        ⟨(some 4), .new [.d (.int .i64 0), .d (.bool false), .d (.int .i64 0), .d (.int .i64 0), .d (.str []), .nils], none⟩,
        ⟨(some 3), .mv (.t 14), none⟩,
        ⟨none, .st 6 (.t 4) (.t 16), none⟩])
      (.rd [⟨(some 17), .fad (.t 1) 5, none⟩,
        ⟨(some 18), .ld none (.t 17), none⟩,
        ⟨(some 19), .mv (.t 3), none⟩,
        ⟨(some 20), .ld (some 6) (.t 4), none⟩,
        ⟨(some 21), .call (.k (.fn 39 [])) [(.t 20)], none⟩,
        ⟨(some 22), .iad 6 (.t 18) (.t 19), none⟩,
        ⟨none, .st 6 (.t 22) (.t 21), none⟩] [(1, 4)])))
    (.rg [⟨(some 23), .bin .add (.t 12) (.k (.d (.int .i64 1))), none⟩,
      ⟨(some 12), .mv (.t 23), none⟩])))))))
(.seq (.rg [⟨(some 24), .ld (some 6) (.t 1), none⟩,
  ⟨none, .st 6 (.t 2) (.t 24), none⟩])
.ret)))) }
theorem af39_ok : cFun Try.prog eqT Try.f39 = some af39 := by kernel_rfl
/-- dossier/eval.areAll -/
noncomputable def af40 : AFun := { np := 2, nt := 18, res := [.t 4], code :=
(.seq (.rg [⟨(some 4), .mv (.k (.d (.bool false))), none⟩])
(.seq (.seq (.rg [⟨(some 7), .mv (.t 1), none⟩,
  ⟨(some 8), .lenq false (.t 7), none⟩,
  ⟨(some 9), .mv (.k (.d (.int .i64 0))), none⟩])
(.block 0
  (.loop
    (.seq (.rg [⟨(some 10), .bin .lss (.t 9) (.t 8), none⟩])
    (.seq (.cond (.t 10)
      .skip
      (.exit 0))
    (.seq (.block 1
      (.seq (.rg [⟨(some 11), .iad 6 (.t 7) (.t 9), none⟩,
        ⟨(some 12), .ld (some 6) (.t 11), none⟩,
        ⟨(some 6), .new [.d (.int .i64 0), .d (.bool false), .d (.int .i64 0), .d (.int .i64 0), .d (.str []), .nils], none⟩,
        ⟨none, .st 6 (.t 6) (.t 12), none⟩])
      (.seq (.rg [⟨(some 13), .fad (.t 6) 0, none⟩,
        ⟨(some 14), .ld none (.t 13), none⟩,
        ⟨(some 15), .mv (.t 0), none⟩,
        ⟨(some 16), .bin .neq (.t 14) (.t 15), none⟩])
      (.cond (.t 16)
        (.seq (.rg [⟨(some 4), .mv (.k (.d (.bool false))), none⟩])
        .ret)
        .skip))))
    (.rg [⟨(some 17), .bin .add (.t 9) (.k (.d (.int .i64 1))), none⟩,
      ⟨(some 9), .mv (.t 17), none⟩])))))))
(.seq (.rg [⟨(some 4), .mv (.k (.d (.bool true))), none⟩])
.ret))) }
theorem af40_ok : cFun Try.prog eqT Try.f40 = some af40 := by kernel_rfl
/-- dossier/val.And -/
noncomputable def af41 : AFun := { np := 2, nt := 22, res := [.c 4 (some 6)], code :=
(.seq (.rg [⟨(some 2), .box (.t 0), none⟩,
  ⟨(some 3), .box (.t 1), none⟩,
  ⟨(some 4), .new [.d (.int .i64 0), .d (.bool false), .d (.int .i64 0), .d (.int .i64 0), .d (.str []), .nils], none⟩])
(.seq (.block 0
  (.seq (.rg [⟨(some 6), .ld (some 6) (.t 2), none⟩,
    ⟨(some 7), .call (.k (.fn 64 [])) [(.t 6)], none⟩,
    ⟨(some 8), .mv (.t 7), none⟩,
    ⟨(some 9), .ld (some 6) (.t 3), some (8, false)⟩,
    ⟨(some 10), .call (.k (.fn 64 [])) [(.t 9)], some (8, false)⟩,
    ⟨(some 11), .pick (.t 8) (.k (.d (.bool true))) (.t 10), none⟩,
    ⟨(some 5), .mv (.t 11), none⟩])
  (.cond (.t 5)
    (.seq (.rg [⟨(some 12), .call (.k (.fn 65 [])) [(.k (.d (.bool false)))], none⟩,
      ⟨none, .st 6 (.t 4) (.t 12), none⟩])
    .ret)
    (.seq (.rg [⟨(some 14), .ld (some 6) (.t 2), none⟩,
      ⟨(some 15), .call (.k (.fn 25 [])) [(.t 14)], none⟩,
      ⟨(some 16), .mv (.t 15), none⟩,
      ⟨(some 17), .ld (some 6) (.t 3), some (16, true)⟩,
      ⟨(some 18), .call (.k (.fn 25 [])) [(.t 17)], some (16, true)⟩,
      ⟨(some 19), .pick (.t 16) (.t 18) (.k (.d (.bool false))), none⟩,
      ⟨(some 13), .mv (.t 19), none⟩])
    (.cond (.t 13)
      (.seq (.rg [⟨(some 20), .call (.k (.fn 65 [])) [(.k (.d (.bool true)))], none⟩,
        ⟨none, .st 6 (.t 4) (.t 20), none⟩])
      .ret)
      .skip)))))
(.seq (.rg [⟨(some 21), .build [.int .i64 0, .bool false, .int .i64 0, .int .i64 0, .str [], .sl []] [], none⟩,
  ⟨none, .st 6 (.t 4) (.t 21), none⟩])
.ret))) }
theorem af41_ok : cFun Try.prog eqT Try.f41 = some af41 := by kernel_rfl
/-- dossier/val.Or -/
noncomputable def af42 : AFun := { np := 2, nt := 11, res := [.c 4 (some 6)], code :=
(.seq (.rg [⟨(some 2), .box (.t 0), none⟩,
  ⟨(some 3), .box (.t 1), none⟩,
  ⟨(some 4), .new [.d (.int .i64 0), .d (.bool false), .d (.int .i64 0), .d (.int .i64 0), .d (.str []), .nils], none⟩])
(.seq (.rd [⟨(some 5), .ld (some 6) (.t 2), none⟩,
  ⟨(some 6), .call (.k (.fn 66 [])) [(.t 5)], none⟩,
  ⟨(some 7), .ld (some 6) (.t 3), none⟩,
  ⟨(some 8), .call (.k (.fn 66 [])) [(.t 7)], none⟩,
  ⟨(some 9), .call (.k (.fn 41 [])) [(.t 6), (.t 8)], none⟩,
  ⟨(some 10), .call (.k (.fn 66 [])) [(.t 9)], none⟩,
  ⟨none, .st 6 (.t 4) (.t 10), none⟩] [(1, 2), (0, 3), (0, 4), (2, 4), (0, 5), (1, 5), (2, 5), (3, 5)])
.ret)) }
theorem af42_ok : cFun Try.prog eqT Try.f42 = some af42 := by kernel_rfl
/-- dossier/eval.found -/
noncomputable def af43 : AFun := { np := 2, nt := 12, res := [.c 4 (some 6), .t 5], code :=
(.seq (.rg [⟨(some 2), .box (.t 0), none⟩,
  ⟨(some 4), .new [.d (.int .i64 0), .d (.bool false), .d (.int .i64 0), .d (.int .i64 0), .d (.str []), .nils], none⟩,
  ⟨(some 5), .mv (.k (.d (.int .i64 0))), none⟩])
(.seq (.seq (.rg [⟨(some 6), .mv (.t 1), none⟩,
  ⟨(some 7), .bin .neq (.t 6) (.k (.d (.int .i64 0))), none⟩])
(.cond (.t 7)
  (.seq (.rg [⟨(some 8), .build [.int .i64 0, .bool false, .int .i64 0, .int .i64 0, .str [], .sl []] [], none⟩,
    ⟨(some 9), .mv (.t 1), none⟩,
    ⟨none, .st 6 (.t 4) (.t 8), none⟩,
    ⟨(some 5), .mv (.t 9), none⟩])
  .ret)
  .skip))
(.seq (.rg [⟨(some 10), .ld (some 2) (.t 2), none⟩,
  ⟨(some 11), .call (.k (.fn 27 [])) [(.t 10)], none⟩,
  ⟨none, .st 6 (.t 4) (.t 11), none⟩,
  ⟨(some 5), .mv (.k (.d (.int .i64 0))), none⟩])
.ret))) }
theorem af43_ok : cFun Try.prog eqT Try.f43 = some af43 := by kernel_rfl
/-- dossier/dec.Add -/
noncomputable def af44 : AFun := { np := 2, nt := 23, res := [.c 4 (some 2), .t 5], code :=
(.seq (.rg [⟨(some 2), .box (.t 0), none⟩,
  ⟨(some 3), .box (.t 1), none⟩,
  ⟨(some 4), .new [.d (.int .i64 0), .d (.int .i64 0)], none⟩,
  ⟨(some 5), .mv (.k (.d (.int .i64 0))), none⟩])
(.seq (.rg [⟨(some 7), .fad (.t 2) 1, none⟩,
  ⟨(some 8), .ld none (.t 7), none⟩,
  ⟨(some 9), .fad (.t 3) 1, none⟩,
  ⟨(some 10), .ld none (.t 9), none⟩,
  ⟨(some 11), .mm true (.t 8) [(.t 10)], none⟩,
  ⟨(some 6), .mv (.t 11), none⟩])
(.seq (.rd [⟨(some 12), .ld (some 2) (.t 2), none⟩,
  ⟨(some 13), .mv (.t 6), none⟩,
  ⟨(some 14), .call (.k (.fn 68 [])) [(.t 12), (.t 13)], none⟩,
  ⟨(some 15), .ld (some 2) (.t 3), none⟩,
  ⟨(some 16), .mv (.t 6), none⟩,
  ⟨(some 17), .call (.k (.fn 68 [])) [(.t 15), (.t 16)], none⟩,
  ⟨(some 18), .bin .add (.t 14) (.t 17), none⟩,
  ⟨(some 19), .mv (.t 6), none⟩,
  ⟨(some 20), .call (.k (.fn 67 [])) [(.t 18), (.t 19)], none⟩,
  ⟨(some 21), .ext (.t 20) 0, none⟩,
  ⟨(some 22), .ext (.t 20) 1, none⟩,
  ⟨none, .st 2 (.t 4) (.t 21), none⟩,
  ⟨(some 5), .mv (.t 22), none⟩] [(2, 3), (0, 5), (0, 8), (2, 8), (3, 8)])
.ret))) }
theorem af44_ok : cFun Try.prog eqT Try.f44 = some af44 := by kernel_rfl
/-- dossier/eval.joined -/
noncomputable def af45 : AFun := { np := 1, nt := 24, res := [.c 2 (some 6), .t 3], code :=
(.seq (.rg [⟨(some 2), .new [.d (.int .i64 0), .d (.bool false), .d (.int .i64 0), .d (.int .i64 0), .d (.str []), .nils], none⟩,
  ⟨(some 3), .mv (.k (.d (.int .i64 0))), none⟩])
(.seq (.rg [⟨(some 4), .mv (.k (.d (.str []))), none⟩])
(.seq (.seq (.rg [⟨(some 7), .mv (.t 0), none⟩,
  ⟨(some 8), .lenq false (.t 7), none⟩,
  ⟨(some 9), .mv (.k (.d (.int .i64 0))), none⟩])
(.block 0
  (.loop
    (.seq (.rg [⟨(some 10), .bin .lss (.t 9) (.t 8), none⟩])
    (.seq (.cond (.t 10)
      .skip
      (.exit 0))
    (.seq (.block 1
      (.seq (.rg [⟨(some 11), .iad 6 (.t 7) (.t 9), none⟩,
        ⟨(some 12), .ld (some 6) (.t 11), none⟩,
        ⟨(some 6), .new [.d (.int .i64 0), .d (.bool false), .d (.int .i64 0), .d (.int .i64 0), .d (.str []), .nils], none⟩,
        ⟨none, .st 6 (.t 6) (.t 12), none⟩])
      (.rg [⟨(some 13), .mv (.t 4), none⟩,
        ⟨(some 14), .fad (.t 6) 4, none⟩,
        ⟨(some 15), .ld none (.t 14), none⟩,
        ⟨(some 16), .bin .add (.t 13) (.t 15), none⟩,
        ⟨(some 4), .mv (.t 16), none⟩])))
    (.rg [⟨(some 17), .bin .add (.t 9) (.k (.d (.int .i64 1))), none⟩,
      ⟨(some 9), .mv (.t 17), none⟩])))))))
(.seq (.seq (.rg [⟨(some 18), .mv (.t 4), none⟩,
  ⟨(some 19), .lenq true (.t 18), none⟩,
  ⟨(some 20), .bin .gtr (.t 19) (.k (.d (.int .i64 16))), none⟩])
(.cond (.t 20)
  (.seq (.rg [⟨(some 21), .build [.int .i64 0, .bool false, .int .i64 0, .int .i64 0, .str [], .sl []] [], none⟩,
    ⟨none, .st 6 (.t 2) (.t 21), none⟩,
    ⟨(some 3), .mv (.k (.d (.int .i64 3))), none⟩])
  .ret)
  .skip))
(.seq (.rg [⟨(some 22), .mv (.t 4), none⟩,
  ⟨(some 23), .build [.int .i64 0, .bool false, .int .i64 0, .int .i64 0, .str [], .sl []] [(0, 1, (.k (.d (.int .i64 3)))), (4, 1, (.t 22))], none⟩,
  ⟨none, .st 6 (.t 2) (.t 23), none⟩,
  ⟨(some 3), .mv (.k (.d (.int .i64 0))), none⟩])
.ret))))) }
theorem af45_ok : cFun Try.prog eqT Try.f45 = some af45 := by kernel_rfl
/-- dossier/eval.reckon -/
noncomputable def af46 : AFun := { np := 3, nt := 43, res := [.c 6 (some 6), .t 7], code :=
(.seq (.rg [⟨(some 4), .box (.t 1), none⟩,
  ⟨(some 5), .box (.t 2), none⟩,
  ⟨(some 6), .new [.d (.int .i64 0), .d (.bool false), .d (.int .i64 0), .d (.int .i64 0), .d (.str []), .nils], none⟩,
  ⟨(some 7), .mv (.k (.d (.int .i64 0))), none⟩])
(.seq (.block 0
  (.seq (.rg [⟨(some 9), .mv (.t 0), none⟩,
    ⟨(some 10), .bin .eql (.t 9) (.k (.d (.str [45]))), none⟩,
    ⟨(some 8), .mv (.t 10), none⟩])
  (.cond (.t 8)
    (.seq (.rg [⟨(some 11), .ld (some 2) (.t 4), none⟩,
      ⟨(some 12), .ld (some 2) (.t 5), none⟩,
      ⟨(some 13), .call (.k (.fn 69 [])) [(.t 11), (.t 12)], none⟩,
      ⟨(some 14), .ext (.t 13) 0, none⟩,
      ⟨(some 15), .ext (.t 13) 1, none⟩,
      ⟨(some 16), .call (.k (.fn 43 [])) [(.t 14), (.t 15)], none⟩,
      ⟨(some 17), .ext (.t 16) 0, none⟩,
      ⟨(some 18), .ext (.t 16) 1, none⟩,
      ⟨none, .st 6 (.t 6) (.t 17), none⟩,
      ⟨(some 7), .mv (.t 18), none⟩])
    .ret)
    (.seq (.rg [⟨(some 20), .mv (.t 0), none⟩,
      ⟨(some 21), .bin .eql (.t 20) (.k (.d (.str [42]))), none⟩,
      ⟨(some 19), .mv (.t 21), none⟩])
    (.cond (.t 19)
      (.seq (.rg [⟨(some 22), .ld (some 2) (.t 4), none⟩,
        ⟨(some 23), .ld (some 2) (.t 5), none⟩,
        ⟨(some 24), .call (.k (.fn 70 [])) [(.t 22), (.t 23)], none⟩,
        ⟨(some 25), .ext (.t 24) 0, none⟩,
        ⟨(some 26), .ext (.t 24) 1, none⟩,
        ⟨(some 27), .call (.k (.fn 43 [])) [(.t 25), (.t 26)], none⟩,
        ⟨(some 28), .ext (.t 27) 0, none⟩,
        ⟨(some 29), .ext (.t 27) 1, none⟩,
        ⟨none, .st 6 (.t 6) (.t 28), none⟩,
        ⟨(some 7), .mv (.t 29), none⟩])
      .ret)
      (.seq (.rg [⟨(some 31), .fad (.t 5) 0, none⟩,
        ⟨(some 32), .ld none (.t 31), none⟩,
        ⟨(some 33), .bin .eql (.t 32) (.k (.d (.int .i64 0))), none⟩,
        ⟨(some 30), .mv (.t 33), none⟩])
      (.cond (.t 30)
        (.seq (.rg [⟨(some 34), .build [.int .i64 0, .bool false, .int .i64 0, .int .i64 0, .str [], .sl []] [], none⟩,
          ⟨none, .st 6 (.t 6) (.t 34), none⟩,
          ⟨(some 7), .mv (.k (.d (.int .i64 0))), none⟩])
        .ret)
        .skip)))))))
(.seq (.rg [⟨(some 35), .ld (some 2) (.t 4), none⟩,
  ⟨(some 36), .ld (some 2) (.t 5), none⟩,
  ⟨(some 37), .call (.k (.fn 71 [])) [(.t 35), (.t 36)], none⟩,
  ⟨(some 38), .ext (.t 37) 0, none⟩,
  ⟨(some 39), .ext (.t 37) 1, none⟩,
  ⟨(some 40), .call (.k (.fn 43 [])) [(.t 38), (.t 39)], none⟩,
  ⟨(some 41), .ext (.t 40) 0, none⟩,
  ⟨(some 42), .ext (.t 40) 1, none⟩,
  ⟨none, .st 6 (.t 6) (.t 41), none⟩,
  ⟨(some 7), .mv (.t 42), none⟩])
.ret))) }
theorem af46_ok : cFun Try.prog eqT Try.f46 = some af46 := by kernel_rfl
/-- dossier/eval.Rel -/
noncomputable def af47 : AFun := { np := 3, nt := 60, res := [.c 6 (some 6)], code :=
(.seq (.rg [⟨(some 4), .box (.t 1), none⟩,
  ⟨(some 5), .box (.t 2), none⟩,
  ⟨(some 6), .new [.d (.int .i64 0), .d (.bool false), .d (.int .i64 0), .d (.int .i64 0), .d (.str []), .nils], none⟩])
(.seq (.seq (.rg [⟨(some 8), .mv (.t 0), none⟩])
(.block 0
  (.seq (.rg [⟨(some 10), .bin .eql (.t 8) (.k (.d (.str [61]))), none⟩,
    ⟨(some 9), .mv (.t 10), none⟩])
  (.cond (.t 9)
    (.seq (.rg [⟨(some 11), .ld (some 6) (.t 4), none⟩,
      ⟨(some 12), .ld (some 6) (.t 5), none⟩,
      ⟨(some 13), .call (.k (.fn 72 [])) [(.t 11), (.t 12)], none⟩,
      ⟨(some 14), .call (.k (.fn 26 [])) [(.t 13)], none⟩,
      ⟨none, .st 6 (.t 6) (.t 14), none⟩])
    .ret)
    (.seq (.rg [⟨(some 16), .bin .eql (.t 8) (.k (.d (.str [33, 61]))), none⟩,
      ⟨(some 15), .mv (.t 16), none⟩])
    (.cond (.t 15)
      (.seq (.rg [⟨(some 17), .ld (some 6) (.t 4), none⟩,
        ⟨(some 18), .ld (some 6) (.t 5), none⟩,
        ⟨(some 19), .call (.k (.fn 72 [])) [(.t 17), (.t 18)], none⟩,
        ⟨(some 20), .un .not (.t 19), none⟩,
        ⟨(some 21), .call (.k (.fn 26 [])) [(.t 20)], none⟩,
        ⟨none, .st 6 (.t 6) (.t 21), none⟩])
      .ret)
      .skip))))))
(.seq (.seq (.rg [⟨(some 22), .ld (some 6) (.t 4), none⟩,
  ⟨(some 23), .ld (some 6) (.t 5), none⟩,
  ⟨(some 24), .mkrow 26 6 [(.t 22), (.t 23)], none⟩,
  ⟨(some 25), .call (.k (.fn 40 [])) [(.k (.d (.int .i64 2))), (.t 24)], none⟩,
  ⟨(some 26), .un .not (.t 25), none⟩,
  ⟨(some 27), .mv (.t 26), none⟩,
  ⟨(some 28), .ld (some 6) (.t 4), some (27, true)⟩,
  ⟨(some 29), .ld (some 6) (.t 5), some (27, true)⟩,
  ⟨(some 30), .mkrow 26 6 [(.t 28), (.t 29)], some (27, true)⟩,
  ⟨(some 31), .call (.k (.fn 40 [])) [(.k (.d (.int .i64 3))), (.t 30)], some (27, true)⟩,
  ⟨(some 32), .un .not (.t 31), some (27, true)⟩,
  ⟨(some 33), .pick (.t 27) (.t 32) (.k (.d (.bool false))), none⟩])
(.cond (.t 33)
  (.seq (.rg [⟨(some 34), .build [.int .i64 0, .bool false, .int .i64 0, .int .i64 0, .str [], .sl []] [], none⟩,
    ⟨none, .st 6 (.t 6) (.t 34), none⟩])
  .ret)
  .skip))
(.seq (.rg [⟨(some 35), .ld (some 6) (.t 4), none⟩,
  ⟨(some 36), .ld (some 6) (.t 5), none⟩,
  ⟨(some 37), .call (.k (.fn 73 [])) [(.t 35), (.t 36)], none⟩,
  ⟨(some 7), .mv (.t 37), none⟩])
(.seq (.seq (.rg [⟨(some 38), .mv (.t 0), none⟩])
(.block 1
  (.seq (.rg [⟨(some 40), .bin .eql (.t 38) (.k (.d (.str [60]))), none⟩,
    ⟨(some 39), .mv (.t 40), none⟩])
  (.cond (.t 39)
    (.seq (.rg [⟨(some 41), .mv (.t 7), none⟩,
      ⟨(some 42), .bin .lss (.t 41) (.k (.d (.int .i64 0))), none⟩,
      ⟨(some 43), .call (.k (.fn 26 [])) [(.t 42)], none⟩,
      ⟨none, .st 6 (.t 6) (.t 43), none⟩])
    .ret)
    (.seq (.rg [⟨(some 45), .bin .eql (.t 38) (.k (.d (.str [60, 61]))), none⟩,
      ⟨(some 44), .mv (.t 45), none⟩])
    (.cond (.t 44)
      (.seq (.rg [⟨(some 46), .mv (.t 7), none⟩,
        ⟨(some 47), .bin .leq (.t 46) (.k (.d (.int .i64 0))), none⟩,
        ⟨(some 48), .call (.k (.fn 26 [])) [(.t 47)], none⟩,
        ⟨none, .st 6 (.t 6) (.t 48), none⟩])
      .ret)
      (.seq (.rg [⟨(some 50), .bin .eql (.t 38) (.k (.d (.str [62]))), none⟩,
        ⟨(some 49), .mv (.t 50), none⟩])
      (.cond (.t 49)
        (.seq (.rg [⟨(some 51), .mv (.t 7), none⟩,
          ⟨(some 52), .bin .gtr (.t 51) (.k (.d (.int .i64 0))), none⟩,
          ⟨(some 53), .call (.k (.fn 26 [])) [(.t 52)], none⟩,
          ⟨none, .st 6 (.t 6) (.t 53), none⟩])
        .ret)
        (.seq (.rg [⟨(some 55), .bin .eql (.t 38) (.k (.d (.str [62, 61]))), none⟩,
          ⟨(some 54), .mv (.t 55), none⟩])
        (.cond (.t 54)
          (.seq (.rg [⟨(some 56), .mv (.t 7), none⟩,
            ⟨(some 57), .bin .geq (.t 56) (.k (.d (.int .i64 0))), none⟩,
            ⟨(some 58), .call (.k (.fn 26 [])) [(.t 57)], none⟩,
            ⟨none, .st 6 (.t 6) (.t 58), none⟩])
          .ret)
          .skip))))))))))
(.seq (.rg [⟨(some 59), .build [.int .i64 0, .bool false, .int .i64 0, .int .i64 0, .str [], .sl []] [], none⟩,
  ⟨none, .st 6 (.t 6) (.t 59), none⟩])
.ret)))))) }
theorem af47_ok : cFun Try.prog eqT Try.f47 = some af47 := by kernel_rfl
/-- dossier/eval.nested -/
noncomputable def af48 : AFun := { np := 1, nt := 23, res := [.t 2], code :=
(.seq (.rg [⟨(some 1), .box (.t 0), none⟩,
  ⟨(some 2), .mv (.k (.d (.int .i64 0))), none⟩])
(.seq (.seq (.rg [⟨(some 6), .fad (.t 1) 0, none⟩,
  ⟨(some 7), .ld none (.t 6), none⟩,
  ⟨(some 8), .bin .neq (.t 7) (.k (.d (.int .i64 4))), none⟩])
(.cond (.t 8)
  (.seq (.rg [⟨(some 2), .mv (.k (.d (.int .i64 0))), none⟩])
  .ret)
  .skip))
(.seq (.rg [⟨(some 3), .mv (.k (.d (.int .i64 0))), none⟩])
(.seq (.seq (.rg [⟨(some 9), .fad (.t 1) 5, none⟩,
  ⟨(some 10), .ld none (.t 9), none⟩,
  ⟨(some 11), .lenq false (.t 10), none⟩,
  ⟨(some 12), .mv (.k (.d (.int .i64 0))), none⟩])
(.block 0
  (.loop
    (.seq (.rg [⟨(some 13), .bin .lss (.t 12) (.t 11), none⟩])
    (.seq (.cond (.t 13)
      .skip
      (.exit 0))
    (.seq (.block 1
      (.seq (.rg [⟨(some 14), .iad 6 (.t 10) (.t 12), none⟩,
        ⟨(some 15), .ld (some 6) (.t 14), none⟩,
        ⟨(some 5), .new [.d (.int .i64 0), .d (.bool false), .d (.int .i64 0), .d (.int .i64 0), .d (.str []), .nils], none⟩,
        ⟨none, .st 6 (.t 5) (.t 15), none⟩])
      (.rg [⟨(some 16), .mv (.t 3), none⟩,
        ⟨(some 17), .ld (some 6) (.t 5), none⟩,
        ⟨(some 18), .call (.k (.fn 48 [])) [(.t 17)], none⟩,
        ⟨(some 19), .mm true (.t 16) [(.t 18)], none⟩,
        ⟨(some 3), .mv (.t 19), none⟩])))
    (.rg [⟨(some 20), .bin .add (.t 12) (.k (.d (.int .i64 1))), none⟩,
      ⟨(some 12), .mv (.t 20), none⟩])))))))
(.seq (.rg [⟨(some 21), .mv (.t 3), none⟩,
  ⟨(some 22), .bin .add (.t 21) (.k (.d (.int .i64 1))), none⟩,
  ⟨(some 2), .mv (.t 22), none⟩])
.ret))))) }
theorem af48_ok : cFun Try.prog eqT Try.f48 = some af48 := by kernel_rfl
/-- dossier/eval.many -/
noncomputable def af49 : AFun := { np := 2, nt := 64, res := [.c 4 (some 6), .t 5], code :=
(.seq (.rg [⟨(some 4), .new [.d (.int .i64 0), .d (.bool false), .d (.int .i64 0), .d (.int .i64 0), .d (.str []), .nils], none⟩,
  ⟨(some 5), .mv (.k (.d (.int .i64 0))), none⟩])
(.seq (.block 0
  (.seq (.rg [⟨(some 11), .mv (.t 1), none⟩,
    ⟨(some 12), .lenq false (.t 11), none⟩,
    ⟨(some 13), .bin .eql (.t 12) (.k (.d (.int .i64 0))), none⟩,
    ⟨(some 10), .mv (.t 13), none⟩])
  (.cond (.t 10)
    (.seq (.rg [⟨(some 14), .build [.int .i64 0, .bool false, .int .i64 0, .int .i64 0, .str [], .sl []] [], none⟩,
      ⟨none, .st 6 (.t 4) (.t 14), none⟩,
      ⟨(some 5), .mv (.k (.d (.int .i64 0))), none⟩])
    .ret)
    (.seq (.rg [⟨(some 16), .mv (.t 1), none⟩,
      ⟨(some 17), .lenq false (.t 16), none⟩,
      ⟨(some 18), .bin .eql (.t 17) (.k (.d (.int .i64 1))), none⟩,
      ⟨(some 19), .mv (.t 18), none⟩,
      ⟨(some 20), .mv (.t 1), some (19, true)⟩,
      ⟨(some 21), .iad 6 (.t 20) (.k (.d (.int .i64 0))), some (19, true)⟩,
      ⟨(some 22), .fad (.t 21) 0, some (19, true)⟩,
      ⟨(some 23), .ld none (.t 22), some (19, true)⟩,
      ⟨(some 24), .bin .eql (.t 23) (.k (.d (.int .i64 4))), some (19, true)⟩,
      ⟨(some 25), .pick (.t 19) (.t 24) (.k (.d (.bool false))), none⟩,
      ⟨(some 15), .mv (.t 25), none⟩])
    (.cond (.t 15)
      (.rg [⟨(some 26), .mv (.t 1), none⟩,
        ⟨(some 27), .iad 6 (.t 26) (.k (.d (.int .i64 0))), none⟩,
        ⟨(some 28), .fad (.t 27) 5, none⟩,
        ⟨(some 29), .ld none (.t 28), none⟩,
        ⟨(some 1), .mv (.t 29), none⟩])
      .skip)))))
(.seq (.seq (.rg [⟨(some 30), .mv (.t 1), none⟩,
  ⟨(some 31), .call (.k (.fn 40 [])) [(.k (.d (.int .i64 2))), (.t 30)], none⟩,
  ⟨(some 32), .un .not (.t 31), none⟩])
(.cond (.t 32)
  (.seq (.rg [⟨(some 33), .build [.int .i64 0, .bool false, .int .i64 0, .int .i64 0, .str [], .sl []] [], none⟩,
    ⟨none, .st 6 (.t 4) (.t 33), none⟩,
    ⟨(some 5), .mv (.k (.d (.int .i64 0))), none⟩])
  .ret)
  .skip))
(.seq (.seq (.rg [⟨(some 34), .mv (.t 0), none⟩,
  ⟨(some 35), .bin .eql (.t 34) (.k (.d (.str [115, 117, 109]))), none⟩])
(.cond (.t 35)
  (.seq (.rg [⟨(some 36), .mv (.t 1), none⟩,
    ⟨(some 37), .call (.k (.fn 74 [])) [(.t 36)], none⟩,
    ⟨(some 38), .ext (.t 37) 0, none⟩,
    ⟨(some 39), .ext (.t 37) 1, none⟩,
    ⟨none, .st 6 (.t 4) (.t 38), none⟩,
    ⟨(some 5), .mv (.t 39), none⟩])
  .ret)
  .skip))
(.seq (.rg [⟨(some 40), .build [.int .i64 0, .bool false, .int .i64 0, .int .i64 0, .str [], .sl []] [], none⟩,
  ⟨(some 6), .new [.d (.int .i64 0), .d (.bool false), .d (.int .i64 0), .d (.int .i64 0), .d (.str []), .nils], none⟩,
  ⟨none, .st 6 (.t 6) (.t 40), none⟩])
(.seq (.seq (.rg [⟨(some 41), .mv (.t 1), none⟩,
  ⟨(some 42), .lenq false (.t 41), none⟩,
  ⟨(some 43), .mv (.k (.d (.int .i64 0))), none⟩])
(.block 1
  (.loop
    (.seq (.rg [⟨(some 44), .bin .lss (.t 43) (.t 42), none⟩])
    (.seq (.cond (.t 44)
      .skip
      (.exit 1))
    (.seq (.block 2
      (.seq (.rg [⟨(some 45), .mv (.t 43), none⟩,
        ⟨(some 46), .iad 6 (.t 41) (.t 43), none⟩,
        ⟨(some 47), .ld (some 6) (.t 46), none⟩,
        ⟨(some 8), .new [.d (.int .i64 0), .d (.bool false), .d (.int .i64 0), .d (.int .i64 0), .d (.str []), .nils], none⟩,
        ⟨(some 7), .mv (.t 45), none⟩,
        ⟨none, .st 6 (.t 8) (.t 47), none⟩])
      (.seq (.rg [⟨(some 48), .ld (some 6) (.t 8), none⟩,
        ⟨(some 49), .ld (some 6) (.t 6), none⟩,
        ⟨(some 50), .call (.k (.fn 73 [])) [(.t 48), (.t 49)], none⟩,
        ⟨(some 9), .mv (.t 50), none⟩])
      (.seq (.seq (.rg [⟨(some 51), .mv (.t 0), none⟩,
        ⟨(some 52), .call (.k (.fn 75 [])) [(.t 51), (.k (.d (.str [109, 105, 110])))], none⟩])
      (.cond (.t 52)
        (.rg [⟨(some 53), .mv (.t 9), none⟩,
          ⟨(some 54), .un .neg (.t 53), none⟩,
          ⟨(some 9), .mv (.t 54), none⟩])
        .skip))
      (.seq (.rg [⟨(some 55), .mv (.t 7), none⟩,
        ⟨(some 56), .bin .eql (.t 55) (.k (.d (.int .i64 0))), none⟩,
        ⟨(some 57), .mv (.t 56), none⟩,
        ⟨(some 58), .mv (.t 9), some (57, false)⟩,
        ⟨(some 59), .bin .gtr (.t 58) (.k (.d (.int .i64 0))), some (57, false)⟩,
        ⟨(some 60), .pick (.t 57) (.k (.d (.bool true))) (.t 59), none⟩])
      (.cond (.t 60)
        (.rg [⟨(some 61), .ld (some 6) (.t 8), none⟩,
          ⟨none, .st 6 (.t 6) (.t 61), none⟩])
        .skip))))))
    (.rg [⟨(some 62), .bin .add (.t 43) (.k (.d (.int .i64 1))), none⟩,
      ⟨(some 43), .mv (.t 62), none⟩])))))))
(.seq (.rg [⟨(some 63), .ld (some 6) (.t 6), none⟩,
  ⟨none, .st 6 (.t 4) (.t 63), none⟩,
  ⟨(some 5), .mv (.k (.d (.int .i64 0))), none⟩])
.ret))))))) }
theorem af49_ok : cFun Try.prog eqT Try.f49 = some af49 := by kernel_rfl
/-- dossier/eval.one -/
noncomputable def af50 : AFun := { np := 2, nt := 70, res := [.c 4 (some 6)], code :=
(.seq (.rg [⟨(some 3), .box (.t 1), none⟩,
  ⟨(some 4), .new [.d (.int .i64 0), .d (.bool false), .d (.int .i64 0), .d (.int .i64 0), .d (.str []), .nils], none⟩])
(.seq (.block 0
  (.seq (.rg [⟨(some 6), .mv (.t 0), none⟩,
    ⟨(some 7), .bin .eql (.t 6) (.k (.d (.str [110, 111, 116]))), none⟩,
    ⟨(some 5), .mv (.t 7), none⟩])
  (.cond (.t 5)
    (.seq (.rg [⟨(some 8), .ld (some 6) (.t 3), none⟩,
      ⟨(some 9), .call (.k (.fn 66 [])) [(.t 8)], none⟩,
      ⟨none, .st 6 (.t 4) (.t 9), none⟩])
    .ret)
    (.seq (.rg [⟨(some 11), .mv (.t 0), none⟩,
      ⟨(some 12), .bin .eql (.t 11) (.k (.d (.str [108, 101, 110]))), none⟩,
      ⟨(some 13), .mv (.t 12), none⟩,
      ⟨(some 14), .fad (.t 3) 0, some (13, true)⟩,
      ⟨(some 15), .ld none (.t 14), some (13, true)⟩,
      ⟨(some 16), .bin .eql (.t 15) (.k (.d (.int .i64 3))), some (13, true)⟩,
      ⟨(some 17), .pick (.t 13) (.t 16) (.k (.d (.bool false))), none⟩,
      ⟨(some 10), .mv (.t 17), none⟩])
    (.cond (.t 10)
      (.seq (.rg [⟨(some 18), .fad (.t 3) 4, none⟩,
        ⟨(some 19), .ld none (.t 18), none⟩,
        ⟨(some 20), .lenq true (.t 19), none⟩,
        ⟨(some 21), .call (.k (.fn 30 [])) [(.t 20)], none⟩,
        ⟨none, .st 6 (.t 4) (.t 21), none⟩])
      .ret)
      (.seq (.rg [⟨(some 23), .mv (.t 0), none⟩,
        ⟨(some 24), .bin .eql (.t 23) (.k (.d (.str [99, 111, 117, 110, 116]))), none⟩,
        ⟨(some 25), .mv (.t 24), none⟩,
        ⟨(some 26), .fad (.t 3) 0, some (25, true)⟩,
        ⟨(some 27), .ld none (.t 26), some (25, true)⟩,
        ⟨(some 28), .bin .eql (.t 27) (.k (.d (.int .i64 4))), some (25, true)⟩,
        ⟨(some 29), .pick (.t 25) (.t 28) (.k (.d (.bool false))), none⟩,
        ⟨(some 22), .mv (.t 29), none⟩])
      (.cond (.t 22)
        (.seq (.rg [⟨(some 30), .fad (.t 3) 5, none⟩,
          ⟨(some 31), .ld none (.t 30), none⟩,
          ⟨(some 32), .lenq false (.t 31), none⟩,
          ⟨(some 33), .call (.k (.fn 30 [])) [(.t 32)], none⟩,
          ⟨none, .st 6 (.t 4) (.t 33), none⟩])
        .ret)
        (.seq (.rg [⟨(some 35), .fad (.t 3) 0, none⟩,
          ⟨(some 36), .ld none (.t 35), none⟩,
          ⟨(some 37), .bin .neq (.t 36) (.k (.d (.int .i64 2))), none⟩,
          ⟨(some 34), .mv (.t 37), none⟩])
        (.cond (.t 34)
          (.seq (.rg [⟨(some 38), .build [.int .i64 0, .bool false, .int .i64 0, .int .i64 0, .str [], .sl []] [], none⟩,
            ⟨none, .st 6 (.t 4) (.t 38), none⟩])
          .ret)
          (.seq (.rg [⟨(some 40), .mv (.t 0), none⟩,
            ⟨(some 41), .bin .eql (.t 40) (.k (.d (.str [97, 98, 115]))), none⟩,
            ⟨(some 39), .mv (.t 41), none⟩])
          (.cond (.t 39)
            (.seq (.rg [⟨(some 42), .fad (.t 3) 2, none⟩,
              ⟨(some 43), .fad (.t 42) 0, none⟩,
              ⟨(some 44), .ld none (.t 43), none⟩,
              ⟨(some 45), .fad (.t 3) 2, none⟩,
              ⟨(some 46), .fad (.t 45) 0, none⟩,
              ⟨(some 47), .ld none (.t 46), none⟩,
              ⟨(some 48), .un .neg (.t 47), none⟩,
              ⟨(some 49), .mm true (.t 44) [(.t 48)], none⟩,
              ⟨(some 50), .fad (.t 3) 2, none⟩,
              ⟨(some 51), .fad (.t 50) 1, none⟩,
              ⟨(some 52), .ld none (.t 51), none⟩,
              ⟨(some 53), .build [.int .i64 0, .int .i64 0] [(0, 1, (.t 49)), (1, 1, (.t 52))], none⟩,
              ⟨(some 54), .call (.k (.fn 27 [])) [(.t 53)], none⟩,
              ⟨none, .st 6 (.t 4) (.t 54), none⟩])
            .ret)
            (.seq (.rg [⟨(some 56), .mv (.t 0), none⟩,
              ⟨(some 57), .bin .eql (.t 56) (.k (.d (.str [102, 108, 111, 111, 114]))), none⟩,
              ⟨(some 55), .mv (.t 57), none⟩])
            (.cond (.t 55)
              (.seq (.rg [⟨(some 58), .fad (.t 3) 2, none⟩,
                ⟨(some 59), .ld (some 2) (.t 58), none⟩,
                ⟨(some 60), .call (.k (.fn 76 [])) [(.t 59)], none⟩,
                ⟨(some 61), .call (.k (.fn 27 [])) [(.t 60)], none⟩,
                ⟨none, .st 6 (.t 4) (.t 61), none⟩])
              .ret)
              (.seq (.rg [⟨(some 63), .mv (.t 0), none⟩,
                ⟨(some 64), .bin .eql (.t 63) (.k (.d (.str [99, 101, 105, 108]))), none⟩,
                ⟨(some 62), .mv (.t 64), none⟩])
              (.cond (.t 62)
                (.seq (.rg [⟨(some 65), .fad (.t 3) 2, none⟩,
                  ⟨(some 66), .ld (some 2) (.t 65), none⟩,
                  ⟨(some 67), .call (.k (.fn 77 [])) [(.t 66)], none⟩,
                  ⟨(some 68), .call (.k (.fn 27 [])) [(.t 67)], none⟩,
                  ⟨none, .st 6 (.t 4) (.t 68), none⟩])
                .ret)
                .skip)))))))))))))))
(.seq (.rg [⟨(some 69), .build [.int .i64 0, .bool false, .int .i64 0, .int .i64 0, .str [], .sl []] [], none⟩,
  ⟨none, .st 6 (.t 4) (.t 69), none⟩])
.ret))) }
theorem af50_ok : cFun Try.prog eqT Try.f50 = some af50 := by kernel_rfl
/-- dossier/eval.two -/
noncomputable def af51 : AFun := { np := 3, nt := 66, res := [.c 6 (some 6)], code :=
(.seq (.rg [⟨(some 4), .box (.t 1), none⟩,
  ⟨(some 5), .box (.t 2), none⟩,
  ⟨(some 6), .new [.d (.int .i64 0), .d (.bool false), .d (.int .i64 0), .d (.int .i64 0), .d (.str []), .nils], none⟩])
(.seq (.block 0
  (.seq (.rg [⟨(some 10), .mv (.t 0), none⟩,
    ⟨(some 11), .bin .eql (.t 10) (.k (.d (.str [104, 97, 115]))), none⟩,
    ⟨(some 12), .mv (.t 11), none⟩,
    ⟨(some 13), .fad (.t 4) 0, some (12, true)⟩,
    ⟨(some 14), .ld none (.t 13), some (12, true)⟩,
    ⟨(some 15), .bin .eql (.t 14) (.k (.d (.int .i64 4))), some (12, true)⟩,
    ⟨(some 16), .pick (.t 12) (.t 15) (.k (.d (.bool false))), none⟩,
    ⟨(some 9), .mv (.t 16), none⟩])
  (.cond (.t 9)
    (.seq (.seq (.rg [⟨(some 17), .fad (.t 4) 5, none⟩,
      ⟨(some 18), .ld none (.t 17), none⟩,
      ⟨(some 19), .lenq false (.t 18), none⟩,
      ⟨(some 20), .mv (.k (.d (.int .i64 0))), none⟩])
    (.block 1
      (.loop
        (.seq (.rg [⟨(some 21), .bin .lss (.t 20) (.t 19), none⟩])
        (.seq (.cond (.t 21)
          .skip
          (.exit 1))
        (.seq (.block 2
          (.seq (.rg [⟨(some 22), .iad 6 (.t 18) (.t 20), none⟩,
            ⟨(some 23), .ld (some 6) (.t 22), none⟩,
            ⟨(some 8), .new [.d (.int .i64 0), .d (.bool false), .d (.int .i64 0), .d (.int .i64 0), .d (.str []), .nils], none⟩,
            ⟨none, .st 6 (.t 8) (.t 23), none⟩])
          (.seq (.rg [⟨(some 24), .ld (some 6) (.t 8), none⟩,
            ⟨(some 25), .ld (some 6) (.t 5), none⟩,
            ⟨(some 26), .call (.k (.fn 72 [])) [(.t 24), (.t 25)], none⟩])
          (.cond (.t 26)
            (.seq (.rg [⟨(some 27), .call (.k (.fn 26 [])) [(.k (.d (.bool true)))], none⟩,
              ⟨none, .st 6 (.t 6) (.t 27), none⟩])
            .ret)
            .skip))))
        (.rg [⟨(some 28), .bin .add (.t 20) (.k (.d (.int .i64 1))), none⟩,
          ⟨(some 20), .mv (.t 28), none⟩])))))))
    (.seq (.rg [⟨(some 29), .call (.k (.fn 26 [])) [(.k (.d (.bool false)))], none⟩,
      ⟨none, .st 6 (.t 6) (.t 29), none⟩])
    .ret))
    (.seq (.rg [⟨(some 31), .mv (.t 0), none⟩,
      ⟨(some 32), .bin .eql (.t 31) (.k (.d (.str [109, 111, 100]))), none⟩,
      ⟨(some 33), .mv (.t 32), none⟩,
      ⟨(some 34), .ld (some 6) (.t 4), some (33, true)⟩,
      ⟨(some 35), .ld (some 6) (.t 5), some (33, true)⟩,
      ⟨(some 36), .mkrow 26 6 [(.t 34), (.t 35)], some (33, true)⟩,
      ⟨(some 37), .call (.k (.fn 40 [])) [(.k (.d (.int .i64 2))), (.t 36)], some (33, true)⟩,
      ⟨(some 38), .pick (.t 33) (.t 37) (.k (.d (.bool false))), none⟩,
      ⟨(some 39), .mv (.t 38), none⟩,
      ⟨(some 40), .fad (.t 4) 2, some (39, true)⟩,
      ⟨(some 41), .fad (.t 40) 1, some (39, true)⟩,
      ⟨(some 42), .ld none (.t 41), some (39, true)⟩,
      ⟨(some 43), .bin .eql (.t 42) (.k (.d (.int .i64 0))), some (39, true)⟩,
      ⟨(some 44), .pick (.t 39) (.t 43) (.k (.d (.bool false))), none⟩,
      ⟨(some 45), .mv (.t 44), none⟩,
      ⟨(some 46), .fad (.t 5) 2, some (45, true)⟩,
      ⟨(some 47), .fad (.t 46) 1, some (45, true)⟩,
      ⟨(some 48), .ld none (.t 47), some (45, true)⟩,
      ⟨(some 49), .bin .eql (.t 48) (.k (.d (.int .i64 0))), some (45, true)⟩,
      ⟨(some 50), .pick (.t 45) (.t 49) (.k (.d (.bool false))), none⟩,
      ⟨(some 51), .mv (.t 50), none⟩,
      ⟨(some 52), .fad (.t 5) 2, some (51, true)⟩,
      ⟨(some 53), .fad (.t 52) 0, some (51, true)⟩,
      ⟨(some 54), .ld none (.t 53), some (51, true)⟩,
      ⟨(some 55), .bin .neq (.t 54) (.k (.d (.int .i64 0))), some (51, true)⟩,
      ⟨(some 56), .pick (.t 51) (.t 55) (.k (.d (.bool false))), none⟩,
      ⟨(some 30), .mv (.t 56), none⟩])
    (.cond (.t 30)
      (.seq (.rg [⟨(some 57), .fad (.t 4) 2, none⟩,
        ⟨(some 58), .fad (.t 57) 0, none⟩,
        ⟨(some 59), .ld none (.t 58), none⟩,
        ⟨(some 60), .fad (.t 5) 2, none⟩,
        ⟨(some 61), .fad (.t 60) 0, none⟩,
        ⟨(some 62), .ld none (.t 61), none⟩,
        ⟨(some 63), .call (.k (.fn 78 [])) [(.t 59), (.t 62)], none⟩,
        ⟨(some 64), .call (.k (.fn 30 [])) [(.t 63)], none⟩,
        ⟨none, .st 6 (.t 6) (.t 64), none⟩])
      .ret)
      .skip)))))
(.seq (.rg [⟨(some 65), .build [.int .i64 0, .bool false, .int .i64 0, .int .i64 0, .str [], .sl []] [], none⟩,
  ⟨none, .st 6 (.t 6) (.t 65), none⟩])
.ret))) }
theorem af51_ok : cFun Try.prog eqT Try.f51 = some af51 := by kernel_rfl
/-- dossier/dossierref3.letter -/
noncomputable def af52 : AFun := { np := 1, nt := 9, res := [.t 2], code :=
(.seq (.rg [⟨(some 2), .mv (.k (.d (.bool false))), none⟩])
(.seq (.rg [⟨(some 3), .mv (.t 0), none⟩,
  ⟨(some 4), .bin .geq (.t 3) (.k (.d (.int .u8 97))), none⟩,
  ⟨(some 5), .mv (.t 4), none⟩,
  ⟨(some 6), .mv (.t 0), some (5, true)⟩,
  ⟨(some 7), .bin .leq (.t 6) (.k (.d (.int .u8 122))), some (5, true)⟩,
  ⟨(some 8), .pick (.t 5) (.t 7) (.k (.d (.bool false))), none⟩,
  ⟨(some 2), .mv (.t 8), none⟩])
.ret)) }
theorem af52_ok : cFun Try.prog eqT Try.f52 = some af52 := by kernel_rfl
/-- dossier/dossierref3.digit -/
noncomputable def af53 : AFun := { np := 1, nt := 9, res := [.t 2], code :=
(.seq (.rg [⟨(some 2), .mv (.k (.d (.bool false))), none⟩])
(.seq (.rg [⟨(some 3), .mv (.t 0), none⟩,
  ⟨(some 4), .bin .geq (.t 3) (.k (.d (.int .u8 48))), none⟩,
  ⟨(some 5), .mv (.t 4), none⟩,
  ⟨(some 6), .mv (.t 0), some (5, true)⟩,
  ⟨(some 7), .bin .leq (.t 6) (.k (.d (.int .u8 57))), some (5, true)⟩,
  ⟨(some 8), .pick (.t 5) (.t 7) (.k (.d (.bool false))), none⟩,
  ⟨(some 2), .mv (.t 8), none⟩])
.ret)) }
theorem af53_ok : cFun Try.prog eqT Try.f53 = some af53 := by kernel_rfl
/-- dossier/dossierref3.Word -/
noncomputable def af54 : AFun := { np := 1, nt := 18, res := [.t 2], code :=
(.seq (.rg [⟨(some 2), .mv (.k (.d (.bool false))), none⟩])
(.seq (.rg [⟨(some 5), .mkrow 9 1 [(.k (.d (.str [116, 114, 117, 101]))), (.k (.d (.str [102, 97, 108, 115, 101]))), (.k (.d (.str [110, 117, 108, 108]))), (.k (.d (.str [105, 102]))), (.k (.d (.str [116, 104, 101, 110]))), (.k (.d (.str [101, 108, 115, 101]))), (.k (.d (.str [97, 110, 100]))), (.k (.d (.str [111, 114]))), (.k (.d (.str [105, 110])))], none⟩,
  ⟨(some 3), .mv (.t 5), none⟩])
(.seq (.seq (.rg [⟨(some 4), .mv (.k (.d (.int .i64 0))), none⟩])
(.block 0
  (.loop
    (.seq (.seq (.rg [⟨(some 6), .mv (.t 4), none⟩,
      ⟨(some 7), .mv (.t 3), none⟩,
      ⟨(some 8), .lenq false (.t 7), none⟩,
      ⟨(some 9), .bin .lss (.t 6) (.t 8), none⟩])
    (.cond (.t 9)
      .skip
      (.exit 0)))
    (.seq (.block 1
      (.seq (.rg [⟨(some 12), .mv (.t 3), none⟩,
        ⟨(some 13), .mv (.t 4), none⟩,
        ⟨(some 14), .iad 1 (.t 12) (.t 13), none⟩,
        ⟨(some 15), .ld none (.t 14), none⟩,
        ⟨(some 16), .mv (.t 0), none⟩,
        ⟨(some 17), .bin .eql (.t 15) (.t 16), none⟩])
      (.cond (.t 17)
        (.seq (.rg [⟨(some 2), .mv (.k (.d (.bool true))), none⟩])
        .ret)
        .skip)))
    (.rg [⟨(some 10), .mv (.t 4), none⟩,
      ⟨(some 11), .bin .add (.t 10) (.k (.d (.int .i64 1))), none⟩,
      ⟨(some 4), .mv (.t 11), none⟩]))))))
(.seq (.rg [⟨(some 2), .mv (.k (.d (.bool false))), none⟩])
.ret)))) }
theorem af54_ok : cFun Try.prog eqT Try.f54 = some af54 := by kernel_rfl
/-- (*dossier/dossierref4.reader).deep -/
noncomputable def af55 : AFun := { np := 2, nt := 14, res := [.t 4], code :=
(.seq (.rg [⟨(some 4), .mv (.k (.d (.bool false))), none⟩])
(.seq (.seq (.rg [⟨(some 5), .mv (.t 1), none⟩,
  ⟨(some 6), .bin .gtr (.t 5) (.k (.d (.int .i64 8))), none⟩])
(.cond (.t 6)
  (.rg [⟨(some 7), .mv (.t 0), none⟩,
    ⟨(some 8), .call (.k (.fn 79 [])) [(.t 7), (.k (.d (.int .i64 12)))], none⟩])
  .skip))
(.seq (.rg [⟨(some 9), .mv (.t 0), none⟩,
  ⟨(some 10), .nilck (.t 9), none⟩,
  ⟨(some 11), .fad (.t 10) 3, none⟩,
  ⟨(some 12), .ld none (.t 11), none⟩,
  ⟨(some 13), .bin .neq (.t 12) (.k (.d (.int .i64 0))), none⟩,
  ⟨(some 4), .mv (.t 13), none⟩])
.ret))) }
theorem af55_ok : cFun Try.prog eqT Try.f55 = some af55 := by kernel_rfl
/-- (*dossier/dossierref4.reader).and -/
noncomputable def af56 : AFun := { np := 2, nt := 19, res := [.c 4 (some 8)], code :=
(.seq (.rg [⟨(some 4), .new [.d (.int .i64 0), .d (.bool false), .d (.int .i64 0), .d (.int .i64 0), .d (.str []), .d (.bool false), .d (.bool false), .nils], none⟩])
(.seq (.rg [⟨(some 6), .mv (.t 0), none⟩,
  ⟨(some 7), .mv (.t 1), none⟩,
  ⟨(some 8), .call (.k (.fn 80 [])) [(.t 6), (.t 7)], none⟩,
  ⟨(some 5), .new [.d (.int .i64 0), .d (.bool false), .d (.int .i64 0), .d (.int .i64 0), .d (.str []), .d (.bool false), .d (.bool false), .nils], none⟩,
  ⟨none, .st 8 (.t 5) (.t 8), none⟩])
(.seq (.block 0
  (.loop
    (.seq (.seq (.rg [⟨(some 9), .mv (.t 0), none⟩,
      ⟨(some 10), .mkrow 9 1 [(.k (.d (.str [97, 110, 100])))], none⟩,
      ⟨(some 11), .call (.k (.fn 57 [])) [(.t 9), (.t 10)], none⟩,
      ⟨(some 12), .bin .neq (.t 11) (.k (.d (.str []))), none⟩])
    (.cond (.t 12)
      .skip
      (.exit 0)))
    (.block 1
      (.rd [⟨(some 13), .ld (some 8) (.t 5), none⟩,
        ⟨(some 14), .mv (.t 0), none⟩,
        ⟨(some 15), .mv (.t 1), none⟩,
        ⟨(some 16), .call (.k (.fn 80 [])) [(.t 14), (.t 15)], none⟩,
        ⟨(some 17), .call (.k (.fn 58 [])) [(.k (.d (.str [97, 110, 100]))), (.t 13), (.t 16)], none⟩,
        ⟨none, .st 8 (.t 5) (.t 17), none⟩] [(0, 3)])))))
(.seq (.rg [⟨(some 18), .ld (some 8) (.t 5), none⟩,
  ⟨none, .st 8 (.t 4) (.t 18), none⟩])
.ret)))) }
theorem af56_ok : cFun Try.prog eqT Try.f56 = some af56 := by kernel_rfl
/-- (*dossier/dossierref4.reader).take -/
noncomputable def af57 : AFun := { np := 2, nt := 29, res := [.t 4], code :=
(.seq (.rg [⟨(some 4), .mv (.k (.d (.str []))), none⟩])
(.seq (.seq (.rg [⟨(some 5), .mv (.k (.d (.int .i64 0))), none⟩])
(.block 0
  (.loop
    (.seq (.seq (.rg [⟨(some 6), .mv (.t 5), none⟩,
      ⟨(some 7), .mv (.t 1), none⟩,
      ⟨(some 8), .lenq false (.t 7), none⟩,
      ⟨(some 9), .bin .lss (.t 6) (.t 8), none⟩])
    (.cond (.t 9)
      .skip
      (.exit 0)))
    (.seq (.block 1
      (.seq (.rg [⟨(some 12), .mv (.t 0), none⟩,
        ⟨(some 13), .mv (.t 1), none⟩,
        ⟨(some 14), .mv (.t 5), none⟩,
        ⟨(some 15), .iad 1 (.t 13) (.t 14), none⟩,
        ⟨(some 16), .ld none (.t 15), none⟩,
        ⟨(some 17), .call (.k (.fn 81 [])) [(.t 12), (.t 16)], none⟩])
      (.cond (.t 17)
        (.seq (.rg [⟨(some 18), .mv (.t 0), none⟩,
          ⟨(some 19), .nilck (.t 18), none⟩,
          ⟨(some 20), .fad (.t 19) 1, none⟩,
          ⟨(some 21), .ld none (.t 20), none⟩,
          ⟨(some 22), .bin .add (.t 21) (.k (.d (.int .i64 1))), none⟩,
          ⟨(some 23), .nilck (.t 18), none⟩,
          ⟨(some 24), .fad (.t 23) 1, none⟩,
          ⟨none, .st 1 (.t 24) (.t 22), none⟩])
        (.seq (.rg [⟨(some 25), .mv (.t 1), none⟩,
          ⟨(some 26), .mv (.t 5), none⟩,
          ⟨(some 27), .iad 1 (.t 25) (.t 26), none⟩,
          ⟨(some 28), .ld none (.t 27), none⟩,
          ⟨(some 4), .mv (.t 28), none⟩])
        .ret))
        .skip)))
    (.rg [⟨(some 10), .mv (.t 5), none⟩,
      ⟨(some 11), .bin .add (.t 10) (.k (.d (.int .i64 1))), none⟩,
      ⟨(some 5), .mv (.t 11), none⟩]))))))
(.seq (.rg [⟨(some 4), .mv (.k (.d (.str []))), none⟩])
.ret))) }
theorem af57_ok : cFun Try.prog eqT Try.f57 = some af57 := by kernel_rfl
/-- dossier/dossierref4.bin -/
noncomputable def af58 : AFun := { np := 3, nt := 12, res := [.c 6 (some 8)], code :=
(.seq (.rg [⟨(some 4), .box (.t 1), none⟩,
  ⟨(some 5), .box (.t 2), none⟩,
  ⟨(some 6), .new [.d (.int .i64 0), .d (.bool false), .d (.int .i64 0), .d (.int .i64 0), .d (.str []), .d (.bool false), .d (.bool false), .nils], none⟩])
(.seq (.rg [⟨(some 7), .mv (.t 0), none⟩,
  ⟨(some 8), .ld (some 8) (.t 4), none⟩,
  ⟨(some 9), .ld (some 8) (.t 5), none⟩,
  ⟨(some 10), .mkrow 39 8 [(.t 8), (.t 9)], none⟩,
  ⟨(some 11), .build [.int .i64 0, .bool false, .int .i64 0, .int .i64 0, .str [], .bool false, .bool false, .sl []] [(0, 1, (.k (.d (.int .i64 6)))), (4, 1, (.t 7)), (7, 1, (.t 10))], none⟩,
  ⟨none, .st 8 (.t 6) (.t 11), none⟩])
.ret)) }
theorem af58_ok : cFun Try.prog eqT Try.f58 = some af58 := by kernel_rfl
/-- dossier/val.named -/
noncomputable def af59 : AFun := { np := 1, nt := 30, res := [.c 2 (some 6)], code :=
(.seq (.rg [⟨(some 1), .box (.t 0), none⟩,
  ⟨(some 2), .new [.d (.int .i64 0), .d (.bool false), .d (.int .i64 0), .d (.int .i64 0), .d (.str []), .nils], none⟩])
(.seq (.rg [⟨(some 4), .fad (.t 1) 0, none⟩,
  ⟨(some 5), .ld none (.t 4), none⟩,
  ⟨(some 6), .build [.int .i64 0, .bool false, .int .i64 0, .int .i64 0, .str [], .sl []] [(0, 1, (.t 5))], none⟩,
  ⟨(some 3), .new [.d (.int .i64 0), .d (.bool false), .d (.int .i64 0), .d (.int .i64 0), .d (.str []), .nils], none⟩,
  ⟨none, .st 6 (.t 3) (.t 6), none⟩])
(.seq (.seq (.rg [⟨(some 7), .fad (.t 1) 0, none⟩,
  ⟨(some 8), .ld none (.t 7), none⟩])
(.block 0
  (.seq (.rg [⟨(some 10), .bin .eql (.t 8) (.k (.d (.int .i64 1))), none⟩,
    ⟨(some 9), .mv (.t 10), none⟩])
  (.cond (.t 9)
    (.rg [⟨(some 11), .fad (.t 1) 1, none⟩,
      ⟨(some 12), .ld none (.t 11), none⟩,
      ⟨(some 13), .fad (.t 3) 1, none⟩,
      ⟨none, .st 1 (.t 13) (.t 12), none⟩])
    (.seq (.rg [⟨(some 15), .bin .eql (.t 8) (.k (.d (.int .i64 2))), none⟩,
      ⟨(some 14), .mv (.t 15), none⟩])
    (.cond (.t 14)
      (.rg [⟨(some 16), .fad (.t 1) 2, none⟩,
        ⟨(some 17), .ld (some 2) (.t 16), none⟩,
        ⟨(some 18), .fad (.t 3) 2, none⟩,
        ⟨none, .st 2 (.t 18) (.t 17), none⟩])
      (.seq (.rg [⟨(some 20), .bin .eql (.t 8) (.k (.d (.int .i64 3))), none⟩,
        ⟨(some 19), .mv (.t 20), none⟩])
      (.cond (.t 19)
        (.rg [⟨(some 21), .fad (.t 1) 4, none⟩,
          ⟨(some 22), .ld none (.t 21), none⟩,
          ⟨(some 23), .fad (.t 3) 4, none⟩,
          ⟨none, .st 1 (.t 23) (.t 22), none⟩])
        (.seq (.rg [⟨(some 25), .bin .eql (.t 8) (.k (.d (.int .i64 4))), none⟩,
          ⟨(some 24), .mv (.t 25), none⟩])
        (.cond (.t 24)
          (.rg [⟨(some 26), .fad (.t 1) 5, none⟩,
            ⟨(some 27), .ld none (.t 26), none⟩,
            ⟨(some 28), .fad (.t 3) 5, none⟩,
            ⟨none, .st 1 (.t 28) (.t 27), none⟩])
          .skip))))))))))
(.seq (.rg [⟨(some 29), .ld (some 6) (.t 3), none⟩,
  ⟨none, .st 6 (.t 2) (.t 29), none⟩])
.ret)))) }
theorem af59_ok : cFun Try.prog eqT Try.f59 = some af59 := by kernel_rfl
/-- dossier/val.isText -/
noncomputable def af60 : AFun := { np := 1, nt := 13, res := [.t 2], code :=
(.seq (.rg [⟨(some 2), .mv (.k (.d (.bool false))), none⟩])
(.seq (.rg [⟨(some 3), .mv (.k (.fn 82 [])), none⟩])
(.seq (.rg [⟨(some 4), .mv (.t 0), none⟩,
  ⟨(some 5), .lenq true (.t 4), none⟩,
  ⟨(some 6), .bin .leq (.t 5) (.k (.d (.int .i64 16))), none⟩,
  ⟨(some 7), .mv (.t 6), none⟩,
  ⟨(some 8), .mv (.t 0), some (7, true)⟩,
  ⟨(some 9), .mv (.t 3), some (7, true)⟩,
  ⟨(some 10), .call (.k (.fn 83 [])) [(.t 8), (.t 9)], some (7, true)⟩,
  ⟨(some 11), .bin .lss (.t 10) (.k (.d (.int .i64 0))), some (7, true)⟩,
  ⟨(some 12), .pick (.t 7) (.t 11) (.k (.d (.bool false))), none⟩,
  ⟨(some 2), .mv (.t 12), none⟩])
.ret))) }
theorem af60_ok : cFun Try.prog eqT Try.f60 = some af60 := by kernel_rfl
/-- dossier/val.may$1 -/
noncomputable def af61 : AFun := { np := 2, nt := 9, res := [.t 3], code :=
(.seq (.rg [⟨(some 2), .box (.t 0), none⟩,
  ⟨(some 3), .mv (.k (.d (.bool false))), none⟩])
(.seq (.rg [⟨(some 4), .ld (some 6) (.t 2), none⟩,
  ⟨(some 5), .ld none (.t 1), none⟩,
  ⟨(some 6), .bin .add (.t 5) (.k (.d (.int .i64 1))), none⟩,
  ⟨(some 7), .call (.k (.fn 38 [])) [(.t 4), (.t 6)], none⟩,
  ⟨(some 8), .un .not (.t 7), none⟩,
  ⟨(some 3), .mv (.t 8), none⟩])
.ret)) }
theorem af61_ok : cFun Try.prog eqT Try.f61 = some af61 := by kernel_rfl
/-- slices.ContainsFunc[[]dossier/api.Val,dossier/api.Val] -/
noncomputable def af62 : AFun := { np := 2, nt := 9, res := [.t 4], code :=
(.seq (.rg [⟨(some 4), .mv (.k (.d (.bool false))), none⟩])
(.seq (.rg [⟨(some 5), .mv (.t 0), none⟩,
  ⟨(some 6), .mv (.t 1), none⟩,
  ⟨(some 7), .call (.k (.fn 84 [])) [(.t 5), (.t 6)], none⟩,
  ⟨(some 8), .bin .geq (.t 7) (.k (.d (.int .i64 0))), none⟩,
  ⟨(some 4), .mv (.t 8), none⟩])
.ret)) }
theorem af62_ok : cFun Try.prog eqT Try.f62 = some af62 := by kernel_rfl
/-- slices.Clone[[]dossier/api.Val,dossier/api.Val] -/
noncomputable def af63 : AFun := { np := 1, nt := 8, res := [.t 2], code :=
(.seq (.rg [⟨(some 2), .mv (.k (.nils)), none⟩])
(.seq (.seq (.rg [⟨(some 3), .mv (.t 0), none⟩,
  ⟨(some 4), .eqn false (.t 3), none⟩])
(.cond (.t 4)
  (.seq (.rg [⟨(some 2), .mv (.k (.nils)), none⟩])
  .ret)
  .skip))
(.seq (.rg [⟨(some 5), .mkrow 26 6 [], none⟩,
  ⟨(some 6), .mv (.t 0), none⟩,
  ⟨(some 7), .app 26 6 72 (.t 5) (.t 6), none⟩,
  ⟨(some 2), .mv (.t 7), none⟩])
.ret))) }
theorem af63_ok : cFun Try.prog eqT Try.f63 = some af63 := by kernel_rfl
/-- dossier/val.falsehood -/
noncomputable def af64 : AFun := { np := 1, nt := 11, res := [.t 2], code :=
(.seq (.rg [⟨(some 1), .box (.t 0), none⟩,
  ⟨(some 2), .mv (.k (.d (.bool false))), none⟩])
(.seq (.rg [⟨(some 3), .fad (.t 1) 0, none⟩,
  ⟨(some 4), .ld none (.t 3), none⟩,
  ⟨(some 5), .bin .eql (.t 4) (.k (.d (.int .i64 1))), none⟩,
  ⟨(some 6), .mv (.t 5), none⟩,
  ⟨(some 7), .fad (.t 1) 1, some (6, true)⟩,
  ⟨(some 8), .ld none (.t 7), some (6, true)⟩,
  ⟨(some 9), .un .not (.t 8), some (6, true)⟩,
  ⟨(some 10), .pick (.t 6) (.t 9) (.k (.d (.bool false))), none⟩,
  ⟨(some 2), .mv (.t 10), none⟩])
.ret)) }
theorem af64_ok : cFun Try.prog eqT Try.f64 = some af64 := by kernel_rfl
/-- dossier/val.truth -/
noncomputable def af65 : AFun := { np := 1, nt := 5, res := [.c 2 (some 6)], code :=
(.seq (.rg [⟨(some 2), .new [.d (.int .i64 0), .d (.bool false), .d (.int .i64 0), .d (.int .i64 0), .d (.str []), .nils], none⟩])
(.seq (.rg [⟨(some 3), .mv (.t 0), none⟩,
  ⟨(some 4), .build [.int .i64 0, .bool false, .int .i64 0, .int .i64 0, .str [], .sl []] [(0, 1, (.k (.d (.int .i64 1)))), (1, 1, (.t 3))], none⟩,
  ⟨none, .st 6 (.t 2) (.t 4), none⟩])
.ret)) }
theorem af65_ok : cFun Try.prog eqT Try.f65 = some af65 := by kernel_rfl
/-- dossier/val.Not -/
noncomputable def af66 : AFun := { np := 1, nt := 11, res := [.c 2 (some 6)], code :=
(.seq (.rg [⟨(some 1), .box (.t 0), none⟩,
  ⟨(some 2), .new [.d (.int .i64 0), .d (.bool false), .d (.int .i64 0), .d (.int .i64 0), .d (.str []), .nils], none⟩])
(.seq (.seq (.rg [⟨(some 3), .fad (.t 1) 0, none⟩,
  ⟨(some 4), .ld none (.t 3), none⟩,
  ⟨(some 5), .bin .neq (.t 4) (.k (.d (.int .i64 1))), none⟩])
(.cond (.t 5)
  (.seq (.rg [⟨(some 6), .build [.int .i64 0, .bool false, .int .i64 0, .int .i64 0, .str [], .sl []] [], none⟩,
    ⟨none, .st 6 (.t 2) (.t 6), none⟩])
  .ret)
  .skip))
(.seq (.rg [⟨(some 7), .fad (.t 1) 1, none⟩,
  ⟨(some 8), .ld none (.t 7), none⟩,
  ⟨(some 9), .un .not (.t 8), none⟩,
  ⟨(some 10), .call (.k (.fn 65 [])) [(.t 9)], none⟩,
  ⟨none, .st 6 (.t 2) (.t 10), none⟩])
.ret))) }
theorem af66_ok : cFun Try.prog eqT Try.f66 = some af66 := by kernel_rfl
/-- dossier/dec.Fit -/
noncomputable def af67 : AFun := { np := 2, nt := 46, res := [.c 4 (some 2), .t 5], code :=
(.seq (.rg [⟨(some 4), .new [.d (.int .i64 0), .d (.int .i64 0)], none⟩,
  ⟨(some 5), .mv (.k (.d (.int .i64 0))), none⟩])
(.seq (.seq (.rg [⟨(some 8), .mv (.t 0), none⟩,
  ⟨(some 9), .bin .lss (.t 8) (.k (.d (.int .i64 (-1000000000000000000)))), none⟩,
  ⟨(some 10), .mv (.t 9), none⟩,
  ⟨(some 11), .mv (.t 0), some (10, false)⟩,
  ⟨(some 12), .bin .gtr (.t 11) (.k (.d (.int .i64 1000000000000000000))), some (10, false)⟩,
  ⟨(some 13), .pick (.t 10) (.k (.d (.bool true))) (.t 12), none⟩,
  ⟨(some 14), .mv (.t 13), none⟩,
  ⟨(some 15), .mv (.t 1), some (14, false)⟩,
  ⟨(some 16), .bin .lss (.t 15) (.k (.d (.int .i64 0))), some (14, false)⟩,
  ⟨(some 17), .pick (.t 14) (.k (.d (.bool true))) (.t 16), none⟩,
  ⟨(some 18), .mv (.t 17), none⟩,
  ⟨(some 19), .mv (.t 1), some (18, false)⟩,
  ⟨(some 20), .bin .gtr (.t 19) (.k (.d (.int .i64 8))), some (18, false)⟩,
  ⟨(some 21), .pick (.t 18) (.k (.d (.bool true))) (.t 20), none⟩])
(.cond (.t 21)
  (.seq (.rg [⟨(some 22), .build [.int .i64 0, .int .i64 0] [], none⟩,
    ⟨none, .st 2 (.t 4) (.t 22), none⟩,
    ⟨(some 5), .mv (.k (.d (.int .i64 1))), none⟩])
  .ret)
  .skip))
(.seq (.seq (.rg [⟨(some 23), .mv (.t 1), none⟩,
  ⟨(some 24), .mm false (.t 23) [(.k (.d (.int .i64 4)))], none⟩,
  ⟨(some 6), .mv (.t 24), none⟩])
(.block 0
  (.loop
    (.seq (.seq (.rg [⟨(some 25), .mv (.t 6), none⟩,
      ⟨(some 26), .bin .geq (.t 25) (.k (.d (.int .i64 0))), none⟩])
    (.cond (.t 26)
      .skip
      (.exit 0)))
    (.seq (.block 1
      (.seq (.rg [⟨(some 29), .mv (.t 0), none⟩,
        ⟨(some 30), .mv (.t 1), none⟩,
        ⟨(some 31), .mv (.t 6), none⟩,
        ⟨(some 32), .bin .sub (.t 30) (.t 31), none⟩,
        ⟨(some 33), .call (.k (.fn 86 [])) [(.t 32)], none⟩,
        ⟨(some 34), .call (.k (.fn 85 [])) [(.t 29), (.t 33)], none⟩,
        ⟨(some 7), .mv (.t 34), none⟩])
      (.seq (.rg [⟨(some 35), .mv (.t 7), none⟩,
        ⟨(some 36), .bin .geq (.t 35) (.k (.d (.int .i64 (-1000000000)))), none⟩,
        ⟨(some 37), .mv (.t 36), none⟩,
        ⟨(some 38), .mv (.t 7), some (37, true)⟩,
        ⟨(some 39), .bin .leq (.t 38) (.k (.d (.int .i64 1000000000))), some (37, true)⟩,
        ⟨(some 40), .pick (.t 37) (.t 39) (.k (.d (.bool false))), none⟩])
      (.cond (.t 40)
        (.seq (.rg [⟨(some 41), .mv (.t 7), none⟩,
          ⟨(some 42), .mv (.t 6), none⟩,
          ⟨(some 43), .build [.int .i64 0, .int .i64 0] [(0, 1, (.t 41)), (1, 1, (.t 42))], none⟩,
          ⟨(some 44), .call (.k (.fn 87 [])) [(.t 43)], none⟩,
          ⟨none, .st 2 (.t 4) (.t 44), none⟩,
          ⟨(some 5), .mv (.k (.d (.int .i64 0))), none⟩])
        .ret)
        .skip))))
    (.rg [⟨(some 27), .mv (.t 6), none⟩,
      ⟨(some 28), .bin .sub (.t 27) (.k (.d (.int .i64 1))), none⟩,
      ⟨(some 6), .mv (.t 28), none⟩]))))))
(.seq (.rg [⟨(some 45), .build [.int .i64 0, .int .i64 0] [], none⟩,
  ⟨none, .st 2 (.t 4) (.t 45), none⟩,
  ⟨(some 5), .mv (.k (.d (.int .i64 3))), none⟩])
.ret)))) }
theorem af67_ok : cFun Try.prog eqT Try.f67 = some af67 := by kernel_rfl
/-- dossier/dec.scaled -/
noncomputable def af68 : AFun := { np := 2, nt := 13, res := [.t 4], code :=
(.seq (.rg [⟨(some 2), .box (.t 0), none⟩,
  ⟨(some 4), .mv (.k (.d (.int .i64 0))), none⟩])
(.seq (.rd [⟨(some 5), .fad (.t 2) 0, none⟩,
  ⟨(some 6), .ld none (.t 5), none⟩,
  ⟨(some 7), .mv (.t 1), none⟩,
  ⟨(some 8), .fad (.t 2) 1, none⟩,
  ⟨(some 9), .ld none (.t 8), none⟩,
  ⟨(some 10), .bin .sub (.t 7) (.t 9), none⟩,
  ⟨(some 11), .call (.k (.fn 86 [])) [(.t 10)], none⟩,
  ⟨(some 12), .bin .mul (.t 6) (.t 11), none⟩,
  ⟨(some 4), .mv (.t 12), none⟩] [(1, 6), (4, 6)])
.ret)) }
theorem af68_ok : cFun Try.prog eqT Try.f68 = some af68 := by kernel_rfl
/-- dossier/dec.Sub -/
noncomputable def af69 : AFun := { np := 2, nt := 16, res := [.c 4 (some 2), .t 5], code :=
(.seq (.rg [⟨(some 2), .box (.t 0), none⟩,
  ⟨(some 3), .box (.t 1), none⟩,
  ⟨(some 4), .new [.d (.int .i64 0), .d (.int .i64 0)], none⟩,
  ⟨(some 5), .mv (.k (.d (.int .i64 0))), none⟩])
(.seq (.rg [⟨(some 6), .ld (some 2) (.t 2), none⟩,
  ⟨(some 7), .fad (.t 3) 0, none⟩,
  ⟨(some 8), .ld none (.t 7), none⟩,
  ⟨(some 9), .un .neg (.t 8), none⟩,
  ⟨(some 10), .fad (.t 3) 1, none⟩,
  ⟨(some 11), .ld none (.t 10), none⟩,
  ⟨(some 12), .build [.int .i64 0, .int .i64 0] [(0, 1, (.t 9)), (1, 1, (.t 11))], none⟩,
  ⟨(some 13), .call (.k (.fn 44 [])) [(.t 6), (.t 12)], none⟩,
  ⟨(some 14), .ext (.t 13) 0, none⟩,
  ⟨(some 15), .ext (.t 13) 1, none⟩,
  ⟨none, .st 2 (.t 4) (.t 14), none⟩,
  ⟨(some 5), .mv (.t 15), none⟩])
.ret)) }
theorem af69_ok : cFun Try.prog eqT Try.f69 = some af69 := by kernel_rfl
/-- dossier/dec.Mul -/
noncomputable def af70 : AFun := { np := 2, nt := 19, res := [.c 4 (some 2), .t 5], code :=
(.seq (.rg [⟨(some 2), .box (.t 0), none⟩,
  ⟨(some 3), .box (.t 1), none⟩,
  ⟨(some 4), .new [.d (.int .i64 0), .d (.int .i64 0)], none⟩,
  ⟨(some 5), .mv (.k (.d (.int .i64 0))), none⟩])
(.seq (.rg [⟨(some 6), .fad (.t 2) 0, none⟩,
  ⟨(some 7), .ld none (.t 6), none⟩,
  ⟨(some 8), .fad (.t 3) 0, none⟩,
  ⟨(some 9), .ld none (.t 8), none⟩,
  ⟨(some 10), .bin .mul (.t 7) (.t 9), none⟩,
  ⟨(some 11), .fad (.t 2) 1, none⟩,
  ⟨(some 12), .ld none (.t 11), none⟩,
  ⟨(some 13), .fad (.t 3) 1, none⟩,
  ⟨(some 14), .ld none (.t 13), none⟩,
  ⟨(some 15), .bin .add (.t 12) (.t 14), none⟩,
  ⟨(some 16), .call (.k (.fn 67 [])) [(.t 10), (.t 15)], none⟩,
  ⟨(some 17), .ext (.t 16) 0, none⟩,
  ⟨(some 18), .ext (.t 16) 1, none⟩,
  ⟨none, .st 2 (.t 4) (.t 17), none⟩,
  ⟨(some 5), .mv (.t 18), none⟩])
.ret)) }
theorem af70_ok : cFun Try.prog eqT Try.f70 = some af70 := by kernel_rfl
/-- dossier/dec.Div -/
noncomputable def af71 : AFun := { np := 2, nt := 49, res := [.c 4 (some 2), .t 5], code :=
(.seq (.rg [⟨(some 2), .box (.t 0), none⟩,
  ⟨(some 3), .box (.t 1), none⟩,
  ⟨(some 4), .new [.d (.int .i64 0), .d (.int .i64 0)], none⟩,
  ⟨(some 5), .mv (.k (.d (.int .i64 0))), none⟩])
(.seq (.seq (.rg [⟨(some 8), .fad (.t 3) 0, none⟩,
  ⟨(some 9), .ld none (.t 8), none⟩,
  ⟨(some 10), .bin .eql (.t 9) (.k (.d (.int .i64 0))), none⟩])
(.cond (.t 10)
  (.seq (.rg [⟨(some 11), .build [.int .i64 0, .int .i64 0] [], none⟩,
    ⟨none, .st 2 (.t 4) (.t 11), none⟩,
    ⟨(some 5), .mv (.k (.d (.int .i64 1))), none⟩])
  .ret)
  .skip))
(.seq (.rd [⟨(some 12), .fad (.t 2) 0, none⟩,
  ⟨(some 13), .ld none (.t 12), none⟩,
  ⟨(some 14), .fad (.t 3) 1, none⟩,
  ⟨(some 15), .ld none (.t 14), none⟩,
  ⟨(some 16), .bin .add (.k (.d (.int .i64 4))) (.t 15), none⟩,
  ⟨(some 17), .fad (.t 2) 1, none⟩,
  ⟨(some 18), .ld none (.t 17), none⟩,
  ⟨(some 19), .fad (.t 3) 1, none⟩,
  ⟨(some 20), .ld none (.t 19), none⟩,
  ⟨(some 21), .mm false (.t 18) [(.t 20)], none⟩,
  ⟨(some 22), .bin .sub (.t 16) (.t 21), none⟩,
  ⟨(some 23), .call (.k (.fn 86 [])) [(.t 22)], none⟩,
  ⟨(some 24), .bin .mul (.t 13) (.t 23), none⟩,
  ⟨(some 25), .fad (.t 3) 0, none⟩,
  ⟨(some 26), .ld none (.t 25), none⟩,
  ⟨(some 27), .fad (.t 2) 1, none⟩,
  ⟨(some 28), .ld none (.t 27), none⟩,
  ⟨(some 29), .fad (.t 2) 1, none⟩,
  ⟨(some 30), .ld none (.t 29), none⟩,
  ⟨(some 31), .fad (.t 3) 1, none⟩,
  ⟨(some 32), .ld none (.t 31), none⟩,
  ⟨(some 33), .mm false (.t 30) [(.t 32)], none⟩,
  ⟨(some 34), .bin .sub (.t 28) (.t 33), none⟩,
  ⟨(some 35), .call (.k (.fn 86 [])) [(.t 34)], none⟩,
  ⟨(some 36), .bin .mul (.t 26) (.t 35), none⟩,
  ⟨(some 6), .mv (.t 24), none⟩,
  ⟨(some 7), .mv (.t 36), none⟩] [(1, 11), (3, 11), (6, 11), (8, 11), (11, 14), (11, 16), (11, 18), (11, 20), (1, 23), (3, 23), (6, 23), (8, 23), (14, 23), (16, 23), (18, 23), (20, 23)])
(.seq (.seq (.rg [⟨(some 37), .mv (.t 7), none⟩,
  ⟨(some 38), .bin .lss (.t 37) (.k (.d (.int .i64 0))), none⟩])
(.cond (.t 38)
  (.rg [⟨(some 39), .mv (.t 6), none⟩,
    ⟨(some 40), .un .neg (.t 39), none⟩,
    ⟨(some 41), .mv (.t 7), none⟩,
    ⟨(some 42), .un .neg (.t 41), none⟩,
    ⟨(some 6), .mv (.t 40), none⟩,
    ⟨(some 7), .mv (.t 42), none⟩])
  .skip))
(.seq (.rg [⟨(some 43), .mv (.t 6), none⟩,
  ⟨(some 44), .mv (.t 7), none⟩,
  ⟨(some 45), .call (.k (.fn 85 [])) [(.t 43), (.t 44)], none⟩,
  ⟨(some 46), .call (.k (.fn 67 [])) [(.t 45), (.k (.d (.int .i64 4)))], none⟩,
  ⟨(some 47), .ext (.t 46) 0, none⟩,
  ⟨(some 48), .ext (.t 46) 1, none⟩,
  ⟨none, .st 2 (.t 4) (.t 47), none⟩,
  ⟨(some 5), .mv (.t 48), none⟩])
.ret))))) }
theorem af71_ok : cFun Try.prog eqT Try.f71 = some af71 := by kernel_rfl
/-- dossier/val.Equal -/
noncomputable def af72 : AFun := { np := 2, nt := 9, res := [.t 4], code :=
(.seq (.rg [⟨(some 2), .box (.t 0), none⟩,
  ⟨(some 3), .box (.t 1), none⟩,
  ⟨(some 4), .mv (.k (.d (.bool false))), none⟩])
(.seq (.rg [⟨(some 5), .ld (some 6) (.t 2), none⟩,
  ⟨(some 6), .ld (some 6) (.t 3), none⟩,
  ⟨(some 7), .call (.k (.fn 73 [])) [(.t 5), (.t 6)], none⟩,
  ⟨(some 8), .bin .eql (.t 7) (.k (.d (.int .i64 0))), none⟩,
  ⟨(some 4), .mv (.t 8), none⟩])
.ret)) }
theorem af72_ok : cFun Try.prog eqT Try.f72 = some af72 := by kernel_rfl
/-- dossier/val.Cmp -/
noncomputable def af73 : AFun := { np := 2, nt := 45, res := [.t 4], code :=
(.seq (.rg [⟨(some 2), .box (.t 0), none⟩,
  ⟨(some 3), .box (.t 1), none⟩,
  ⟨(some 4), .mv (.k (.d (.int .i64 0))), none⟩])
(.seq (.seq (.rg [⟨(some 5), .fad (.t 2) 0, none⟩,
  ⟨(some 6), .ld none (.t 5), none⟩,
  ⟨(some 7), .fad (.t 3) 0, none⟩,
  ⟨(some 8), .ld none (.t 7), none⟩,
  ⟨(some 9), .bin .neq (.t 6) (.t 8), none⟩])
(.cond (.t 9)
  (.seq (.rg [⟨(some 10), .fad (.t 2) 0, none⟩,
    ⟨(some 11), .ld none (.t 10), none⟩,
    ⟨(some 12), .fad (.t 3) 0, none⟩,
    ⟨(some 13), .ld none (.t 12), none⟩,
    ⟨(some 14), .call (.k (.fn 88 [])) [(.t 11), (.t 13)], none⟩,
    ⟨(some 4), .mv (.t 14), none⟩])
  .ret)
  .skip))
(.seq (.seq (.rg [⟨(some 15), .fad (.t 2) 0, none⟩,
  ⟨(some 16), .ld none (.t 15), none⟩])
(.block 0
  (.seq (.rg [⟨(some 18), .bin .eql (.t 16) (.k (.d (.int .i64 1))), none⟩,
    ⟨(some 17), .mv (.t 18), none⟩])
  (.cond (.t 17)
    (.seq (.rd [⟨(some 19), .fad (.t 2) 1, none⟩,
      ⟨(some 20), .ld none (.t 19), none⟩,
      ⟨(some 21), .call (.k (.fn 89 [])) [(.t 20)], none⟩,
      ⟨(some 22), .fad (.t 3) 1, none⟩,
      ⟨(some 23), .ld none (.t 22), none⟩,
      ⟨(some 24), .call (.k (.fn 89 [])) [(.t 23)], none⟩,
      ⟨(some 25), .bin .sub (.t 21) (.t 24), none⟩,
      ⟨(some 4), .mv (.t 25), none⟩] [(2, 4), (1, 5)])
    .ret)
    (.seq (.rg [⟨(some 27), .bin .eql (.t 16) (.k (.d (.int .i64 2))), none⟩,
      ⟨(some 26), .mv (.t 27), none⟩])
    (.cond (.t 26)
      (.seq (.rg [⟨(some 28), .fad (.t 2) 2, none⟩,
        ⟨(some 29), .ld (some 2) (.t 28), none⟩,
        ⟨(some 30), .fad (.t 3) 2, none⟩,
        ⟨(some 31), .ld (some 2) (.t 30), none⟩,
        ⟨(some 32), .call (.k (.fn 90 [])) [(.t 29), (.t 31)], none⟩,
        ⟨(some 4), .mv (.t 32), none⟩])
      .ret)
      (.seq (.rg [⟨(some 34), .bin .eql (.t 16) (.k (.d (.int .i64 3))), none⟩,
        ⟨(some 33), .mv (.t 34), none⟩])
      (.cond (.t 33)
        (.seq (.rg [⟨(some 35), .fad (.t 2) 4, none⟩,
          ⟨(some 36), .ld none (.t 35), none⟩,
          ⟨(some 37), .fad (.t 3) 4, none⟩,
          ⟨(some 38), .ld none (.t 37), none⟩,
          ⟨(some 39), .call (.k (.fn 91 [])) [(.t 36), (.t 38)], none⟩,
          ⟨(some 4), .mv (.t 39), none⟩])
        .ret)
        .skip))))))))
(.seq (.rg [⟨(some 40), .fad (.t 2) 5, none⟩,
  ⟨(some 41), .ld none (.t 40), none⟩,
  ⟨(some 42), .fad (.t 3) 5, none⟩,
  ⟨(some 43), .ld none (.t 42), none⟩,
  ⟨(some 44), .call (.k (.fn 92 [])) [(.t 41), (.t 43), (.k (.fn 73 []))], none⟩,
  ⟨(some 4), .mv (.t 44), none⟩])
.ret)))) }
theorem af73_ok : cFun Try.prog eqT Try.f73 = some af73 := by kernel_rfl
/-- dossier/eval.sum -/
noncomputable def af74 : AFun := { np := 1, nt := 31, res := [.c 2 (some 6), .t 3], code :=
(.seq (.rg [⟨(some 2), .new [.d (.int .i64 0), .d (.bool false), .d (.int .i64 0), .d (.int .i64 0), .d (.str []), .nils], none⟩,
  ⟨(some 3), .mv (.k (.d (.int .i64 0))), none⟩])
(.seq (.rg [⟨(some 9), .build [.int .i64 0, .int .i64 0] [], none⟩,
  ⟨(some 4), .new [.d (.int .i64 0), .d (.int .i64 0)], none⟩,
  ⟨none, .st 2 (.t 4) (.t 9), none⟩])
(.seq (.seq (.rg [⟨(some 10), .mv (.t 0), none⟩,
  ⟨(some 11), .lenq false (.t 10), none⟩,
  ⟨(some 12), .mv (.k (.d (.int .i64 0))), none⟩])
(.block 0
  (.loop
    (.seq (.rg [⟨(some 13), .bin .lss (.t 12) (.t 11), none⟩])
    (.seq (.cond (.t 13)
      .skip
      (.exit 0))
    (.seq (.block 1
      (.seq (.rg [⟨(some 14), .iad 6 (.t 10) (.t 12), none⟩,
        ⟨(some 15), .ld (some 6) (.t 14), none⟩,
        ⟨(some 6), .new [.d (.int .i64 0), .d (.bool false), .d (.int .i64 0), .d (.int .i64 0), .d (.str []), .nils], none⟩,
        ⟨none, .st 6 (.t 6) (.t 15), none⟩])
      (.seq (.rg [⟨(some 17), .ld (some 2) (.t 4), none⟩,
        ⟨(some 18), .fad (.t 6) 2, none⟩,
        ⟨(some 19), .ld (some 2) (.t 18), none⟩,
        ⟨(some 20), .call (.k (.fn 44 [])) [(.t 17), (.t 19)], none⟩,
        ⟨(some 16), .mv (.t 20), none⟩,
        ⟨(some 21), .ext (.t 16) 0, none⟩,
        ⟨(some 22), .ext (.t 16) 1, none⟩,
        ⟨(some 7), .new [.d (.int .i64 0), .d (.int .i64 0)], none⟩,
        ⟨none, .st 2 (.t 7) (.t 21), none⟩,
        ⟨(some 8), .mv (.t 22), none⟩])
      (.seq (.seq (.rg [⟨(some 23), .mv (.t 8), none⟩,
        ⟨(some 24), .bin .neq (.t 23) (.k (.d (.int .i64 0))), none⟩])
      (.cond (.t 24)
        (.seq (.rg [⟨(some 25), .build [.int .i64 0, .bool false, .int .i64 0, .int .i64 0, .str [], .sl []] [], none⟩,
          ⟨(some 26), .mv (.t 8), none⟩,
          ⟨none, .st 6 (.t 2) (.t 25), none⟩,
          ⟨(some 3), .mv (.t 26), none⟩])
        .ret)
        .skip))
      (.rg [⟨(some 27), .ld (some 2) (.t 7), none⟩,
        ⟨none, .st 2 (.t 4) (.t 27), none⟩])))))
    (.rg [⟨(some 28), .bin .add (.t 12) (.k (.d (.int .i64 1))), none⟩,
      ⟨(some 12), .mv (.t 28), none⟩])))))))
(.seq (.rg [⟨(some 29), .ld (some 2) (.t 4), none⟩,
  ⟨(some 30), .call (.k (.fn 27 [])) [(.t 29)], none⟩,
  ⟨none, .st 6 (.t 2) (.t 30), none⟩,
  ⟨(some 3), .mv (.k (.d (.int .i64 0))), none⟩])
.ret)))) }
theorem af74_ok : cFun Try.prog eqT Try.f74 = some af74 := by kernel_rfl
/-- strings.HasPrefix -/
noncomputable def af75 : AFun := { np := 2, nt := 8, res := [.t 4], code :=
(.seq (.rg [⟨(some 4), .mv (.k (.d (.bool false))), none⟩])
(.seq (.rg [⟨(some 5), .mv (.t 0), none⟩,
  ⟨(some 6), .mv (.t 1), none⟩,
  ⟨(some 7), .call (.k (.fn 93 [])) [(.t 5), (.t 6)], none⟩,
  ⟨(some 4), .mv (.t 7), none⟩])
.ret)) }
theorem af75_ok : cFun Try.prog eqT Try.f75 = some af75 := by kernel_rfl
/-- dossier/dec.Floor -/
noncomputable def af76 : AFun := { np := 1, nt := 16, res := [.c 2 (some 2)], code :=
(.seq (.rg [⟨(some 1), .box (.t 0), none⟩,
  ⟨(some 2), .new [.d (.int .i64 0), .d (.int .i64 0)], none⟩])
(.seq (.rd [⟨(some 6), .fad (.t 1) 0, none⟩,
  ⟨(some 7), .ld none (.t 6), none⟩,
  ⟨(some 8), .fad (.t 1) 1, none⟩,
  ⟨(some 9), .ld none (.t 8), none⟩,
  ⟨(some 10), .call (.k (.fn 86 [])) [(.t 9)], none⟩,
  ⟨(some 11), .call (.k (.fn 94 [])) [(.t 7), (.t 10)], none⟩,
  ⟨(some 5), .mv (.t 11), none⟩,
  ⟨(some 12), .ext (.t 5) 0, none⟩,
  ⟨(some 13), .ext (.t 5) 1, none⟩,
  ⟨(some 3), .mv (.t 12), none⟩,
  ⟨(some 4), .mv (.t 13), none⟩] [(1, 4), (3, 5)])
(.seq (.rg [⟨(some 14), .mv (.t 3), none⟩,
  ⟨(some 15), .build [.int .i64 0, .int .i64 0] [(0, 1, (.t 14))], none⟩,
  ⟨none, .st 2 (.t 2) (.t 15), none⟩])
.ret))) }
theorem af76_ok : cFun Try.prog eqT Try.f76 = some af76 := by kernel_rfl
/-- dossier/dec.Ceil -/
noncomputable def af77 : AFun := { np := 1, nt := 18, res := [.c 2 (some 2)], code :=
(.seq (.rg [⟨(some 1), .box (.t 0), none⟩,
  ⟨(some 2), .new [.d (.int .i64 0), .d (.int .i64 0)], none⟩])
(.seq (.rd [⟨(some 6), .fad (.t 1) 0, none⟩,
  ⟨(some 7), .ld none (.t 6), none⟩,
  ⟨(some 8), .un .neg (.t 7), none⟩,
  ⟨(some 9), .fad (.t 1) 1, none⟩,
  ⟨(some 10), .ld none (.t 9), none⟩,
  ⟨(some 11), .call (.k (.fn 86 [])) [(.t 10)], none⟩,
  ⟨(some 12), .call (.k (.fn 94 [])) [(.t 8), (.t 11)], none⟩,
  ⟨(some 5), .mv (.t 12), none⟩,
  ⟨(some 13), .ext (.t 5) 0, none⟩,
  ⟨(some 14), .ext (.t 5) 1, none⟩,
  ⟨(some 3), .mv (.t 13), none⟩,
  ⟨(some 4), .mv (.t 14), none⟩] [(1, 5), (1, 6), (4, 6)])
(.seq (.rg [⟨(some 15), .mv (.t 3), none⟩,
  ⟨(some 16), .un .neg (.t 15), none⟩,
  ⟨(some 17), .build [.int .i64 0, .int .i64 0] [(0, 1, (.t 16))], none⟩,
  ⟨none, .st 2 (.t 2) (.t 17), none⟩])
.ret))) }
theorem af77_ok : cFun Try.prog eqT Try.f77 = some af77 := by kernel_rfl
/-- dossier/eval.mod -/
noncomputable def af78 : AFun := { np := 2, nt := 12, res := [.t 4], code :=
(.seq (.rg [⟨(some 4), .mv (.k (.d (.int .i64 0))), none⟩])
(.seq (.rg [⟨(some 5), .mv (.t 0), none⟩,
  ⟨(some 6), .mv (.t 1), none⟩,
  ⟨(some 7), .bin .rem (.t 5) (.t 6), none⟩,
  ⟨(some 8), .mv (.t 1), none⟩,
  ⟨(some 9), .bin .add (.t 7) (.t 8), none⟩,
  ⟨(some 10), .mv (.t 1), none⟩,
  ⟨(some 11), .bin .rem (.t 9) (.t 10), none⟩,
  ⟨(some 4), .mv (.t 11), none⟩])
.ret)) }
theorem af78_ok : cFun Try.prog eqT Try.f78 = some af78 := by kernel_rfl
/-- (*dossier/dossierref4.reader).fail -/
noncomputable def af79 : AFun := { np := 2, nt := 18, res := [], code :=
(.seq (.rg [⟨(some 4), .mv (.t 0), none⟩,
  ⟨(some 5), .nilck (.t 4), none⟩,
  ⟨(some 6), .fad (.t 5) 3, none⟩,
  ⟨(some 7), .ld none (.t 6), none⟩,
  ⟨(some 8), .bin .eql (.t 7) (.k (.d (.int .i64 0))), none⟩])
(.cond (.t 8)
  (.rg [⟨(some 9), .mv (.t 0), none⟩,
    ⟨(some 10), .mv (.t 0), none⟩,
    ⟨(some 11), .mv (.t 1), none⟩,
    ⟨(some 12), .mv (.t 0), none⟩,
    ⟨(some 13), .call (.k (.fn 95 [])) [(.t 12)], none⟩,
    ⟨(some 14), .nilck (.t 9), none⟩,
    ⟨(some 15), .fad (.t 14) 3, none⟩,
    ⟨none, .st 1 (.t 15) (.t 11), none⟩,
    ⟨(some 16), .nilck (.t 10), none⟩,
    ⟨(some 17), .fad (.t 16) 4, none⟩,
    ⟨none, .st 1 (.t 17) (.t 13), none⟩])
  .skip)) }
theorem af79_ok : cFun Try.prog eqT Try.f79 = some af79 := by kernel_rfl
/-- (*dossier/dossierref4.reader).cmp -/
noncomputable def af80 : AFun := { np := 2, nt := 56, res := [.c 4 (some 8)], code :=
(.seq (.rg [⟨(some 4), .new [.d (.int .i64 0), .d (.bool false), .d (.int .i64 0), .d (.int .i64 0), .d (.str []), .d (.bool false), .d (.bool false), .nils], none⟩])
(.seq (.rg [⟨(some 11), .mv (.t 0), none⟩,
  ⟨(some 12), .mv (.t 1), none⟩,
  ⟨(some 13), .call (.k (.fn 96 [])) [(.t 11), (.t 12)], none⟩,
  ⟨(some 5), .new [.d (.int .i64 0), .d (.bool false), .d (.int .i64 0), .d (.int .i64 0), .d (.str []), .d (.bool false), .d (.bool false), .nils], none⟩,
  ⟨none, .st 8 (.t 5) (.t 13), none⟩])
(.seq (.rg [⟨(some 14), .mv (.t 0), none⟩,
  ⟨(some 15), .mkrow 9 1 [(.k (.d (.str [60]))), (.k (.d (.str [60, 61]))), (.k (.d (.str [62]))), (.k (.d (.str [62, 61]))), (.k (.d (.str [61]))), (.k (.d (.str [33, 61])))], none⟩,
  ⟨(some 16), .call (.k (.fn 57 [])) [(.t 14), (.t 15)], none⟩,
  ⟨(some 6), .mv (.t 16), none⟩])
(.seq (.seq (.rg [⟨(some 17), .mv (.t 6), none⟩,
  ⟨(some 18), .bin .neq (.t 17) (.k (.d (.str []))), none⟩])
(.cond (.t 18)
  (.seq (.rd [⟨(some 19), .mv (.t 6), none⟩,
    ⟨(some 20), .ld (some 8) (.t 5), none⟩,
    ⟨(some 21), .mv (.t 0), none⟩,
    ⟨(some 22), .mv (.t 1), none⟩,
    ⟨(some 23), .call (.k (.fn 96 [])) [(.t 21), (.t 22)], none⟩,
    ⟨(some 24), .call (.k (.fn 58 [])) [(.t 19), (.t 20), (.t 23)], none⟩,
    ⟨none, .st 8 (.t 4) (.t 24), none⟩] [(1, 4)])
  .ret)
  .skip))
(.seq (.seq (.rg [⟨(some 25), .mv (.t 0), none⟩,
  ⟨(some 26), .mkrow 9 1 [(.k (.d (.str [105, 110])))], none⟩,
  ⟨(some 27), .call (.k (.fn 57 [])) [(.t 25), (.t 26)], none⟩,
  ⟨(some 28), .bin .eql (.t 27) (.k (.d (.str []))), none⟩])
(.cond (.t 28)
  (.seq (.rg [⟨(some 29), .ld (some 8) (.t 5), none⟩,
    ⟨none, .st 8 (.t 4) (.t 29), none⟩])
  .ret)
  .skip))
(.seq (.rg [⟨(some 30), .mv (.t 0), none⟩,
  ⟨(some 31), .mkrow 9 1 [(.k (.d (.str [91]))), (.k (.d (.str [40])))], none⟩,
  ⟨(some 32), .call (.k (.fn 97 [])) [(.t 30), (.t 31)], none⟩,
  ⟨(some 33), .bin .eql (.t 32) (.k (.d (.str [91]))), none⟩,
  ⟨(some 7), .mv (.t 33), none⟩])
(.seq (.rg [⟨(some 34), .mv (.t 0), none⟩,
  ⟨(some 35), .mv (.t 1), none⟩,
  ⟨(some 36), .bin .add (.t 35) (.k (.d (.int .i64 1))), none⟩,
  ⟨(some 37), .call (.k (.fn 37 [])) [(.t 34), (.t 36)], none⟩,
  ⟨(some 8), .new [.d (.int .i64 0), .d (.bool false), .d (.int .i64 0), .d (.int .i64 0), .d (.str []), .d (.bool false), .d (.bool false), .nils], none⟩,
  ⟨none, .st 8 (.t 8) (.t 37), none⟩])
(.seq (.rg [⟨(some 38), .mv (.t 0), none⟩,
  ⟨(some 39), .mkrow 9 1 [(.k (.d (.str [46, 46])))], none⟩,
  ⟨(some 40), .call (.k (.fn 97 [])) [(.t 38), (.t 39)], none⟩])
(.seq (.rg [⟨(some 41), .mv (.t 0), none⟩,
  ⟨(some 42), .mv (.t 1), none⟩,
  ⟨(some 43), .bin .add (.t 42) (.k (.d (.int .i64 1))), none⟩,
  ⟨(some 44), .call (.k (.fn 37 [])) [(.t 41), (.t 43)], none⟩,
  ⟨(some 9), .new [.d (.int .i64 0), .d (.bool false), .d (.int .i64 0), .d (.int .i64 0), .d (.str []), .d (.bool false), .d (.bool false), .nils], none⟩,
  ⟨none, .st 8 (.t 9) (.t 44), none⟩])
(.seq (.rg [⟨(some 45), .mv (.t 0), none⟩,
  ⟨(some 46), .mkrow 9 1 [(.k (.d (.str [93]))), (.k (.d (.str [41])))], none⟩,
  ⟨(some 47), .call (.k (.fn 97 [])) [(.t 45), (.t 46)], none⟩,
  ⟨(some 48), .bin .eql (.t 47) (.k (.d (.str [93]))), none⟩,
  ⟨(some 10), .mv (.t 48), none⟩])
(.seq (.rg [⟨(some 49), .mv (.t 7), none⟩,
  ⟨(some 50), .mv (.t 10), none⟩,
  ⟨(some 51), .ld (some 8) (.t 5), none⟩,
  ⟨(some 52), .ld (some 8) (.t 8), none⟩,
  ⟨(some 53), .ld (some 8) (.t 9), none⟩,
  ⟨(some 54), .mkrow 39 8 [(.t 51), (.t 52), (.t 53)], none⟩,
  ⟨(some 55), .build [.int .i64 0, .bool false, .int .i64 0, .int .i64 0, .str [], .bool false, .bool false, .sl []] [(0, 1, (.k (.d (.int .i64 11)))), (5, 1, (.t 49)), (6, 1, (.t 50)), (7, 1, (.t 54))], none⟩,
  ⟨none, .st 8 (.t 4) (.t 55), none⟩])
.ret))))))))))) }
theorem af80_ok : cFun Try.prog eqT Try.f80 = some af80 := by kernel_rfl
/-- (*dossier/dossierref4.reader).is -/
noncomputable def af81 : AFun := { np := 2, nt := 51, res := [.t 4], code :=
(.seq (.rg [⟨(some 4), .mv (.k (.d (.bool false))), none⟩])
(.seq (.seq (.rd [⟨(some 6), .mv (.t 0), none⟩,
  ⟨(some 7), .nilck (.t 6), none⟩,
  ⟨(some 8), .fad (.t 7) 3, none⟩,
  ⟨(some 9), .ld none (.t 8), none⟩,
  ⟨(some 10), .bin .neq (.t 9) (.k (.d (.int .i64 0))), none⟩,
  ⟨(some 11), .mv (.t 10), none⟩,
  ⟨(some 12), .mv (.t 0), some (11, false)⟩,
  ⟨(some 13), .nilck (.t 12), some (11, false)⟩,
  ⟨(some 14), .fad (.t 13) 1, some (11, false)⟩,
  ⟨(some 15), .ld none (.t 14), some (11, false)⟩,
  ⟨(some 16), .mv (.t 0), some (11, false)⟩,
  ⟨(some 17), .nilck (.t 16), some (11, false)⟩,
  ⟨(some 18), .fad (.t 17) 0, some (11, false)⟩,
  ⟨(some 19), .ld none (.t 18), some (11, false)⟩,
  ⟨(some 20), .lenq false (.t 19), some (11, false)⟩,
  ⟨(some 21), .bin .geq (.t 15) (.t 20), some (11, false)⟩,
  ⟨(some 22), .pick (.t 11) (.k (.d (.bool true))) (.t 21), none⟩] [])
(.cond (.t 22)
  (.seq (.rg [⟨(some 4), .mv (.k (.d (.bool false))), none⟩])
  .ret)
  .skip))
(.seq (.rd [⟨(some 23), .mv (.t 0), none⟩,
  ⟨(some 24), .nilck (.t 23), none⟩,
  ⟨(some 25), .fad (.t 24) 0, none⟩,
  ⟨(some 26), .ld none (.t 25), none⟩,
  ⟨(some 27), .mv (.t 0), none⟩,
  ⟨(some 28), .nilck (.t 27), none⟩,
  ⟨(some 29), .fad (.t 28) 1, none⟩,
  ⟨(some 30), .ld none (.t 29), none⟩,
  ⟨(some 31), .iad 3 (.t 26) (.t 30), none⟩,
  ⟨(some 32), .ld (some 3) (.t 31), none⟩,
  ⟨(some 5), .new [.d (.int .i64 0), .d (.str []), .d (.int .i64 0)], none⟩,
  ⟨none, .st 3 (.t 5) (.t 32), none⟩] [(3, 10), (7, 10), (9, 10)])
(.seq (.rg [⟨(some 33), .fad (.t 5) 1, none⟩,
  ⟨(some 34), .ld none (.t 33), none⟩,
  ⟨(some 35), .mv (.t 1), none⟩,
  ⟨(some 36), .bin .eql (.t 34) (.t 35), none⟩,
  ⟨(some 37), .mv (.t 36), none⟩,
  ⟨(some 38), .fad (.t 5) 0, some (37, true)⟩,
  ⟨(some 39), .ld none (.t 38), some (37, true)⟩,
  ⟨(some 40), .bin .eql (.t 39) (.k (.d (.int .i64 4))), some (37, true)⟩,
  ⟨(some 41), .mv (.t 40), some (37, true)⟩,
  ⟨(some 42), .fad (.t 5) 0, some (41, false)⟩,
  ⟨(some 43), .ld none (.t 42), some (41, false)⟩,
  ⟨(some 44), .bin .eql (.t 43) (.k (.d (.int .i64 1))), some (41, false)⟩,
  ⟨(some 45), .mv (.t 44), some (41, false)⟩,
  ⟨(some 46), .mv (.t 1), some (45, true)⟩,
  ⟨(some 47), .call (.k (.fn 54 [])) [(.t 46)], some (45, true)⟩,
  ⟨(some 48), .pick (.t 45) (.t 47) (.k (.d (.bool false))), some (41, false)⟩,
  ⟨(some 49), .pick (.t 41) (.k (.d (.bool true))) (.t 48), some (37, true)⟩,
  ⟨(some 50), .pick (.t 37) (.t 49) (.k (.d (.bool false))), none⟩,
  ⟨(some 4), .mv (.t 50), none⟩])
.ret)))) }
theorem af81_ok : cFun Try.prog eqT Try.f81 = some af81 := by kernel_rfl
/-- dossier/val.isText$1 -/
noncomputable def af82 : AFun := { np := 1, nt := 13, res := [.t 2], code :=
(.seq (.rg [⟨(some 2), .mv (.k (.d (.bool false))), none⟩])
(.seq (.rg [⟨(some 3), .mv (.t 0), none⟩,
  ⟨(some 4), .bin .lss (.t 3) (.k (.d (.int .i32 32))), none⟩,
  ⟨(some 5), .mv (.t 4), none⟩,
  ⟨(some 6), .mv (.t 0), some (5, false)⟩,
  ⟨(some 7), .bin .gtr (.t 6) (.k (.d (.int .i32 126))), some (5, false)⟩,
  ⟨(some 8), .pick (.t 5) (.k (.d (.bool true))) (.t 7), none⟩,
  ⟨(some 9), .mv (.t 8), none⟩,
  ⟨(some 10), .mv (.t 0), some (9, false)⟩,
  ⟨(some 11), .bin .eql (.t 10) (.k (.d (.int .i32 34))), some (9, false)⟩,
  ⟨(some 12), .pick (.t 9) (.k (.d (.bool true))) (.t 11), none⟩,
  ⟨(some 2), .mv (.t 12), none⟩])
.ret)) }
theorem af82_ok : cFun Try.prog eqT Try.f82 = some af82 := by kernel_rfl
/-- strings.IndexFunc -/
noncomputable def af83 : AFun := { np := 2, nt := 8, res := [.t 4], code :=
(.seq (.rg [⟨(some 4), .mv (.k (.d (.int .i64 0))), none⟩])
(.seq (.rg [⟨(some 5), .mv (.t 0), none⟩,
  ⟨(some 6), .mv (.t 1), none⟩,
  ⟨(some 7), .call (.k (.fn 98 [])) [(.t 5), (.t 6), (.k (.d (.bool true)))], none⟩,
  ⟨(some 4), .mv (.t 7), none⟩])
.ret)) }
theorem af83_ok : cFun Try.prog eqT Try.f83 = some af83 := by kernel_rfl
/-- slices.IndexFunc[[]dossier/api.Val,dossier/api.Val] -/
noncomputable def af84 : AFun := { np := 2, nt := 19, res := [.t 4], code :=
(.seq (.rg [⟨(some 4), .mv (.k (.d (.int .i64 0))), none⟩])
(.seq (.seq (.rg [⟨(some 6), .mv (.t 0), none⟩,
  ⟨(some 7), .lenq false (.t 6), none⟩,
  ⟨(some 8), .mv (.k (.d (.int .i64 0))), none⟩])
(.block 0
  (.loop
    (.seq (.rg [⟨(some 9), .bin .lss (.t 8) (.t 7), none⟩])
    (.seq (.cond (.t 9)
      .skip
      (.exit 0))
    (.seq (.block 1
      (.seq (.rg [⟨(some 10), .mv (.t 8), none⟩,
        ⟨(some 5), .mv (.t 10), none⟩])
      (.seq (.rg [⟨(some 11), .mv (.t 1), none⟩,
        ⟨(some 12), .mv (.t 0), none⟩,
        ⟨(some 13), .mv (.t 5), none⟩,
        ⟨(some 14), .iad 6 (.t 12) (.t 13), none⟩,
        ⟨(some 15), .ld (some 6) (.t 14), none⟩,
        ⟨(some 16), .call (.t 11) [(.t 15)], none⟩])
      (.cond (.t 16)
        (.seq (.rg [⟨(some 17), .mv (.t 5), none⟩,
          ⟨(some 4), .mv (.t 17), none⟩])
        .ret)
        .skip))))
    (.rg [⟨(some 18), .bin .add (.t 8) (.k (.d (.int .i64 1))), none⟩,
      ⟨(some 8), .mv (.t 18), none⟩])))))))
(.seq (.rg [⟨(some 4), .mv (.k (.d (.int .i64 (-1)))), none⟩])
.ret))) }
theorem af84_ok : cFun Try.prog eqT Try.f84 = some af84 := by kernel_rfl
/-- dossier/dec.round -/
noncomputable def af85 : AFun := { np := 2, nt := 33, res := [.t 4], code :=
(.seq (.rg [⟨(some 4), .mv (.k (.d (.int .i64 0))), none⟩])
(.seq (.rg [⟨(some 8), .mv (.t 0), none⟩,
  ⟨(some 9), .mv (.t 1), none⟩,
  ⟨(some 10), .call (.k (.fn 94 [])) [(.t 8), (.t 9)], none⟩,
  ⟨(some 7), .mv (.t 10), none⟩,
  ⟨(some 11), .ext (.t 7) 0, none⟩,
  ⟨(some 12), .ext (.t 7) 1, none⟩,
  ⟨(some 5), .mv (.t 11), none⟩,
  ⟨(some 6), .mv (.t 12), none⟩])
(.seq (.seq (.rg [⟨(some 13), .mv (.t 6), none⟩,
  ⟨(some 14), .mv (.t 1), none⟩,
  ⟨(some 15), .mv (.t 6), none⟩,
  ⟨(some 16), .bin .sub (.t 14) (.t 15), none⟩,
  ⟨(some 17), .bin .gtr (.t 13) (.t 16), none⟩,
  ⟨(some 18), .mv (.t 17), none⟩,
  ⟨(some 19), .mv (.t 6), some (18, false)⟩,
  ⟨(some 20), .mv (.t 1), some (18, false)⟩,
  ⟨(some 21), .mv (.t 6), some (18, false)⟩,
  ⟨(some 22), .bin .sub (.t 20) (.t 21), some (18, false)⟩,
  ⟨(some 23), .bin .eql (.t 19) (.t 22), some (18, false)⟩,
  ⟨(some 24), .mv (.t 23), some (18, false)⟩,
  ⟨(some 25), .mv (.t 5), some (24, true)⟩,
  ⟨(some 26), .bin .rem (.t 25) (.k (.d (.int .i64 2))), some (24, true)⟩,
  ⟨(some 27), .bin .neq (.t 26) (.k (.d (.int .i64 0))), some (24, true)⟩,
  ⟨(some 28), .pick (.t 24) (.t 27) (.k (.d (.bool false))), some (18, false)⟩,
  ⟨(some 29), .pick (.t 18) (.k (.d (.bool true))) (.t 28), none⟩])
(.cond (.t 29)
  (.seq (.rg [⟨(some 30), .mv (.t 5), none⟩,
    ⟨(some 31), .bin .add (.t 30) (.k (.d (.int .i64 1))), none⟩,
    ⟨(some 4), .mv (.t 31), none⟩])
  .ret)
  .skip))
(.seq (.rg [⟨(some 32), .mv (.t 5), none⟩,
  ⟨(some 4), .mv (.t 32), none⟩])
.ret)))) }
theorem af85_ok : cFun Try.prog eqT Try.f85 = some af85 := by kernel_rfl
/-- dossier/dec.power -/
noncomputable def af86 : AFun := { np := 1, nt := 11, res := [.t 2], code :=
(.seq (.rg [⟨(some 2), .mv (.k (.d (.int .i64 0))), none⟩])
(.seq (.rg [⟨(some 3), .mv (.k (.d (.int .i64 1))), none⟩])
(.seq (.seq (.rg [⟨(some 4), .mv (.t 0), none⟩,
  ⟨(some 5), .mv (.k (.d (.int .i64 0))), none⟩])
(.block 0
  (.loop
    (.seq (.rg [⟨(some 6), .bin .lss (.t 5) (.t 4), none⟩])
    (.seq (.cond (.t 6)
      .skip
      (.exit 0))
    (.seq (.block 1
      (.rg [⟨(some 7), .mv (.t 3), none⟩,
        ⟨(some 8), .bin .mul (.t 7) (.k (.d (.int .i64 10))), none⟩,
        ⟨(some 3), .mv (.t 8), none⟩]))
    (.rg [⟨(some 9), .bin .add (.t 5) (.k (.d (.int .i64 1))), none⟩,
      ⟨(some 5), .mv (.t 9), none⟩])))))))
(.seq (.rg [⟨(some 10), .mv (.t 3), none⟩,
  ⟨(some 2), .mv (.t 10), none⟩])
.ret)))) }
theorem af86_ok : cFun Try.prog eqT Try.f86 = some af86 := by kernel_rfl
/-- dossier/dec.bare -/
noncomputable def af87 : AFun := { np := 1, nt := 21, res := [.c 2 (some 2)], code :=
(.seq (.rg [⟨(some 1), .box (.t 0), none⟩,
  ⟨(some 2), .new [.d (.int .i64 0), .d (.int .i64 0)], none⟩])
(.seq (.block 0
  (.loop
    (.seq (.seq (.rg [⟨(some 3), .fad (.t 1) 1, none⟩,
      ⟨(some 4), .ld none (.t 3), none⟩,
      ⟨(some 5), .bin .gtr (.t 4) (.k (.d (.int .i64 0))), none⟩,
      ⟨(some 6), .mv (.t 5), none⟩,
      ⟨(some 7), .fad (.t 1) 0, some (6, true)⟩,
      ⟨(some 8), .ld none (.t 7), some (6, true)⟩,
      ⟨(some 9), .bin .rem (.t 8) (.k (.d (.int .i64 10))), some (6, true)⟩,
      ⟨(some 10), .bin .eql (.t 9) (.k (.d (.int .i64 0))), some (6, true)⟩,
      ⟨(some 11), .pick (.t 6) (.t 10) (.k (.d (.bool false))), none⟩])
    (.cond (.t 11)
      .skip
      (.exit 0)))
    (.block 1
      (.seq (.rg [⟨(some 12), .fad (.t 1) 0, none⟩,
        ⟨(some 13), .ld none (.t 12), none⟩,
        ⟨(some 14), .bin .quo (.t 13) (.k (.d (.int .i64 10))), none⟩,
        ⟨(some 15), .fad (.t 1) 0, none⟩,
        ⟨none, .st 1 (.t 15) (.t 14), none⟩])
      (.rg [⟨(some 16), .fad (.t 1) 1, none⟩,
        ⟨(some 17), .ld none (.t 16), none⟩,
        ⟨(some 18), .bin .sub (.t 17) (.k (.d (.int .i64 1))), none⟩,
        ⟨(some 19), .fad (.t 1) 1, none⟩,
        ⟨none, .st 1 (.t 19) (.t 18), none⟩]))))))
(.seq (.rg [⟨(some 20), .ld (some 2) (.t 1), none⟩,
  ⟨none, .st 2 (.t 2) (.t 20), none⟩])
.ret))) }
theorem af87_ok : cFun Try.prog eqT Try.f87 = some af87 := by kernel_rfl
/-- cmp.Compare[int] -/
noncomputable def af88 : AFun := { np := 2, nt := 20, res := [.t 4], code :=
(.seq (.rg [⟨(some 4), .mv (.k (.d (.int .i64 0))), none⟩])
(.seq (.rg [⟨(some 7), .mv (.t 0), none⟩,
  ⟨(some 8), .call (.k (.fn 99 [])) [(.t 7)], none⟩,
  ⟨(some 5), .mv (.t 8), none⟩])
(.seq (.rg [⟨(some 9), .mv (.t 1), none⟩,
  ⟨(some 10), .call (.k (.fn 99 [])) [(.t 9)], none⟩,
  ⟨(some 6), .mv (.t 10), none⟩])
(.seq (.seq (.rg [⟨(some 11), .mv (.t 5), none⟩])
(.cond (.t 11)
  (.seq (.seq (.rg [⟨(some 12), .mv (.t 6), none⟩])
  (.cond (.t 12)
    (.seq (.rg [⟨(some 4), .mv (.k (.d (.int .i64 0))), none⟩])
    .ret)
    .skip))
  (.seq (.rg [⟨(some 4), .mv (.k (.d (.int .i64 (-1)))), none⟩])
  .ret))
  .skip))
(.seq (.seq (.rg [⟨(some 13), .mv (.t 6), none⟩])
(.cond (.t 13)
  (.seq (.rg [⟨(some 4), .mv (.k (.d (.int .i64 1))), none⟩])
  .ret)
  .skip))
(.seq (.seq (.rg [⟨(some 14), .mv (.t 0), none⟩,
  ⟨(some 15), .mv (.t 1), none⟩,
  ⟨(some 16), .bin .lss (.t 14) (.t 15), none⟩])
(.cond (.t 16)
  (.seq (.rg [⟨(some 4), .mv (.k (.d (.int .i64 (-1)))), none⟩])
  .ret)
  .skip))
(.seq (.seq (.rg [⟨(some 17), .mv (.t 0), none⟩,
  ⟨(some 18), .mv (.t 1), none⟩,
  ⟨(some 19), .bin .gtr (.t 17) (.t 18), none⟩])
(.cond (.t 19)
  (.seq (.rg [⟨(some 4), .mv (.k (.d (.int .i64 1))), none⟩])
  .ret)
  .skip))
(.seq (.rg [⟨(some 4), .mv (.k (.d (.int .i64 0))), none⟩])
.ret)))))))) }
theorem af88_ok : cFun Try.prog eqT Try.f88 = some af88 := by kernel_rfl
/-- dossier/val.number -/
noncomputable def af89 : AFun := { np := 1, nt := 4, res := [.t 2], code :=
(.seq (.rg [⟨(some 2), .mv (.k (.d (.int .i64 0))), none⟩])
(.seq (.seq (.rg [⟨(some 3), .mv (.t 0), none⟩])
(.cond (.t 3)
  (.seq (.rg [⟨(some 2), .mv (.k (.d (.int .i64 1))), none⟩])
  .ret)
  .skip))
(.seq (.rg [⟨(some 2), .mv (.k (.d (.int .i64 0))), none⟩])
.ret))) }
theorem af89_ok : cFun Try.prog eqT Try.f89 = some af89 := by kernel_rfl
/-- dossier/dec.Cmp -/
noncomputable def af90 : AFun := { np := 2, nt := 10, res := [.t 4], code :=
(.seq (.rg [⟨(some 2), .box (.t 0), none⟩,
  ⟨(some 3), .box (.t 1), none⟩,
  ⟨(some 4), .mv (.k (.d (.int .i64 0))), none⟩])
(.seq (.rd [⟨(some 5), .ld (some 2) (.t 2), none⟩,
  ⟨(some 6), .call (.k (.fn 68 [])) [(.t 5), (.k (.d (.int .i64 4)))], none⟩,
  ⟨(some 7), .ld (some 2) (.t 3), none⟩,
  ⟨(some 8), .call (.k (.fn 68 [])) [(.t 7), (.k (.d (.int .i64 4)))], none⟩,
  ⟨(some 9), .call (.k (.fn 88 [])) [(.t 6), (.t 8)], none⟩,
  ⟨(some 4), .mv (.t 9), none⟩] [(1, 2), (0, 3), (0, 4), (2, 4)])
.ret)) }
theorem af90_ok : cFun Try.prog eqT Try.f90 = some af90 := by kernel_rfl
/-- cmp.Compare[string] -/
noncomputable def af91 : AFun := { np := 2, nt := 20, res := [.t 4], code :=
(.seq (.rg [⟨(some 4), .mv (.k (.d (.int .i64 0))), none⟩])
(.seq (.rg [⟨(some 7), .mv (.t 0), none⟩,
  ⟨(some 8), .call (.k (.fn 100 [])) [(.t 7)], none⟩,
  ⟨(some 5), .mv (.t 8), none⟩])
(.seq (.rg [⟨(some 9), .mv (.t 1), none⟩,
  ⟨(some 10), .call (.k (.fn 100 [])) [(.t 9)], none⟩,
  ⟨(some 6), .mv (.t 10), none⟩])
(.seq (.seq (.rg [⟨(some 11), .mv (.t 5), none⟩])
(.cond (.t 11)
  (.seq (.seq (.rg [⟨(some 12), .mv (.t 6), none⟩])
  (.cond (.t 12)
    (.seq (.rg [⟨(some 4), .mv (.k (.d (.int .i64 0))), none⟩])
    .ret)
    .skip))
  (.seq (.rg [⟨(some 4), .mv (.k (.d (.int .i64 (-1)))), none⟩])
  .ret))
  .skip))
(.seq (.seq (.rg [⟨(some 13), .mv (.t 6), none⟩])
(.cond (.t 13)
  (.seq (.rg [⟨(some 4), .mv (.k (.d (.int .i64 1))), none⟩])
  .ret)
  .skip))
(.seq (.seq (.rg [⟨(some 14), .mv (.t 0), none⟩,
  ⟨(some 15), .mv (.t 1), none⟩,
  ⟨(some 16), .bin .lss (.t 14) (.t 15), none⟩])
(.cond (.t 16)
  (.seq (.rg [⟨(some 4), .mv (.k (.d (.int .i64 (-1)))), none⟩])
  .ret)
  .skip))
(.seq (.seq (.rg [⟨(some 17), .mv (.t 0), none⟩,
  ⟨(some 18), .mv (.t 1), none⟩,
  ⟨(some 19), .bin .gtr (.t 17) (.t 18), none⟩])
(.cond (.t 19)
  (.seq (.rg [⟨(some 4), .mv (.k (.d (.int .i64 1))), none⟩])
  .ret)
  .skip))
(.seq (.rg [⟨(some 4), .mv (.k (.d (.int .i64 0))), none⟩])
.ret)))))))) }
theorem af91_ok : cFun Try.prog eqT Try.f91 = some af91 := by kernel_rfl
/-- slices.CompareFunc[[]dossier/api.Val,[]dossier/api.Val,dossier/api.Val,dossier/api.Val] -/
noncomputable def af92 : AFun := { np := 3, nt := 39, res := [.t 6], code :=
(.seq (.rg [⟨(some 6), .mv (.k (.d (.int .i64 0))), none⟩])
(.seq (.seq (.rg [⟨(some 11), .mv (.t 0), none⟩,
  ⟨(some 12), .lenq false (.t 11), none⟩,
  ⟨(some 13), .mv (.k (.d (.int .i64 0))), none⟩])
(.block 0
  (.loop
    (.seq (.rg [⟨(some 14), .bin .lss (.t 13) (.t 12), none⟩])
    (.seq (.cond (.t 14)
      .skip
      (.exit 0))
    (.seq (.block 1
      (.seq (.rg [⟨(some 15), .mv (.t 13), none⟩,
        ⟨(some 16), .iad 6 (.t 11) (.t 13), none⟩,
        ⟨(some 17), .ld (some 6) (.t 16), none⟩,
        ⟨(some 8), .new [.d (.int .i64 0), .d (.bool false), .d (.int .i64 0), .d (.int .i64 0), .d (.str []), .nils], none⟩,
        ⟨(some 7), .mv (.t 15), none⟩,
        ⟨none, .st 6 (.t 8) (.t 17), none⟩])
      (.seq (.seq (.rg [⟨(some 18), .mv (.t 7), none⟩,
        ⟨(some 19), .mv (.t 1), none⟩,
        ⟨(some 20), .lenq false (.t 19), none⟩,
        ⟨(some 21), .bin .geq (.t 18) (.t 20), none⟩])
      (.cond (.t 21)
        (.seq (.rg [⟨(some 6), .mv (.k (.d (.int .i64 1))), none⟩])
        .ret)
        .skip))
      (.seq (.rg [⟨(some 22), .mv (.t 1), none⟩,
        ⟨(some 23), .mv (.t 7), none⟩,
        ⟨(some 24), .iad 6 (.t 22) (.t 23), none⟩,
        ⟨(some 25), .ld (some 6) (.t 24), none⟩,
        ⟨(some 9), .new [.d (.int .i64 0), .d (.bool false), .d (.int .i64 0), .d (.int .i64 0), .d (.str []), .nils], none⟩,
        ⟨none, .st 6 (.t 9) (.t 25), none⟩])
      (.seq (.rg [⟨(some 26), .mv (.t 2), none⟩,
        ⟨(some 27), .ld (some 6) (.t 8), none⟩,
        ⟨(some 28), .ld (some 6) (.t 9), none⟩,
        ⟨(some 29), .call (.t 26) [(.t 27), (.t 28)], none⟩,
        ⟨(some 10), .mv (.t 29), none⟩])
      (.seq (.rg [⟨(some 30), .mv (.t 10), none⟩,
        ⟨(some 31), .bin .neq (.t 30) (.k (.d (.int .i64 0))), none⟩])
      (.cond (.t 31)
        (.seq (.rg [⟨(some 32), .mv (.t 10), none⟩,
          ⟨(some 6), .mv (.t 32), none⟩])
        .ret)
        .skip)))))))
    (.rg [⟨(some 33), .bin .add (.t 13) (.k (.d (.int .i64 1))), none⟩,
      ⟨(some 13), .mv (.t 33), none⟩])))))))
(.seq (.seq (.rg [⟨(some 34), .mv (.t 0), none⟩,
  ⟨(some 35), .lenq false (.t 34), none⟩,
  ⟨(some 36), .mv (.t 1), none⟩,
  ⟨(some 37), .lenq false (.t 36), none⟩,
  ⟨(some 38), .bin .lss (.t 35) (.t 37), none⟩])
(.cond (.t 38)
  (.seq (.rg [⟨(some 6), .mv (.k (.d (.int .i64 (-1)))), none⟩])
  .ret)
  .skip))
(.seq (.rg [⟨(some 6), .mv (.k (.d (.int .i64 0))), none⟩])
.ret)))) }
theorem af92_ok : cFun Try.prog eqT Try.f92 = some af92 := by kernel_rfl
/-- internal/stringslite.HasPrefix -/
noncomputable def af93 : AFun := { np := 2, nt := 18, res := [.t 4], code :=
(.seq (.rg [⟨(some 4), .mv (.k (.d (.bool false))), none⟩])
(.seq (.rg [⟨(some 5), .mv (.t 0), none⟩,
  ⟨(some 6), .lenq true (.t 5), none⟩,
  ⟨(some 7), .mv (.t 1), none⟩,
  ⟨(some 8), .lenq true (.t 7), none⟩,
  ⟨(some 9), .bin .geq (.t 6) (.t 8), none⟩,
  ⟨(some 10), .mv (.t 9), none⟩,
  ⟨(some 11), .mv (.t 0), some (10, true)⟩,
  ⟨(some 12), .mv (.t 1), some (10, true)⟩,
  ⟨(some 13), .lenq true (.t 12), some (10, true)⟩,
  ⟨(some 14), .ss (.t 11) none (some (.t 13)), some (10, true)⟩,
  ⟨(some 15), .mv (.t 1), some (10, true)⟩,
  ⟨(some 16), .bin .eql (.t 14) (.t 15), some (10, true)⟩,
  ⟨(some 17), .pick (.t 10) (.t 16) (.k (.d (.bool false))), none⟩,
  ⟨(some 4), .mv (.t 17), none⟩])
.ret)) }
theorem af93_ok : cFun Try.prog eqT Try.f93 = some af93 := by kernel_rfl
/-- dossier/dec.floor -/
noncomputable def af94 : AFun := { np := 2, nt := 23, res := [.t 4, .t 5], code :=
(.seq (.rg [⟨(some 4), .mv (.k (.d (.int .i64 0))), none⟩,
  ⟨(some 5), .mv (.k (.d (.int .i64 0))), none⟩])
(.seq (.rd [⟨(some 8), .mv (.t 0), none⟩,
  ⟨(some 9), .mv (.t 1), none⟩,
  ⟨(some 10), .bin .quo (.t 8) (.t 9), none⟩,
  ⟨(some 11), .mv (.t 0), none⟩,
  ⟨(some 12), .mv (.t 1), none⟩,
  ⟨(some 13), .bin .rem (.t 11) (.t 12), none⟩,
  ⟨(some 6), .mv (.t 10), none⟩,
  ⟨(some 7), .mv (.t 13), none⟩] [])
(.seq (.seq (.rg [⟨(some 14), .mv (.t 7), none⟩,
  ⟨(some 15), .bin .lss (.t 14) (.k (.d (.int .i64 0))), none⟩])
(.cond (.t 15)
  (.seq (.rg [⟨(some 16), .mv (.t 6), none⟩,
    ⟨(some 17), .bin .sub (.t 16) (.k (.d (.int .i64 1))), none⟩,
    ⟨(some 18), .mv (.t 7), none⟩,
    ⟨(some 19), .mv (.t 1), none⟩,
    ⟨(some 20), .bin .add (.t 18) (.t 19), none⟩,
    ⟨(some 4), .mv (.t 17), none⟩,
    ⟨(some 5), .mv (.t 20), none⟩])
  .ret)
  .skip))
(.seq (.rg [⟨(some 21), .mv (.t 6), none⟩,
  ⟨(some 22), .mv (.t 7), none⟩,
  ⟨(some 4), .mv (.t 21), none⟩,
  ⟨(some 5), .mv (.t 22), none⟩])
.ret)))) }
theorem af94_ok : cFun Try.prog eqT Try.f94 = some af94 := by kernel_rfl
/-- (*dossier/dossierref4.reader).here -/
noncomputable def af95 : AFun := { np := 1, nt := 28, res := [.t 2], code :=
(.seq (.rg [⟨(some 2), .mv (.k (.d (.int .i64 0))), none⟩])
(.seq (.seq (.rd [⟨(some 3), .mv (.t 0), none⟩,
  ⟨(some 4), .nilck (.t 3), none⟩,
  ⟨(some 5), .fad (.t 4) 1, none⟩,
  ⟨(some 6), .ld none (.t 5), none⟩,
  ⟨(some 7), .mv (.t 0), none⟩,
  ⟨(some 8), .nilck (.t 7), none⟩,
  ⟨(some 9), .fad (.t 8) 0, none⟩,
  ⟨(some 10), .ld none (.t 9), none⟩,
  ⟨(some 11), .lenq false (.t 10), none⟩,
  ⟨(some 12), .bin .lss (.t 6) (.t 11), none⟩] [])
(.cond (.t 12)
  (.seq (.rd [⟨(some 13), .mv (.t 0), none⟩,
    ⟨(some 14), .nilck (.t 13), none⟩,
    ⟨(some 15), .fad (.t 14) 0, none⟩,
    ⟨(some 16), .ld none (.t 15), none⟩,
    ⟨(some 17), .mv (.t 0), none⟩,
    ⟨(some 18), .nilck (.t 17), none⟩,
    ⟨(some 19), .fad (.t 18) 1, none⟩,
    ⟨(some 20), .ld none (.t 19), none⟩,
    ⟨(some 21), .iad 3 (.t 16) (.t 20), none⟩,
    ⟨(some 22), .fad (.t 21) 2, none⟩,
    ⟨(some 23), .ld none (.t 22), none⟩,
    ⟨(some 2), .mv (.t 23), none⟩] [])
  .ret)
  .skip))
(.seq (.rg [⟨(some 24), .mv (.t 0), none⟩,
  ⟨(some 25), .nilck (.t 24), none⟩,
  ⟨(some 26), .fad (.t 25) 2, none⟩,
  ⟨(some 27), .ld none (.t 26), none⟩,
  ⟨(some 2), .mv (.t 27), none⟩])
.ret))) }
theorem af95_ok : cFun Try.prog eqT Try.f95 = some af95 := by kernel_rfl
/-- (*dossier/dossierref4.reader).add -/
noncomputable def af96 : AFun := { np := 2, nt := 22, res := [.c 4 (some 8)], code :=
(.seq (.rg [⟨(some 4), .new [.d (.int .i64 0), .d (.bool false), .d (.int .i64 0), .d (.int .i64 0), .d (.str []), .d (.bool false), .d (.bool false), .nils], none⟩])
(.seq (.rg [⟨(some 7), .mv (.t 0), none⟩,
  ⟨(some 8), .mv (.t 1), none⟩,
  ⟨(some 9), .call (.k (.fn 101 [])) [(.t 7), (.t 8)], none⟩,
  ⟨(some 5), .new [.d (.int .i64 0), .d (.bool false), .d (.int .i64 0), .d (.int .i64 0), .d (.str []), .d (.bool false), .d (.bool false), .nils], none⟩,
  ⟨none, .st 8 (.t 5) (.t 9), none⟩])
(.block 0
  (.loop
    (.block 1
      (.seq (.rg [⟨(some 10), .mv (.t 0), none⟩,
        ⟨(some 11), .mkrow 9 1 [(.k (.d (.str [43]))), (.k (.d (.str [45])))], none⟩,
        ⟨(some 12), .call (.k (.fn 57 [])) [(.t 10), (.t 11)], none⟩,
        ⟨(some 6), .mv (.t 12), none⟩])
      (.seq (.seq (.rg [⟨(some 13), .mv (.t 6), none⟩,
        ⟨(some 14), .bin .eql (.t 13) (.k (.d (.str []))), none⟩])
      (.cond (.t 14)
        (.seq (.rg [⟨(some 15), .ld (some 8) (.t 5), none⟩,
          ⟨none, .st 8 (.t 4) (.t 15), none⟩])
        .ret)
        .skip))
      (.rd [⟨(some 16), .mv (.t 6), none⟩,
        ⟨(some 17), .ld (some 8) (.t 5), none⟩,
        ⟨(some 18), .mv (.t 0), none⟩,
        ⟨(some 19), .mv (.t 1), none⟩,
        ⟨(some 20), .call (.k (.fn 101 [])) [(.t 18), (.t 19)], none⟩,
        ⟨(some 21), .call (.k (.fn 58 [])) [(.t 16), (.t 17), (.t 20)], none⟩,
        ⟨none, .st 8 (.t 5) (.t 21), none⟩] [(1, 4)])))))))) }
theorem af96_ok : cFun Try.prog eqT Try.f96 = some af96 := by kernel_rfl
/-- (*dossier/dossierref4.reader).must -/
noncomputable def af97 : AFun := { np := 2, nt := 14, res := [.t 4], code :=
(.seq (.rg [⟨(some 4), .mv (.k (.d (.str []))), none⟩])
(.seq (.rg [⟨(some 6), .mv (.t 0), none⟩,
  ⟨(some 7), .mv (.t 1), none⟩,
  ⟨(some 8), .call (.k (.fn 57 [])) [(.t 6), (.t 7)], none⟩,
  ⟨(some 5), .mv (.t 8), none⟩])
(.seq (.seq (.rg [⟨(some 9), .mv (.t 5), none⟩,
  ⟨(some 10), .bin .eql (.t 9) (.k (.d (.str []))), none⟩])
(.cond (.t 10)
  (.rg [⟨(some 11), .mv (.t 0), none⟩,
    ⟨(some 12), .call (.k (.fn 79 [])) [(.t 11), (.k (.d (.int .i64 2)))], none⟩])
  .skip))
(.seq (.rg [⟨(some 13), .mv (.t 5), none⟩,
  ⟨(some 4), .mv (.t 13), none⟩])
.ret)))) }
theorem af97_ok : cFun Try.prog eqT Try.f97 = some af97 := by kernel_rfl
/-- cmp.isNaN[int] -/
noncomputable def af99 : AFun := { np := 1, nt := 6, res := [.t 2], code :=
(.seq (.rg [⟨(some 2), .mv (.k (.d (.bool false))), none⟩])
(.seq (.rg [⟨(some 3), .mv (.t 0), none⟩,
  ⟨(some 4), .mv (.t 0), none⟩,
  ⟨(some 5), .bin .neq (.t 3) (.t 4), none⟩,
  ⟨(some 2), .mv (.t 5), none⟩])
.ret)) }
theorem af99_ok : cFun Try.prog eqT Try.f99 = some af99 := by kernel_rfl
/-- cmp.isNaN[string] -/
noncomputable def af100 : AFun := { np := 1, nt := 6, res := [.t 2], code :=
(.seq (.rg [⟨(some 2), .mv (.k (.d (.bool false))), none⟩])
(.seq (.rg [⟨(some 3), .mv (.t 0), none⟩,
  ⟨(some 4), .mv (.t 0), none⟩,
  ⟨(some 5), .bin .neq (.t 3) (.t 4), none⟩,
  ⟨(some 2), .mv (.t 5), none⟩])
.ret)) }
theorem af100_ok : cFun Try.prog eqT Try.f100 = some af100 := by kernel_rfl
/-- (*dossier/dossierref4.reader).mul -/
noncomputable def af101 : AFun := { np := 2, nt := 22, res := [.c 4 (some 8)], code :=
(.seq (.rg [⟨(some 4), .new [.d (.int .i64 0), .d (.bool false), .d (.int .i64 0), .d (.int .i64 0), .d (.str []), .d (.bool false), .d (.bool false), .nils], none⟩])
(.seq (.rg [⟨(some 7), .mv (.t 0), none⟩,
  ⟨(some 8), .mv (.t 1), none⟩,
  ⟨(some 9), .call (.k (.fn 102 [])) [(.t 7), (.t 8)], none⟩,
  ⟨(some 5), .new [.d (.int .i64 0), .d (.bool false), .d (.int .i64 0), .d (.int .i64 0), .d (.str []), .d (.bool false), .d (.bool false), .nils], none⟩,
  ⟨none, .st 8 (.t 5) (.t 9), none⟩])
(.block 0
  (.loop
    (.block 1
      (.seq (.rg [⟨(some 10), .mv (.t 0), none⟩,
        ⟨(some 11), .mkrow 9 1 [(.k (.d (.str [42]))), (.k (.d (.str [47])))], none⟩,
        ⟨(some 12), .call (.k (.fn 57 [])) [(.t 10), (.t 11)], none⟩,
        ⟨(some 6), .mv (.t 12), none⟩])
      (.seq (.seq (.rg [⟨(some 13), .mv (.t 6), none⟩,
        ⟨(some 14), .bin .eql (.t 13) (.k (.d (.str []))), none⟩])
      (.cond (.t 14)
        (.seq (.rg [⟨(some 15), .ld (some 8) (.t 5), none⟩,
          ⟨none, .st 8 (.t 4) (.t 15), none⟩])
        .ret)
        .skip))
      (.rd [⟨(some 16), .mv (.t 6), none⟩,
        ⟨(some 17), .ld (some 8) (.t 5), none⟩,
        ⟨(some 18), .mv (.t 0), none⟩,
        ⟨(some 19), .mv (.t 1), none⟩,
        ⟨(some 20), .call (.k (.fn 102 [])) [(.t 18), (.t 19)], none⟩,
        ⟨(some 21), .call (.k (.fn 58 [])) [(.t 16), (.t 17), (.t 20)], none⟩,
        ⟨none, .st 8 (.t 5) (.t 21), none⟩] [(1, 4)])))))))) }
theorem af101_ok : cFun Try.prog eqT Try.f101 = some af101 := by kernel_rfl
/-- (*dossier/dossierref4.reader).unary -/
noncomputable def af102 : AFun := { np := 2, nt := 22, res := [.c 4 (some 8)], code :=
(.seq (.rg [⟨(some 4), .new [.d (.int .i64 0), .d (.bool false), .d (.int .i64 0), .d (.int .i64 0), .d (.str []), .d (.bool false), .d (.bool false), .nils], none⟩])
(.seq (.seq (.rg [⟨(some 5), .mv (.t 0), none⟩,
  ⟨(some 6), .mv (.t 1), none⟩,
  ⟨(some 7), .call (.k (.fn 55 [])) [(.t 5), (.t 6)], none⟩])
(.cond (.t 7)
  (.seq (.rg [⟨(some 8), .build [.int .i64 0, .bool false, .int .i64 0, .int .i64 0, .str [], .bool false, .bool false, .sl []] [], none⟩,
    ⟨none, .st 8 (.t 4) (.t 8), none⟩])
  .ret)
  .skip))
(.seq (.seq (.rg [⟨(some 9), .mv (.t 0), none⟩,
  ⟨(some 10), .mkrow 9 1 [(.k (.d (.str [45])))], none⟩,
  ⟨(some 11), .call (.k (.fn 57 [])) [(.t 9), (.t 10)], none⟩,
  ⟨(some 12), .bin .neq (.t 11) (.k (.d (.str []))), none⟩])
(.cond (.t 12)
  (.seq (.rg [⟨(some 13), .mv (.t 0), none⟩,
    ⟨(some 14), .mv (.t 1), none⟩,
    ⟨(some 15), .bin .add (.t 14) (.k (.d (.int .i64 1))), none⟩,
    ⟨(some 16), .call (.k (.fn 102 [])) [(.t 13), (.t 15)], none⟩,
    ⟨(some 17), .mkrow 39 8 [(.t 16)], none⟩,
    ⟨(some 18), .build [.int .i64 0, .bool false, .int .i64 0, .int .i64 0, .str [], .bool false, .bool false, .sl []] [(0, 1, (.k (.d (.int .i64 7)))), (7, 1, (.t 17))], none⟩,
    ⟨none, .st 8 (.t 4) (.t 18), none⟩])
  .ret)
  .skip))
(.seq (.rg [⟨(some 19), .mv (.t 0), none⟩,
  ⟨(some 20), .mv (.t 1), none⟩,
  ⟨(some 21), .call (.k (.fn 103 [])) [(.t 19), (.t 20)], none⟩,
  ⟨none, .st 8 (.t 4) (.t 21), none⟩])
.ret)))) }
theorem af102_ok : cFun Try.prog eqT Try.f102 = some af102 := by kernel_rfl
/-- (*dossier/dossierref4.reader).atom -/
noncomputable def af103 : AFun := { np := 2, nt := 162, res := [.c 4 (some 8)], code :=
(.seq (.rg [⟨(some 4), .new [.d (.int .i64 0), .d (.bool false), .d (.int .i64 0), .d (.int .i64 0), .d (.str []), .d (.bool false), .d (.bool false), .nils], none⟩])
(.seq (.seq (.rd [⟨(some 11), .mv (.t 0), none⟩,
  ⟨(some 12), .nilck (.t 11), none⟩,
  ⟨(some 13), .fad (.t 12) 3, none⟩,
  ⟨(some 14), .ld none (.t 13), none⟩,
  ⟨(some 15), .bin .neq (.t 14) (.k (.d (.int .i64 0))), none⟩,
  ⟨(some 16), .mv (.t 15), none⟩,
  ⟨(some 17), .mv (.t 0), some (16, false)⟩,
  ⟨(some 18), .nilck (.t 17), some (16, false)⟩,
  ⟨(some 19), .fad (.t 18) 1, some (16, false)⟩,
  ⟨(some 20), .ld none (.t 19), some (16, false)⟩,
  ⟨(some 21), .mv (.t 0), some (16, false)⟩,
  ⟨(some 22), .nilck (.t 21), some (16, false)⟩,
  ⟨(some 23), .fad (.t 22) 0, some (16, false)⟩,
  ⟨(some 24), .ld none (.t 23), some (16, false)⟩,
  ⟨(some 25), .lenq false (.t 24), some (16, false)⟩,
  ⟨(some 26), .bin .geq (.t 20) (.t 25), some (16, false)⟩,
  ⟨(some 27), .pick (.t 16) (.k (.d (.bool true))) (.t 26), none⟩] [])
(.cond (.t 27)
  (.seq (.rg [⟨(some 28), .mv (.t 0), none⟩,
    ⟨(some 29), .call (.k (.fn 79 [])) [(.t 28), (.k (.d (.int .i64 2)))], none⟩])
  (.seq (.rg [⟨(some 30), .build [.int .i64 0, .bool false, .int .i64 0, .int .i64 0, .str [], .bool false, .bool false, .sl []] [], none⟩,
    ⟨none, .st 8 (.t 4) (.t 30), none⟩])
  .ret))
  .skip))
(.seq (.rd [⟨(some 31), .mv (.t 0), none⟩,
  ⟨(some 32), .nilck (.t 31), none⟩,
  ⟨(some 33), .fad (.t 32) 0, none⟩,
  ⟨(some 34), .ld none (.t 33), none⟩,
  ⟨(some 35), .mv (.t 0), none⟩,
  ⟨(some 36), .nilck (.t 35), none⟩,
  ⟨(some 37), .fad (.t 36) 1, none⟩,
  ⟨(some 38), .ld none (.t 37), none⟩,
  ⟨(some 39), .iad 3 (.t 34) (.t 38), none⟩,
  ⟨(some 40), .ld (some 3) (.t 39), none⟩,
  ⟨(some 5), .new [.d (.int .i64 0), .d (.str []), .d (.int .i64 0)], none⟩,
  ⟨none, .st 3 (.t 5) (.t 40), none⟩] [(3, 10), (7, 10), (9, 10)])
(.seq (.block 0
  (.seq (.rg [⟨(some 42), .fad (.t 5) 0, none⟩,
    ⟨(some 43), .ld none (.t 42), none⟩,
    ⟨(some 44), .bin .eql (.t 43) (.k (.d (.int .i64 2))), none⟩,
    ⟨(some 41), .mv (.t 44), none⟩])
  (.cond (.t 41)
    (.seq (.rg [⟨(some 46), .fad (.t 5) 1, none⟩,
      ⟨(some 47), .ld none (.t 46), none⟩,
      ⟨(some 48), .call (.k (.fn 104 [])) [(.t 47)], none⟩,
      ⟨(some 45), .mv (.t 48), none⟩,
      ⟨(some 49), .ext (.t 45) 0, none⟩,
      ⟨(some 50), .ext (.t 45) 1, none⟩,
      ⟨(some 6), .new [.d (.int .i64 0), .d (.int .i64 0)], none⟩,
      ⟨none, .st 2 (.t 6) (.t 49), none⟩,
      ⟨(some 7), .mv (.t 50), none⟩])
    (.seq (.seq (.rg [⟨(some 51), .mv (.t 7), none⟩,
      ⟨(some 52), .bin .neq (.t 51) (.k (.d (.int .i64 0))), none⟩])
    (.cond (.t 52)
      (.rg [⟨(some 53), .mv (.t 0), none⟩,
        ⟨(some 54), .mv (.t 7), none⟩,
        ⟨(some 55), .call (.k (.fn 79 [])) [(.t 53), (.t 54)], none⟩])
      .skip))
    (.seq (.rg [⟨(some 56), .mv (.t 0), none⟩,
      ⟨(some 57), .nilck (.t 56), none⟩,
      ⟨(some 58), .fad (.t 57) 1, none⟩,
      ⟨(some 59), .ld none (.t 58), none⟩,
      ⟨(some 60), .bin .add (.t 59) (.k (.d (.int .i64 1))), none⟩,
      ⟨(some 61), .nilck (.t 56), none⟩,
      ⟨(some 62), .fad (.t 61) 1, none⟩,
      ⟨none, .st 1 (.t 62) (.t 60), none⟩])
    (.seq (.rg [⟨(some 63), .ld (some 2) (.t 6), none⟩,
      ⟨(some 64), .build [.int .i64 0, .bool false, .int .i64 0, .int .i64 0, .str [], .bool false, .bool false, .sl []] [(0, 1, (.k (.d (.int .i64 3)))), (2, 2, (.t 63))], none⟩,
      ⟨none, .st 8 (.t 4) (.t 64), none⟩])
    .ret))))
    (.seq (.rg [⟨(some 66), .fad (.t 5) 0, none⟩,
      ⟨(some 67), .ld none (.t 66), none⟩,
      ⟨(some 68), .bin .eql (.t 67) (.k (.d (.int .i64 3))), none⟩,
      ⟨(some 65), .mv (.t 68), none⟩])
    (.cond (.t 65)
      (.seq (.rg [⟨(some 69), .mv (.t 0), none⟩,
        ⟨(some 70), .nilck (.t 69), none⟩,
        ⟨(some 71), .fad (.t 70) 1, none⟩,
        ⟨(some 72), .ld none (.t 71), none⟩,
        ⟨(some 73), .bin .add (.t 72) (.k (.d (.int .i64 1))), none⟩,
        ⟨(some 74), .nilck (.t 69), none⟩,
        ⟨(some 75), .fad (.t 74) 1, none⟩,
        ⟨none, .st 1 (.t 75) (.t 73), none⟩])
      (.seq (.rg [⟨(some 76), .fad (.t 5) 1, none⟩,
        ⟨(some 77), .ld none (.t 76), none⟩,
        ⟨(some 78), .build [.int .i64 0, .bool false, .int .i64 0, .int .i64 0, .str [], .bool false, .bool false, .sl []] [(0, 1, (.k (.d (.int .i64 4)))), (4, 1, (.t 77))], none⟩,
        ⟨none, .st 8 (.t 4) (.t 78), none⟩])
      .ret))
      (.seq (.rg [⟨(some 80), .fad (.t 5) 0, none⟩,
        ⟨(some 81), .ld none (.t 80), none⟩,
        ⟨(some 82), .bin .eql (.t 81) (.k (.d (.int .i64 1))), none⟩,
        ⟨(some 83), .mv (.t 82), none⟩,
        ⟨(some 84), .fad (.t 5) 1, some (83, true)⟩,
        ⟨(some 85), .ld none (.t 84), some (83, true)⟩,
        ⟨(some 86), .call (.k (.fn 54 [])) [(.t 85)], some (83, true)⟩,
        ⟨(some 87), .un .not (.t 86), some (83, true)⟩,
        ⟨(some 88), .pick (.t 83) (.t 87) (.k (.d (.bool false))), none⟩,
        ⟨(some 79), .mv (.t 88), none⟩])
      (.cond (.t 79)
        (.seq (.rg [⟨(some 89), .mv (.t 0), none⟩,
          ⟨(some 90), .nilck (.t 89), none⟩,
          ⟨(some 91), .fad (.t 90) 1, none⟩,
          ⟨(some 92), .ld none (.t 91), none⟩,
          ⟨(some 93), .bin .add (.t 92) (.k (.d (.int .i64 1))), none⟩,
          ⟨(some 94), .nilck (.t 89), none⟩,
          ⟨(some 95), .fad (.t 94) 1, none⟩,
          ⟨none, .st 1 (.t 95) (.t 93), none⟩])
        (.seq (.seq (.rg [⟨(some 96), .mv (.t 0), none⟩,
          ⟨(some 97), .mkrow 9 1 [(.k (.d (.str [40])))], none⟩,
          ⟨(some 98), .call (.k (.fn 57 [])) [(.t 96), (.t 97)], none⟩,
          ⟨(some 99), .bin .neq (.t 98) (.k (.d (.str []))), none⟩])
        (.cond (.t 99)
          (.seq (.rd [⟨(some 100), .fad (.t 5) 1, none⟩,
            ⟨(some 101), .ld none (.t 100), none⟩,
            ⟨(some 102), .mv (.t 0), none⟩,
            ⟨(some 103), .mv (.t 1), none⟩,
            ⟨(some 104), .call (.k (.fn 105 [])) [(.t 102), (.t 103), (.k (.d (.str [41])))], none⟩,
            ⟨(some 105), .build [.int .i64 0, .bool false, .int .i64 0, .int .i64 0, .str [], .bool false, .bool false, .sl []] [(0, 1, (.k (.d (.int .i64 10)))), (4, 1, (.t 101)), (7, 1, (.t 104))], none⟩,
            ⟨none, .st 8 (.t 4) (.t 105), none⟩] [(1, 4)])
          .ret)
          .skip))
        (.seq (.rg [⟨(some 106), .fad (.t 5) 1, none⟩,
          ⟨(some 107), .ld none (.t 106), none⟩,
          ⟨(some 108), .build [.int .i64 0, .bool false, .int .i64 0, .int .i64 0, .str [], .bool false, .bool false, .sl []] [(0, 1, (.k (.d (.int .i64 5)))), (4, 1, (.t 107))], none⟩,
          ⟨none, .st 8 (.t 4) (.t 108), none⟩])
        .ret)))
        .skip)))))))
(.seq (.seq (.rg [⟨(some 109), .mv (.t 0), none⟩,
  ⟨(some 110), .mkrow 9 1 [(.k (.d (.str [116, 114, 117, 101]))), (.k (.d (.str [102, 97, 108, 115, 101]))), (.k (.d (.str [110, 117, 108, 108]))), (.k (.d (.str [40]))), (.k (.d (.str [91]))), (.k (.d (.str [105, 102])))], none⟩,
  ⟨(some 111), .call (.k (.fn 97 [])) [(.t 109), (.t 110)], none⟩])
(.block 1
  (.seq (.rg [⟨(some 113), .bin .eql (.t 111) (.k (.d (.str [116, 114, 117, 101]))), none⟩,
    ⟨(some 112), .mv (.t 113), none⟩])
  (.cond (.t 112)
    (.seq (.rg [⟨(some 114), .build [.int .i64 0, .bool false, .int .i64 0, .int .i64 0, .str [], .bool false, .bool false, .sl []] [(0, 1, (.k (.d (.int .i64 2)))), (1, 1, (.k (.d (.bool true))))], none⟩,
      ⟨none, .st 8 (.t 4) (.t 114), none⟩])
    .ret)
    (.seq (.rg [⟨(some 116), .bin .eql (.t 111) (.k (.d (.str [102, 97, 108, 115, 101]))), none⟩,
      ⟨(some 115), .mv (.t 116), none⟩])
    (.cond (.t 115)
      (.seq (.rg [⟨(some 117), .build [.int .i64 0, .bool false, .int .i64 0, .int .i64 0, .str [], .bool false, .bool false, .sl []] [(0, 1, (.k (.d (.int .i64 2))))], none⟩,
        ⟨none, .st 8 (.t 4) (.t 117), none⟩])
      .ret)
      (.seq (.rg [⟨(some 119), .bin .eql (.t 111) (.k (.d (.str [110, 117, 108, 108]))), none⟩,
        ⟨(some 118), .mv (.t 119), none⟩])
      (.cond (.t 118)
        (.seq (.rg [⟨(some 120), .build [.int .i64 0, .bool false, .int .i64 0, .int .i64 0, .str [], .bool false, .bool false, .sl []] [(0, 1, (.k (.d (.int .i64 1))))], none⟩,
          ⟨none, .st 8 (.t 4) (.t 120), none⟩])
        .ret)
        (.seq (.rg [⟨(some 122), .bin .eql (.t 111) (.k (.d (.str [40]))), none⟩,
          ⟨(some 121), .mv (.t 122), none⟩])
        (.cond (.t 121)
          (.seq (.rg [⟨(some 123), .mv (.t 0), none⟩,
            ⟨(some 124), .mv (.t 1), none⟩,
            ⟨(some 125), .bin .add (.t 124) (.k (.d (.int .i64 1))), none⟩,
            ⟨(some 126), .call (.k (.fn 37 [])) [(.t 123), (.t 125)], none⟩,
            ⟨(some 8), .new [.d (.int .i64 0), .d (.bool false), .d (.int .i64 0), .d (.int .i64 0), .d (.str []), .d (.bool false), .d (.bool false), .nils], none⟩,
            ⟨none, .st 8 (.t 8) (.t 126), none⟩])
          (.seq (.rg [⟨(some 127), .mv (.t 0), none⟩,
            ⟨(some 128), .mkrow 9 1 [(.k (.d (.str [41])))], none⟩,
            ⟨(some 129), .call (.k (.fn 97 [])) [(.t 127), (.t 128)], none⟩])
          (.seq (.rg [⟨(some 130), .ld (some 8) (.t 8), none⟩,
            ⟨none, .st 8 (.t 4) (.t 130), none⟩])
          .ret)))
          (.seq (.rg [⟨(some 132), .bin .eql (.t 111) (.k (.d (.str [91]))), none⟩,
            ⟨(some 131), .mv (.t 132), none⟩])
          (.cond (.t 131)
            (.seq (.rg [⟨(some 133), .mv (.t 0), none⟩,
              ⟨(some 134), .mv (.t 1), none⟩,
              ⟨(some 135), .call (.k (.fn 105 [])) [(.t 133), (.t 134), (.k (.d (.str [93])))], none⟩,
              ⟨(some 136), .build [.int .i64 0, .bool false, .int .i64 0, .int .i64 0, .str [], .bool false, .bool false, .sl []] [(0, 1, (.k (.d (.int .i64 9)))), (7, 1, (.t 135))], none⟩,
              ⟨none, .st 8 (.t 4) (.t 136), none⟩])
            .ret)
            (.seq (.rg [⟨(some 138), .bin .eql (.t 111) (.k (.d (.str [105, 102]))), none⟩,
              ⟨(some 137), .mv (.t 138), none⟩])
            (.cond (.t 137)
              (.seq (.rg [⟨(some 139), .mv (.t 0), none⟩,
                ⟨(some 140), .mv (.t 1), none⟩,
                ⟨(some 141), .bin .add (.t 140) (.k (.d (.int .i64 1))), none⟩,
                ⟨(some 142), .call (.k (.fn 37 [])) [(.t 139), (.t 141)], none⟩,
                ⟨(some 9), .new [.d (.int .i64 0), .d (.bool false), .d (.int .i64 0), .d (.int .i64 0), .d (.str []), .d (.bool false), .d (.bool false), .nils], none⟩,
                ⟨none, .st 8 (.t 9) (.t 142), none⟩])
              (.seq (.rg [⟨(some 143), .mv (.t 0), none⟩,
                ⟨(some 144), .mkrow 9 1 [(.k (.d (.str [116, 104, 101, 110])))], none⟩,
                ⟨(some 145), .call (.k (.fn 97 [])) [(.t 143), (.t 144)], none⟩])
              (.seq (.rg [⟨(some 146), .mv (.t 0), none⟩,
                ⟨(some 147), .mv (.t 1), none⟩,
                ⟨(some 148), .bin .add (.t 147) (.k (.d (.int .i64 1))), none⟩,
                ⟨(some 149), .call (.k (.fn 37 [])) [(.t 146), (.t 148)], none⟩,
                ⟨(some 10), .new [.d (.int .i64 0), .d (.bool false), .d (.int .i64 0), .d (.int .i64 0), .d (.str []), .d (.bool false), .d (.bool false), .nils], none⟩,
                ⟨none, .st 8 (.t 10) (.t 149), none⟩])
              (.seq (.rg [⟨(some 150), .mv (.t 0), none⟩,
                ⟨(some 151), .mkrow 9 1 [(.k (.d (.str [101, 108, 115, 101])))], none⟩,
                ⟨(some 152), .call (.k (.fn 97 [])) [(.t 150), (.t 151)], none⟩])
              (.seq (.rd [⟨(some 153), .ld (some 8) (.t 9), none⟩,
                ⟨(some 154), .ld (some 8) (.t 10), none⟩,
                ⟨(some 155), .mv (.t 0), none⟩,
                ⟨(some 156), .mv (.t 1), none⟩,
                ⟨(some 157), .bin .add (.t 156) (.k (.d (.int .i64 1))), none⟩,
                ⟨(some 158), .call (.k (.fn 37 [])) [(.t 155), (.t 157)], none⟩,
                ⟨(some 159), .mkrow 39 8 [(.t 153), (.t 154), (.t 158)], none⟩,
                ⟨(some 160), .build [.int .i64 0, .bool false, .int .i64 0, .int .i64 0, .str [], .bool false, .bool false, .sl []] [(0, 1, (.k (.d (.int .i64 8)))), (7, 1, (.t 159))], none⟩,
                ⟨none, .st 8 (.t 4) (.t 160), none⟩] [(0, 5), (1, 5)])
              .ret)))))
              .skip))))))))))))))
(.seq (.rg [⟨(some 161), .build [.int .i64 0, .bool false, .int .i64 0, .int .i64 0, .str [], .bool false, .bool false, .sl []] [], none⟩,
  ⟨none, .st 8 (.t 4) (.t 161), none⟩])
.ret)))))) }
theorem af103_ok : cFun Try.prog eqT Try.f103 = some af103 := by kernel_rfl
/-- dossier/dossierref1.Parse -/
noncomputable def af104 : AFun := { np := 1, nt := 103, res := [.c 2 (some 2), .t 3], code :=
(.seq (.rg [⟨(some 2), .new [.d (.int .i64 0), .d (.int .i64 0)], none⟩,
  ⟨(some 3), .mv (.k (.d (.int .i64 0))), none⟩])
(.seq (.rg [⟨(some 4), .mv (.k (.d (.int .i64 0))), none⟩])
(.seq (.seq (.rg [⟨(some 10), .mv (.t 0), none⟩,
  ⟨(some 11), .lenq true (.t 10), none⟩,
  ⟨(some 12), .bin .gtr (.t 11) (.k (.d (.int .i64 0))), none⟩,
  ⟨(some 13), .mv (.t 12), none⟩,
  ⟨(some 14), .mv (.t 0), some (13, true)⟩,
  ⟨(some 15), .ixs (.t 14) (.k (.d (.int .i64 0))), some (13, true)⟩,
  ⟨(some 16), .bin .eql (.t 15) (.k (.d (.int .u8 45))), some (13, true)⟩,
  ⟨(some 17), .pick (.t 13) (.t 16) (.k (.d (.bool false))), none⟩])
(.cond (.t 17)
  (.rg [⟨(some 4), .mv (.k (.d (.int .i64 1))), none⟩])
  .skip))
(.seq (.rg [⟨(some 18), .mv (.t 0), none⟩,
  ⟨(some 19), .mv (.t 4), none⟩,
  ⟨(some 20), .call (.k (.fn 106 [])) [(.t 18), (.t 19)], none⟩,
  ⟨(some 5), .mv (.t 20), none⟩])
(.seq (.rg [⟨(some 6), .mv (.k (.d (.int .i64 0))), none⟩])
(.seq (.rg [⟨(some 21), .mv (.t 4), none⟩,
  ⟨(some 22), .mv (.t 5), none⟩,
  ⟨(some 23), .bin .add (.t 21) (.t 22), none⟩,
  ⟨(some 7), .mv (.t 23), none⟩])
(.seq (.seq (.rg [⟨(some 24), .mv (.t 5), none⟩,
  ⟨(some 25), .bin .gtr (.t 24) (.k (.d (.int .i64 0))), none⟩,
  ⟨(some 26), .mv (.t 25), none⟩,
  ⟨(some 27), .mv (.t 7), some (26, true)⟩,
  ⟨(some 28), .mv (.t 0), some (26, true)⟩,
  ⟨(some 29), .lenq true (.t 28), some (26, true)⟩,
  ⟨(some 30), .bin .lss (.t 27) (.t 29), some (26, true)⟩,
  ⟨(some 31), .pick (.t 26) (.t 30) (.k (.d (.bool false))), none⟩,
  ⟨(some 32), .mv (.t 31), none⟩,
  ⟨(some 33), .mv (.t 0), some (32, true)⟩,
  ⟨(some 34), .mv (.t 7), some (32, true)⟩,
  ⟨(some 35), .ixs (.t 33) (.t 34), some (32, true)⟩,
  ⟨(some 36), .bin .eql (.t 35) (.k (.d (.int .u8 46))), some (32, true)⟩,
  ⟨(some 37), .pick (.t 32) (.t 36) (.k (.d (.bool false))), none⟩])
(.cond (.t 37)
  (.seq (.rg [⟨(some 38), .mv (.t 0), none⟩,
    ⟨(some 39), .mv (.t 7), none⟩,
    ⟨(some 40), .bin .add (.t 39) (.k (.d (.int .i64 1))), none⟩,
    ⟨(some 41), .call (.k (.fn 106 [])) [(.t 38), (.t 40)], none⟩,
    ⟨(some 6), .mv (.t 41), none⟩])
  (.rg [⟨(some 42), .mv (.t 7), none⟩,
    ⟨(some 43), .bin .add (.t 42) (.k (.d (.int .i64 1))), none⟩,
    ⟨(some 44), .mv (.t 6), none⟩,
    ⟨(some 45), .bin .add (.t 43) (.t 44), none⟩,
    ⟨(some 7), .mv (.t 45), none⟩]))
  .skip))
(.seq (.seq (.rg [⟨(some 46), .mv (.t 5), none⟩,
  ⟨(some 47), .bin .eql (.t 46) (.k (.d (.int .i64 0))), none⟩,
  ⟨(some 48), .mv (.t 47), none⟩,
  ⟨(some 49), .mv (.t 7), some (48, false)⟩,
  ⟨(some 50), .mv (.t 0), some (48, false)⟩,
  ⟨(some 51), .lenq true (.t 50), some (48, false)⟩,
  ⟨(some 52), .bin .neq (.t 49) (.t 51), some (48, false)⟩,
  ⟨(some 53), .pick (.t 48) (.k (.d (.bool true))) (.t 52), none⟩,
  ⟨(some 54), .mv (.t 53), none⟩,
  ⟨(some 55), .mv (.t 6), some (54, false)⟩,
  ⟨(some 56), .bin .eql (.t 55) (.k (.d (.int .i64 0))), some (54, false)⟩,
  ⟨(some 57), .mv (.t 56), some (54, false)⟩,
  ⟨(some 58), .mv (.t 7), some (57, true)⟩,
  ⟨(some 59), .mv (.t 4), some (57, true)⟩,
  ⟨(some 60), .mv (.t 5), some (57, true)⟩,
  ⟨(some 61), .bin .add (.t 59) (.t 60), some (57, true)⟩,
  ⟨(some 62), .bin .gtr (.t 58) (.t 61), some (57, true)⟩,
  ⟨(some 63), .pick (.t 57) (.t 62) (.k (.d (.bool false))), some (54, false)⟩,
  ⟨(some 64), .pick (.t 54) (.k (.d (.bool true))) (.t 63), none⟩])
(.cond (.t 64)
  (.seq (.rg [⟨(some 65), .build [.int .i64 0, .int .i64 0] [], none⟩,
    ⟨none, .st 2 (.t 2) (.t 65), none⟩,
    ⟨(some 3), .mv (.k (.d (.int .i64 2))), none⟩])
  .ret)
  .skip))
(.seq (.seq (.rg [⟨(some 66), .mv (.t 5), none⟩,
  ⟨(some 67), .mv (.t 6), none⟩,
  ⟨(some 68), .bin .add (.t 66) (.t 67), none⟩,
  ⟨(some 69), .bin .gtr (.t 68) (.k (.d (.int .i64 18))), none⟩,
  ⟨(some 70), .mv (.t 69), none⟩,
  ⟨(some 71), .mv (.t 6), some (70, false)⟩,
  ⟨(some 72), .bin .gtr (.t 71) (.k (.d (.int .i64 8))), some (70, false)⟩,
  ⟨(some 73), .pick (.t 70) (.k (.d (.bool true))) (.t 72), none⟩])
(.cond (.t 73)
  (.seq (.rg [⟨(some 74), .build [.int .i64 0, .int .i64 0] [], none⟩,
    ⟨none, .st 2 (.t 2) (.t 74), none⟩,
    ⟨(some 3), .mv (.k (.d (.int .i64 3))), none⟩])
  .ret)
  .skip))
(.seq (.rg [⟨(some 8), .mv (.k (.d (.int .i64 0))), none⟩])
(.seq (.seq (.rg [⟨(some 75), .mv (.t 4), none⟩,
  ⟨(some 9), .mv (.t 75), none⟩])
(.block 0
  (.loop
    (.seq (.seq (.rg [⟨(some 76), .mv (.t 9), none⟩,
      ⟨(some 77), .mv (.t 0), none⟩,
      ⟨(some 78), .lenq true (.t 77), none⟩,
      ⟨(some 79), .bin .lss (.t 76) (.t 78), none⟩])
    (.cond (.t 79)
      .skip
      (.exit 0)))
    (.seq (.block 1
      (.seq (.rg [⟨(some 82), .mv (.t 0), none⟩,
        ⟨(some 83), .mv (.t 9), none⟩,
        ⟨(some 84), .ixs (.t 82) (.t 83), none⟩,
        ⟨(some 85), .bin .neq (.t 84) (.k (.d (.int .u8 46))), none⟩])
      (.cond (.t 85)
        (.rg [⟨(some 86), .mv (.t 8), none⟩,
          ⟨(some 87), .bin .mul (.t 86) (.k (.d (.int .i64 10))), none⟩,
          ⟨(some 88), .mv (.t 0), none⟩,
          ⟨(some 89), .mv (.t 9), none⟩,
          ⟨(some 90), .ixs (.t 88) (.t 89), none⟩,
          ⟨(some 91), .bin .sub (.t 90) (.k (.d (.int .u8 48))), none⟩,
          ⟨(some 92), .cvi .i64 (.t 91), none⟩,
          ⟨(some 93), .bin .add (.t 87) (.t 92), none⟩,
          ⟨(some 8), .mv (.t 93), none⟩])
        .skip)))
    (.rg [⟨(some 80), .mv (.t 9), none⟩,
      ⟨(some 81), .bin .add (.t 80) (.k (.d (.int .i64 1))), none⟩,
      ⟨(some 9), .mv (.t 81), none⟩]))))))
(.seq (.seq (.rg [⟨(some 94), .mv (.t 4), none⟩,
  ⟨(some 95), .bin .eql (.t 94) (.k (.d (.int .i64 1))), none⟩])
(.cond (.t 95)
  (.rg [⟨(some 96), .mv (.t 8), none⟩,
    ⟨(some 97), .un .neg (.t 96), none⟩,
    ⟨(some 8), .mv (.t 97), none⟩])
  .skip))
(.seq (.rg [⟨(some 98), .mv (.t 8), none⟩,
  ⟨(some 99), .mv (.t 6), none⟩,
  ⟨(some 100), .call (.k (.fn 107 [])) [(.t 98), (.t 99)], none⟩,
  ⟨(some 101), .ext (.t 100) 0, none⟩,
  ⟨(some 102), .ext (.t 100) 1, none⟩,
  ⟨none, .st 2 (.t 2) (.t 101), none⟩,
  ⟨(some 3), .mv (.t 102), none⟩])
.ret))))))))))))) }
theorem af104_ok : cFun Try.prog eqT Try.f104 = some af104 := by kernel_rfl
/-- (*dossier/dossierref4.reader).row -/
noncomputable def af105 : AFun := { np := 3, nt := 27, res := [.t 6], code :=
(.seq (.rg [⟨(some 6), .mv (.k (.nils)), none⟩])
(.seq (.rg [⟨(some 7), .mv (.k (.nils)), none⟩])
(.seq (.seq (.rg [⟨(some 8), .mv (.t 0), none⟩,
  ⟨(some 9), .mv (.t 2), none⟩,
  ⟨(some 10), .mkrow 9 1 [(.t 9)], none⟩,
  ⟨(some 11), .call (.k (.fn 57 [])) [(.t 8), (.t 10)], none⟩,
  ⟨(some 12), .bin .neq (.t 11) (.k (.d (.str []))), none⟩])
(.cond (.t 12)
  (.seq (.rg [⟨(some 13), .mv (.t 7), none⟩,
    ⟨(some 6), .mv (.t 13), none⟩])
  .ret)
  .skip))
(.block 0
  (.loop
    (.block 1
      (.seq (.rg [⟨(some 14), .mv (.t 7), none⟩,
        ⟨(some 15), .mv (.t 0), none⟩,
        ⟨(some 16), .mv (.t 1), none⟩,
        ⟨(some 17), .bin .add (.t 16) (.k (.d (.int .i64 1))), none⟩,
        ⟨(some 18), .call (.k (.fn 37 [])) [(.t 15), (.t 17)], none⟩,
        ⟨(some 19), .mkrow 39 8 [(.t 18)], none⟩,
        ⟨(some 20), .app 39 8 80 (.t 14) (.t 19), none⟩,
        ⟨(some 7), .mv (.t 20), none⟩])
      (.seq (.rg [⟨(some 21), .mv (.t 0), none⟩,
        ⟨(some 22), .mv (.t 2), none⟩,
        ⟨(some 23), .mkrow 9 1 [(.k (.d (.str [44]))), (.t 22)], none⟩,
        ⟨(some 24), .call (.k (.fn 97 [])) [(.t 21), (.t 23)], none⟩,
        ⟨(some 25), .bin .neq (.t 24) (.k (.d (.str [44]))), none⟩])
      (.cond (.t 25)
        (.seq (.rg [⟨(some 26), .mv (.t 7), none⟩,
          ⟨(some 6), .mv (.t 26), none⟩])
        .ret)
        .skip))))))))) }
theorem af105_ok : cFun Try.prog eqT Try.f105 = some af105 := by kernel_rfl
/-- dossier/dossierref1.digits -/
noncomputable def af106 : AFun := { np := 2, nt := 31, res := [.t 4], code :=
(.seq (.rg [⟨(some 4), .mv (.k (.d (.int .i64 0))), none⟩])
(.seq (.rg [⟨(some 5), .mv (.k (.d (.int .i64 0))), none⟩])
(.seq (.block 0
  (.loop
    (.seq (.seq (.rg [⟨(some 6), .mv (.t 1), none⟩,
      ⟨(some 7), .mv (.t 5), none⟩,
      ⟨(some 8), .bin .add (.t 6) (.t 7), none⟩,
      ⟨(some 9), .mv (.t 0), none⟩,
      ⟨(some 10), .lenq true (.t 9), none⟩,
      ⟨(some 11), .bin .lss (.t 8) (.t 10), none⟩,
      ⟨(some 12), .mv (.t 11), none⟩,
      ⟨(some 13), .mv (.t 0), some (12, true)⟩,
      ⟨(some 14), .mv (.t 1), some (12, true)⟩,
      ⟨(some 15), .mv (.t 5), some (12, true)⟩,
      ⟨(some 16), .bin .add (.t 14) (.t 15), some (12, true)⟩,
      ⟨(some 17), .ixs (.t 13) (.t 16), some (12, true)⟩,
      ⟨(some 18), .bin .geq (.t 17) (.k (.d (.int .u8 48))), some (12, true)⟩,
      ⟨(some 19), .pick (.t 12) (.t 18) (.k (.d (.bool false))), none⟩,
      ⟨(some 20), .mv (.t 19), none⟩,
      ⟨(some 21), .mv (.t 0), some (20, true)⟩,
      ⟨(some 22), .mv (.t 1), some (20, true)⟩,
      ⟨(some 23), .mv (.t 5), some (20, true)⟩,
      ⟨(some 24), .bin .add (.t 22) (.t 23), some (20, true)⟩,
      ⟨(some 25), .ixs (.t 21) (.t 24), some (20, true)⟩,
      ⟨(some 26), .bin .leq (.t 25) (.k (.d (.int .u8 57))), some (20, true)⟩,
      ⟨(some 27), .pick (.t 20) (.t 26) (.k (.d (.bool false))), none⟩])
    (.cond (.t 27)
      .skip
      (.exit 0)))
    (.block 1
      (.rg [⟨(some 28), .mv (.t 5), none⟩,
        ⟨(some 29), .bin .add (.t 28) (.k (.d (.int .i64 1))), none⟩,
        ⟨(some 5), .mv (.t 29), none⟩])))))
(.seq (.rg [⟨(some 30), .mv (.t 5), none⟩,
  ⟨(some 4), .mv (.t 30), none⟩])
.ret)))) }
theorem af106_ok : cFun Try.prog eqT Try.f106 = some af106 := by kernel_rfl
/-- dossier/dossierref1.Fit -/
noncomputable def af107 : AFun := { np := 2, nt := 56, res := [.c 4 (some 2), .t 5], code :=
(.seq (.rg [⟨(some 4), .new [.d (.int .i64 0), .d (.int .i64 0)], none⟩,
  ⟨(some 5), .mv (.k (.d (.int .i64 0))), none⟩])
(.seq (.seq (.rg [⟨(some 8), .mv (.t 0), none⟩,
  ⟨(some 9), .bin .lss (.t 8) (.k (.d (.int .i64 (-1000000000000000000)))), none⟩,
  ⟨(some 10), .mv (.t 9), none⟩,
  ⟨(some 11), .mv (.t 0), some (10, false)⟩,
  ⟨(some 12), .bin .gtr (.t 11) (.k (.d (.int .i64 1000000000000000000))), some (10, false)⟩,
  ⟨(some 13), .pick (.t 10) (.k (.d (.bool true))) (.t 12), none⟩,
  ⟨(some 14), .mv (.t 13), none⟩,
  ⟨(some 15), .mv (.t 1), some (14, false)⟩,
  ⟨(some 16), .bin .lss (.t 15) (.k (.d (.int .i64 0))), some (14, false)⟩,
  ⟨(some 17), .pick (.t 14) (.k (.d (.bool true))) (.t 16), none⟩,
  ⟨(some 18), .mv (.t 17), none⟩,
  ⟨(some 19), .mv (.t 1), some (18, false)⟩,
  ⟨(some 20), .bin .gtr (.t 19) (.k (.d (.int .i64 8))), some (18, false)⟩,
  ⟨(some 21), .pick (.t 18) (.k (.d (.bool true))) (.t 20), none⟩])
(.cond (.t 21)
  (.seq (.rg [⟨(some 22), .build [.int .i64 0, .int .i64 0] [], none⟩,
    ⟨none, .st 2 (.t 4) (.t 22), none⟩,
    ⟨(some 5), .mv (.k (.d (.int .i64 1))), none⟩])
  .ret)
  .skip))
(.seq (.seq (.rg [⟨(some 23), .mv (.t 1), none⟩,
  ⟨(some 24), .mm false (.t 23) [(.k (.d (.int .i64 4)))], none⟩,
  ⟨(some 6), .mv (.t 24), none⟩])
(.block 0
  (.loop
    (.seq (.seq (.rg [⟨(some 25), .mv (.t 6), none⟩,
      ⟨(some 26), .bin .geq (.t 25) (.k (.d (.int .i64 0))), none⟩])
    (.cond (.t 26)
      .skip
      (.exit 0)))
    (.seq (.block 1
      (.seq (.rg [⟨(some 29), .mv (.t 0), none⟩,
        ⟨(some 30), .mv (.t 1), none⟩,
        ⟨(some 31), .mv (.t 6), none⟩,
        ⟨(some 32), .bin .sub (.t 30) (.t 31), none⟩,
        ⟨(some 33), .call (.k (.fn 109 [])) [(.t 32)], none⟩,
        ⟨(some 34), .call (.k (.fn 108 [])) [(.t 29), (.t 33)], none⟩,
        ⟨(some 7), .mv (.t 34), none⟩])
      (.seq (.rg [⟨(some 35), .mv (.t 7), none⟩,
        ⟨(some 36), .bin .geq (.t 35) (.k (.d (.int .i64 (-1000000000)))), none⟩,
        ⟨(some 37), .mv (.t 36), none⟩,
        ⟨(some 38), .mv (.t 7), some (37, true)⟩,
        ⟨(some 39), .bin .leq (.t 38) (.k (.d (.int .i64 1000000000))), some (37, true)⟩,
        ⟨(some 40), .pick (.t 37) (.t 39) (.k (.d (.bool false))), none⟩])
      (.cond (.t 40)
        (.seq (.block 2
          (.loop
            (.seq (.seq (.rg [⟨(some 41), .mv (.t 6), none⟩,
              ⟨(some 42), .bin .gtr (.t 41) (.k (.d (.int .i64 0))), none⟩,
              ⟨(some 43), .mv (.t 42), none⟩,
              ⟨(some 44), .mv (.t 7), some (43, true)⟩,
              ⟨(some 45), .bin .rem (.t 44) (.k (.d (.int .i64 10))), some (43, true)⟩,
              ⟨(some 46), .bin .eql (.t 45) (.k (.d (.int .i64 0))), some (43, true)⟩,
              ⟨(some 47), .pick (.t 43) (.t 46) (.k (.d (.bool false))), none⟩])
            (.cond (.t 47)
              .skip
              (.exit 2)))
            (.block 3
              (.rg [⟨(some 48), .mv (.t 7), none⟩,
                ⟨(some 49), .bin .quo (.t 48) (.k (.d (.int .i64 10))), none⟩,
                ⟨(some 50), .mv (.t 6), none⟩,
                ⟨(some 51), .bin .sub (.t 50) (.k (.d (.int .i64 1))), none⟩,
                ⟨(some 7), .mv (.t 49), none⟩,
                ⟨(some 6), .mv (.t 51), none⟩])))))
        (.seq (.rg [⟨(some 52), .mv (.t 7), none⟩,
          ⟨(some 53), .mv (.t 6), none⟩,
          ⟨(some 54), .build [.int .i64 0, .int .i64 0] [(0, 1, (.t 52)), (1, 1, (.t 53))], none⟩,
          ⟨none, .st 2 (.t 4) (.t 54), none⟩,
          ⟨(some 5), .mv (.k (.d (.int .i64 0))), none⟩])
        .ret))
        .skip))))
    (.rg [⟨(some 27), .mv (.t 6), none⟩,
      ⟨(some 28), .bin .sub (.t 27) (.k (.d (.int .i64 1))), none⟩,
      ⟨(some 6), .mv (.t 28), none⟩]))))))
(.seq (.rg [⟨(some 55), .build [.int .i64 0, .int .i64 0] [], none⟩,
  ⟨none, .st 2 (.t 4) (.t 55), none⟩,
  ⟨(some 5), .mv (.k (.d (.int .i64 3))), none⟩])
.ret)))) }
theorem af107_ok : cFun Try.prog eqT Try.f107 = some af107 := by kernel_rfl
/-- dossier/dossierref1.half -/
noncomputable def af108 : AFun := { np := 2, nt := 40, res := [.t 4], code :=
(.seq (.rg [⟨(some 4), .mv (.k (.d (.int .i64 0))), none⟩])
(.seq (.rd [⟨(some 7), .mv (.t 0), none⟩,
  ⟨(some 8), .mv (.t 1), none⟩,
  ⟨(some 9), .bin .quo (.t 7) (.t 8), none⟩,
  ⟨(some 10), .mv (.t 0), none⟩,
  ⟨(some 11), .mv (.t 1), none⟩,
  ⟨(some 12), .bin .rem (.t 10) (.t 11), none⟩,
  ⟨(some 5), .mv (.t 9), none⟩,
  ⟨(some 6), .mv (.t 12), none⟩] [])
(.seq (.seq (.rg [⟨(some 13), .mv (.t 6), none⟩,
  ⟨(some 14), .bin .lss (.t 13) (.k (.d (.int .i64 0))), none⟩])
(.cond (.t 14)
  (.rg [⟨(some 15), .mv (.t 5), none⟩,
    ⟨(some 16), .bin .sub (.t 15) (.k (.d (.int .i64 1))), none⟩,
    ⟨(some 17), .mv (.t 6), none⟩,
    ⟨(some 18), .mv (.t 1), none⟩,
    ⟨(some 19), .bin .add (.t 17) (.t 18), none⟩,
    ⟨(some 5), .mv (.t 16), none⟩,
    ⟨(some 6), .mv (.t 19), none⟩])
  .skip))
(.seq (.seq (.rg [⟨(some 20), .mv (.t 6), none⟩,
  ⟨(some 21), .mv (.t 1), none⟩,
  ⟨(some 22), .mv (.t 6), none⟩,
  ⟨(some 23), .bin .sub (.t 21) (.t 22), none⟩,
  ⟨(some 24), .bin .gtr (.t 20) (.t 23), none⟩,
  ⟨(some 25), .mv (.t 24), none⟩,
  ⟨(some 26), .mv (.t 6), some (25, false)⟩,
  ⟨(some 27), .mv (.t 1), some (25, false)⟩,
  ⟨(some 28), .mv (.t 6), some (25, false)⟩,
  ⟨(some 29), .bin .sub (.t 27) (.t 28), some (25, false)⟩,
  ⟨(some 30), .bin .eql (.t 26) (.t 29), some (25, false)⟩,
  ⟨(some 31), .mv (.t 30), some (25, false)⟩,
  ⟨(some 32), .mv (.t 5), some (31, true)⟩,
  ⟨(some 33), .bin .and (.t 32) (.k (.d (.int .i64 1))), some (31, true)⟩,
  ⟨(some 34), .bin .eql (.t 33) (.k (.d (.int .i64 1))), some (31, true)⟩,
  ⟨(some 35), .pick (.t 31) (.t 34) (.k (.d (.bool false))), some (25, false)⟩,
  ⟨(some 36), .pick (.t 25) (.k (.d (.bool true))) (.t 35), none⟩])
(.cond (.t 36)
  (.rg [⟨(some 37), .mv (.t 5), none⟩,
    ⟨(some 38), .bin .add (.t 37) (.k (.d (.int .i64 1))), none⟩,
    ⟨(some 5), .mv (.t 38), none⟩])
  .skip))
(.seq (.rg [⟨(some 39), .mv (.t 5), none⟩,
  ⟨(some 4), .mv (.t 39), none⟩])
.ret))))) }
theorem af108_ok : cFun Try.prog eqT Try.f108 = some af108 := by kernel_rfl
/-- dossier/dossierref1.power -/
noncomputable def af109 : AFun := { np := 1, nt := 13, res := [.t 2], code :=
(.seq (.rg [⟨(some 2), .mv (.k (.d (.int .i64 0))), none⟩])
(.seq (.rg [⟨(some 3), .mv (.k (.d (.int .i64 1))), none⟩])
(.seq (.seq (.rg [⟨(some 4), .mv (.k (.d (.int .i64 0))), none⟩])
(.block 0
  (.loop
    (.seq (.seq (.rg [⟨(some 5), .mv (.t 4), none⟩,
      ⟨(some 6), .mv (.t 0), none⟩,
      ⟨(some 7), .bin .lss (.t 5) (.t 6), none⟩])
    (.cond (.t 7)
      .skip
      (.exit 0)))
    (.seq (.block 1
      (.rg [⟨(some 10), .mv (.t 3), none⟩,
        ⟨(some 11), .bin .mul (.t 10) (.k (.d (.int .i64 10))), none⟩,
        ⟨(some 3), .mv (.t 11), none⟩]))
    (.rg [⟨(some 8), .mv (.t 4), none⟩,
      ⟨(some 9), .bin .add (.t 8) (.k (.d (.int .i64 1))), none⟩,
      ⟨(some 4), .mv (.t 9), none⟩]))))))
(.seq (.rg [⟨(some 12), .mv (.t 3), none⟩,
  ⟨(some 2), .mv (.t 12), none⟩])
.ret)))) }
theorem af109_ok : cFun Try.prog eqT Try.f109 = some af109 := by kernel_rfl
noncomputable def fnT : FuncId → Option AFun
  | 2 => some af2
  | 3 => some af3
  | 4 => some af4
  | 5 => some af5
  | 6 => some af6
  | 7 => some af7
  | 8 => some af8
  | 9 => some af9
  | 10 => some af10
  | 11 => some af11
  | 12 => some af12
  | 13 => some af13
  | 14 => some af14
  | 15 => some af15
  | 16 => some af16
  | 17 => some af17
  | 18 => some af18
  | 19 => some af19
  | 20 => some af20
  | 21 => some af21
  | 22 => some af22
  | 23 => some af23
  | 24 => some af24
  | 25 => some af25
  | 26 => some af26
  | 27 => some af27
  | 28 => some af28
  | 29 => some af29
  | 30 => some af30
  | 31 => some af31
  | 32 => some af32
  | 33 => some af33
  | 34 => some af34
  | 35 => some af35
  | 36 => some af36
  | 37 => some af37
  | 38 => some af38
  | 39 => some af39
  | 40 => some af40
  | 41 => some af41
  | 42 => some af42
  | 43 => some af43
  | 44 => some af44
  | 45 => some af45
  | 46 => some af46
  | 47 => some af47
  | 48 => some af48
  | 49 => some af49
  | 50 => some af50
  | 51 => some af51
  | 52 => some af52
  | 53 => some af53
  | 54 => some af54
  | 55 => some af55
  | 56 => some af56
  | 57 => some af57
  | 58 => some af58
  | 59 => some af59
  | 60 => some af60
  | 61 => some af61
  | 62 => some af62
  | 63 => some af63
  | 64 => some af64
  | 65 => some af65
  | 66 => some af66
  | 67 => some af67
  | 68 => some af68
  | 69 => some af69
  | 70 => some af70
  | 71 => some af71
  | 72 => some af72
  | 73 => some af73
  | 74 => some af74
  | 75 => some af75
  | 76 => some af76
  | 77 => some af77
  | 78 => some af78
  | 79 => some af79
  | 80 => some af80
  | 81 => some af81
  | 82 => some af82
  | 83 => some af83
  | 84 => some af84
  | 85 => some af85
  | 86 => some af86
  | 87 => some af87
  | 88 => some af88
  | 89 => some af89
  | 90 => some af90
  | 91 => some af91
  | 92 => some af92
  | 93 => some af93
  | 94 => some af94
  | 95 => some af95
  | 96 => some af96
  | 97 => some af97
  | 99 => some af99
  | 100 => some af100
  | 101 => some af101
  | 102 => some af102
  | 103 => some af103
  | 104 => some af104
  | 105 => some af105
  | 106 => some af106
  | 107 => some af107
  | 108 => some af108
  | 109 => some af109
  | _ => none
theorem fnT2 : fnT 2 = some af2 := rfl
theorem fnT3 : fnT 3 = some af3 := rfl
theorem fnT4 : fnT 4 = some af4 := rfl
theorem fnT5 : fnT 5 = some af5 := rfl
theorem fnT6 : fnT 6 = some af6 := rfl
theorem fnT7 : fnT 7 = some af7 := rfl
theorem fnT8 : fnT 8 = some af8 := rfl
theorem fnT9 : fnT 9 = some af9 := rfl
theorem fnT10 : fnT 10 = some af10 := rfl
theorem fnT11 : fnT 11 = some af11 := rfl
theorem fnT12 : fnT 12 = some af12 := rfl
theorem fnT13 : fnT 13 = some af13 := rfl
theorem fnT14 : fnT 14 = some af14 := rfl
theorem fnT15 : fnT 15 = some af15 := rfl
theorem fnT16 : fnT 16 = some af16 := rfl
theorem fnT17 : fnT 17 = some af17 := rfl
theorem fnT18 : fnT 18 = some af18 := rfl
theorem fnT19 : fnT 19 = some af19 := rfl
theorem fnT20 : fnT 20 = some af20 := rfl
theorem fnT21 : fnT 21 = some af21 := rfl
theorem fnT22 : fnT 22 = some af22 := rfl
theorem fnT23 : fnT 23 = some af23 := rfl
theorem fnT24 : fnT 24 = some af24 := rfl
theorem fnT25 : fnT 25 = some af25 := rfl
theorem fnT26 : fnT 26 = some af26 := rfl
theorem fnT27 : fnT 27 = some af27 := rfl
theorem fnT28 : fnT 28 = some af28 := rfl
theorem fnT29 : fnT 29 = some af29 := rfl
theorem fnT30 : fnT 30 = some af30 := rfl
theorem fnT31 : fnT 31 = some af31 := rfl
theorem fnT32 : fnT 32 = some af32 := rfl
theorem fnT33 : fnT 33 = some af33 := rfl
theorem fnT34 : fnT 34 = some af34 := rfl
theorem fnT35 : fnT 35 = some af35 := rfl
theorem fnT36 : fnT 36 = some af36 := rfl
theorem fnT37 : fnT 37 = some af37 := rfl
theorem fnT38 : fnT 38 = some af38 := rfl
theorem fnT39 : fnT 39 = some af39 := rfl
theorem fnT40 : fnT 40 = some af40 := rfl
theorem fnT41 : fnT 41 = some af41 := rfl
theorem fnT42 : fnT 42 = some af42 := rfl
theorem fnT43 : fnT 43 = some af43 := rfl
theorem fnT44 : fnT 44 = some af44 := rfl
theorem fnT45 : fnT 45 = some af45 := rfl
theorem fnT46 : fnT 46 = some af46 := rfl
theorem fnT47 : fnT 47 = some af47 := rfl
theorem fnT48 : fnT 48 = some af48 := rfl
theorem fnT49 : fnT 49 = some af49 := rfl
theorem fnT50 : fnT 50 = some af50 := rfl
theorem fnT51 : fnT 51 = some af51 := rfl
theorem fnT52 : fnT 52 = some af52 := rfl
theorem fnT53 : fnT 53 = some af53 := rfl
theorem fnT54 : fnT 54 = some af54 := rfl
theorem fnT55 : fnT 55 = some af55 := rfl
theorem fnT56 : fnT 56 = some af56 := rfl
theorem fnT57 : fnT 57 = some af57 := rfl
theorem fnT58 : fnT 58 = some af58 := rfl
theorem fnT59 : fnT 59 = some af59 := rfl
theorem fnT60 : fnT 60 = some af60 := rfl
theorem fnT61 : fnT 61 = some af61 := rfl
theorem fnT62 : fnT 62 = some af62 := rfl
theorem fnT63 : fnT 63 = some af63 := rfl
theorem fnT64 : fnT 64 = some af64 := rfl
theorem fnT65 : fnT 65 = some af65 := rfl
theorem fnT66 : fnT 66 = some af66 := rfl
theorem fnT67 : fnT 67 = some af67 := rfl
theorem fnT68 : fnT 68 = some af68 := rfl
theorem fnT69 : fnT 69 = some af69 := rfl
theorem fnT70 : fnT 70 = some af70 := rfl
theorem fnT71 : fnT 71 = some af71 := rfl
theorem fnT72 : fnT 72 = some af72 := rfl
theorem fnT73 : fnT 73 = some af73 := rfl
theorem fnT74 : fnT 74 = some af74 := rfl
theorem fnT75 : fnT 75 = some af75 := rfl
theorem fnT76 : fnT 76 = some af76 := rfl
theorem fnT77 : fnT 77 = some af77 := rfl
theorem fnT78 : fnT 78 = some af78 := rfl
theorem fnT79 : fnT 79 = some af79 := rfl
theorem fnT80 : fnT 80 = some af80 := rfl
theorem fnT81 : fnT 81 = some af81 := rfl
theorem fnT82 : fnT 82 = some af82 := rfl
theorem fnT83 : fnT 83 = some af83 := rfl
theorem fnT84 : fnT 84 = some af84 := rfl
theorem fnT85 : fnT 85 = some af85 := rfl
theorem fnT86 : fnT 86 = some af86 := rfl
theorem fnT87 : fnT 87 = some af87 := rfl
theorem fnT88 : fnT 88 = some af88 := rfl
theorem fnT89 : fnT 89 = some af89 := rfl
theorem fnT90 : fnT 90 = some af90 := rfl
theorem fnT91 : fnT 91 = some af91 := rfl
theorem fnT92 : fnT 92 = some af92 := rfl
theorem fnT93 : fnT 93 = some af93 := rfl
theorem fnT94 : fnT 94 = some af94 := rfl
theorem fnT95 : fnT 95 = some af95 := rfl
theorem fnT96 : fnT 96 = some af96 := rfl
theorem fnT97 : fnT 97 = some af97 := rfl
theorem fnT99 : fnT 99 = some af99 := rfl
theorem fnT100 : fnT 100 = some af100 := rfl
theorem fnT101 : fnT 101 = some af101 := rfl
theorem fnT102 : fnT 102 = some af102 := rfl
theorem fnT103 : fnT 103 = some af103 := rfl
theorem fnT104 : fnT 104 = some af104 := rfl
theorem fnT105 : fnT 105 = some af105 := rfl
theorem fnT106 : fnT 106 = some af106 := rfl
theorem fnT107 : fnT 107 = some af107 := rfl
theorem fnT108 : fnT 108 = some af108 := rfl
theorem fnT109 : fnT 109 = some af109 := rfl
theorem fnT_ok : ∀ f af, fnT f = some af → ∃ fn, Try.prog.funcs[f]? = some fn ∧ cFun Try.prog eqT fn = some af ∧ (fn.name == "runtime.NumGoroutine") = false := by
  intro f af h
  unfold fnT at h
  split at h
  · injection h with h; subst h; exact ⟨Try.f2, by kernel_rfl, af2_ok, by kernel_rfl⟩
  · injection h with h; subst h; exact ⟨Try.f3, by kernel_rfl, af3_ok, by kernel_rfl⟩
  · injection h with h; subst h; exact ⟨Try.f4, by kernel_rfl, af4_ok, by kernel_rfl⟩
  · injection h with h; subst h; exact ⟨Try.f5, by kernel_rfl, af5_ok, by kernel_rfl⟩
  · injection h with h; subst h; exact ⟨Try.f6, by kernel_rfl, af6_ok, by kernel_rfl⟩
  · injection h with h; subst h; exact ⟨Try.f7, by kernel_rfl, af7_ok, by kernel_rfl⟩
  · injection h with h; subst h; exact ⟨Try.f8, by kernel_rfl, af8_ok, by kernel_rfl⟩
  · injection h with h; subst h; exact ⟨Try.f9, by kernel_rfl, af9_ok, by kernel_rfl⟩
  · injection h with h; subst h; exact ⟨Try.f10, by kernel_rfl, af10_ok, by kernel_rfl⟩
  · injection h with h; subst h; exact ⟨Try.f11, by kernel_rfl, af11_ok, by kernel_rfl⟩
  · injection h with h; subst h; exact ⟨Try.f12, by kernel_rfl, af12_ok, by kernel_rfl⟩
  · injection h with h; subst h; exact ⟨Try.f13, by kernel_rfl, af13_ok, by kernel_rfl⟩
  · injection h with h; subst h; exact ⟨Try.f14, by kernel_rfl, af14_ok, by kernel_rfl⟩
  · injection h with h; subst h; exact ⟨Try.f15, by kernel_rfl, af15_ok, by kernel_rfl⟩
  · injection h with h; subst h; exact ⟨Try.f16, by kernel_rfl, af16_ok, by kernel_rfl⟩
  · injection h with h; subst h; exact ⟨Try.f17, by kernel_rfl, af17_ok, by kernel_rfl⟩
  · injection h with h; subst h; exact ⟨Try.f18, by kernel_rfl, af18_ok, by kernel_rfl⟩
  · injection h with h; subst h; exact ⟨Try.f19, by kernel_rfl, af19_ok, by kernel_rfl⟩
  · injection h with h; subst h; exact ⟨Try.f20, by kernel_rfl, af20_ok, by kernel_rfl⟩
  · injection h with h; subst h; exact ⟨Try.f21, by kernel_rfl, af21_ok, by kernel_rfl⟩
  · injection h with h; subst h; exact ⟨Try.f22, by kernel_rfl, af22_ok, by kernel_rfl⟩
  · injection h with h; subst h; exact ⟨Try.f23, by kernel_rfl, af23_ok, by kernel_rfl⟩
  · injection h with h; subst h; exact ⟨Try.f24, by kernel_rfl, af24_ok, by kernel_rfl⟩
  · injection h with h; subst h; exact ⟨Try.f25, by kernel_rfl, af25_ok, by kernel_rfl⟩
  · injection h with h; subst h; exact ⟨Try.f26, by kernel_rfl, af26_ok, by kernel_rfl⟩
  · injection h with h; subst h; exact ⟨Try.f27, by kernel_rfl, af27_ok, by kernel_rfl⟩
  · injection h with h; subst h; exact ⟨Try.f28, by kernel_rfl, af28_ok, by kernel_rfl⟩
  · injection h with h; subst h; exact ⟨Try.f29, by kernel_rfl, af29_ok, by kernel_rfl⟩
  · injection h with h; subst h; exact ⟨Try.f30, by kernel_rfl, af30_ok, by kernel_rfl⟩
  · injection h with h; subst h; exact ⟨Try.f31, by kernel_rfl, af31_ok, by kernel_rfl⟩
  · injection h with h; subst h; exact ⟨Try.f32, by kernel_rfl, af32_ok, by kernel_rfl⟩
  · injection h with h; subst h; exact ⟨Try.f33, by kernel_rfl, af33_ok, by kernel_rfl⟩
  · injection h with h; subst h; exact ⟨Try.f34, by kernel_rfl, af34_ok, by kernel_rfl⟩
  · injection h with h; subst h; exact ⟨Try.f35, by kernel_rfl, af35_ok, by kernel_rfl⟩
  · injection h with h; subst h; exact ⟨Try.f36, by kernel_rfl, af36_ok, by kernel_rfl⟩
  · injection h with h; subst h; exact ⟨Try.f37, by kernel_rfl, af37_ok, by kernel_rfl⟩
  · injection h with h; subst h; exact ⟨Try.f38, by kernel_rfl, af38_ok, by kernel_rfl⟩
  · injection h with h; subst h; exact ⟨Try.f39, by kernel_rfl, af39_ok, by kernel_rfl⟩
  · injection h with h; subst h; exact ⟨Try.f40, by kernel_rfl, af40_ok, by kernel_rfl⟩
  · injection h with h; subst h; exact ⟨Try.f41, by kernel_rfl, af41_ok, by kernel_rfl⟩
  · injection h with h; subst h; exact ⟨Try.f42, by kernel_rfl, af42_ok, by kernel_rfl⟩
  · injection h with h; subst h; exact ⟨Try.f43, by kernel_rfl, af43_ok, by kernel_rfl⟩
  · injection h with h; subst h; exact ⟨Try.f44, by kernel_rfl, af44_ok, by kernel_rfl⟩
  · injection h with h; subst h; exact ⟨Try.f45, by kernel_rfl, af45_ok, by kernel_rfl⟩
  · injection h with h; subst h; exact ⟨Try.f46, by kernel_rfl, af46_ok, by kernel_rfl⟩
  · injection h with h; subst h; exact ⟨Try.f47, by kernel_rfl, af47_ok, by kernel_rfl⟩
  · injection h with h; subst h; exact ⟨Try.f48, by kernel_rfl, af48_ok, by kernel_rfl⟩
  · injection h with h; subst h; exact ⟨Try.f49, by kernel_rfl, af49_ok, by kernel_rfl⟩
  · injection h with h; subst h; exact ⟨Try.f50, by kernel_rfl, af50_ok, by kernel_rfl⟩
  · injection h with h; subst h; exact ⟨Try.f51, by kernel_rfl, af51_ok, by kernel_rfl⟩
  · injection h with h; subst h; exact ⟨Try.f52, by kernel_rfl, af52_ok, by kernel_rfl⟩
  · injection h with h; subst h; exact ⟨Try.f53, by kernel_rfl, af53_ok, by kernel_rfl⟩
  · injection h with h; subst h; exact ⟨Try.f54, by kernel_rfl, af54_ok, by kernel_rfl⟩
  · injection h with h; subst h; exact ⟨Try.f55, by kernel_rfl, af55_ok, by kernel_rfl⟩
  · injection h with h; subst h; exact ⟨Try.f56, by kernel_rfl, af56_ok, by kernel_rfl⟩
  · injection h with h; subst h; exact ⟨Try.f57, by kernel_rfl, af57_ok, by kernel_rfl⟩
  · injection h with h; subst h; exact ⟨Try.f58, by kernel_rfl, af58_ok, by kernel_rfl⟩
  · injection h with h; subst h; exact ⟨Try.f59, by kernel_rfl, af59_ok, by kernel_rfl⟩
  · injection h with h; subst h; exact ⟨Try.f60, by kernel_rfl, af60_ok, by kernel_rfl⟩
  · injection h with h; subst h; exact ⟨Try.f61, by kernel_rfl, af61_ok, by kernel_rfl⟩
  · injection h with h; subst h; exact ⟨Try.f62, by kernel_rfl, af62_ok, by kernel_rfl⟩
  · injection h with h; subst h; exact ⟨Try.f63, by kernel_rfl, af63_ok, by kernel_rfl⟩
  · injection h with h; subst h; exact ⟨Try.f64, by kernel_rfl, af64_ok, by kernel_rfl⟩
  · injection h with h; subst h; exact ⟨Try.f65, by kernel_rfl, af65_ok, by kernel_rfl⟩
  · injection h with h; subst h; exact ⟨Try.f66, by kernel_rfl, af66_ok, by kernel_rfl⟩
  · injection h with h; subst h; exact ⟨Try.f67, by kernel_rfl, af67_ok, by kernel_rfl⟩
  · injection h with h; subst h; exact ⟨Try.f68, by kernel_rfl, af68_ok, by kernel_rfl⟩
  · injection h with h; subst h; exact ⟨Try.f69, by kernel_rfl, af69_ok, by kernel_rfl⟩
  · injection h with h; subst h; exact ⟨Try.f70, by kernel_rfl, af70_ok, by kernel_rfl⟩
  · injection h with h; subst h; exact ⟨Try.f71, by kernel_rfl, af71_ok, by kernel_rfl⟩
  · injection h with h; subst h; exact ⟨Try.f72, by kernel_rfl, af72_ok, by kernel_rfl⟩
  · injection h with h; subst h; exact ⟨Try.f73, by kernel_rfl, af73_ok, by kernel_rfl⟩
  · injection h with h; subst h; exact ⟨Try.f74, by kernel_rfl, af74_ok, by kernel_rfl⟩
  · injection h with h; subst h; exact ⟨Try.f75, by kernel_rfl, af75_ok, by kernel_rfl⟩
  · injection h with h; subst h; exact ⟨Try.f76, by kernel_rfl, af76_ok, by kernel_rfl⟩
  · injection h with h; subst h; exact ⟨Try.f77, by kernel_rfl, af77_ok, by kernel_rfl⟩
  · injection h with h; subst h; exact ⟨Try.f78, by kernel_rfl, af78_ok, by kernel_rfl⟩
  · injection h with h; subst h; exact ⟨Try.f79, by kernel_rfl, af79_ok, by kernel_rfl⟩
  · injection h with h; subst h; exact ⟨Try.f80, by kernel_rfl, af80_ok, by kernel_rfl⟩
  · injection h with h; subst h; exact ⟨Try.f81, by kernel_rfl, af81_ok, by kernel_rfl⟩
  · injection h with h; subst h; exact ⟨Try.f82, by kernel_rfl, af82_ok, by kernel_rfl⟩
  · injection h with h; subst h; exact ⟨Try.f83, by kernel_rfl, af83_ok, by kernel_rfl⟩
  · injection h with h; subst h; exact ⟨Try.f84, by kernel_rfl, af84_ok, by kernel_rfl⟩
  · injection h with h; subst h; exact ⟨Try.f85, by kernel_rfl, af85_ok, by kernel_rfl⟩
  · injection h with h; subst h; exact ⟨Try.f86, by kernel_rfl, af86_ok, by kernel_rfl⟩
  · injection h with h; subst h; exact ⟨Try.f87, by kernel_rfl, af87_ok, by kernel_rfl⟩
  · injection h with h; subst h; exact ⟨Try.f88, by kernel_rfl, af88_ok, by kernel_rfl⟩
  · injection h with h; subst h; exact ⟨Try.f89, by kernel_rfl, af89_ok, by kernel_rfl⟩
  · injection h with h; subst h; exact ⟨Try.f90, by kernel_rfl, af90_ok, by kernel_rfl⟩
  · injection h with h; subst h; exact ⟨Try.f91, by kernel_rfl, af91_ok, by kernel_rfl⟩
  · injection h with h; subst h; exact ⟨Try.f92, by kernel_rfl, af92_ok, by kernel_rfl⟩
  · injection h with h; subst h; exact ⟨Try.f93, by kernel_rfl, af93_ok, by kernel_rfl⟩
  · injection h with h; subst h; exact ⟨Try.f94, by kernel_rfl, af94_ok, by kernel_rfl⟩
  · injection h with h; subst h; exact ⟨Try.f95, by kernel_rfl, af95_ok, by kernel_rfl⟩
  · injection h with h; subst h; exact ⟨Try.f96, by kernel_rfl, af96_ok, by kernel_rfl⟩
  · injection h with h; subst h; exact ⟨Try.f97, by kernel_rfl, af97_ok, by kernel_rfl⟩
  · injection h with h; subst h; exact ⟨Try.f99, by kernel_rfl, af99_ok, by kernel_rfl⟩
  · injection h with h; subst h; exact ⟨Try.f100, by kernel_rfl, af100_ok, by kernel_rfl⟩
  · injection h with h; subst h; exact ⟨Try.f101, by kernel_rfl, af101_ok, by kernel_rfl⟩
  · injection h with h; subst h; exact ⟨Try.f102, by kernel_rfl, af102_ok, by kernel_rfl⟩
  · injection h with h; subst h; exact ⟨Try.f103, by kernel_rfl, af103_ok, by kernel_rfl⟩
  · injection h with h; subst h; exact ⟨Try.f104, by kernel_rfl, af104_ok, by kernel_rfl⟩
  · injection h with h; subst h; exact ⟨Try.f105, by kernel_rfl, af105_ok, by kernel_rfl⟩
  · injection h with h; subst h; exact ⟨Try.f106, by kernel_rfl, af106_ok, by kernel_rfl⟩
  · injection h with h; subst h; exact ⟨Try.f107, by kernel_rfl, af107_ok, by kernel_rfl⟩
  · injection h with h; subst h; exact ⟨Try.f108, by kernel_rfl, af108_ok, by kernel_rfl⟩
  · injection h with h; subst h; exact ⟨Try.f109, by kernel_rfl, af109_ok, by kernel_rfl⟩
  · cases h
end Go.Proofs.Ytkmmfenknekcbaa
