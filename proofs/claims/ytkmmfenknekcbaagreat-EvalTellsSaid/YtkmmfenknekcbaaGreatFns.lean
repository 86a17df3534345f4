/- The compiled code of this seat's functions, printed by a program; each is what the compiler's function makes of the model's code (kernel_rfl). -/
import Derived.Test.YtkmmfenknekcbaaGreatAeComp
import Derived.Test.YtkmmfenknekcbaaGreatFnsA
import Derived.Test.YtkmmfenknekcbaaGreatProg
set_option linter.unusedSimpArgs false
set_option linter.unusedVariables false
set_option maxRecDepth 100000
namespace Go.Proofs.YtkmmfenknekcbaaGreat
open Go.Ae
/-- dossier/eval.found -/
noncomputable def af81 : AFun := { np := 2, nt := 12, res := [.c 4 (some 6), .t 5], code :=
(.seq (.rg [⟨(some 2), .box (.t 0), none⟩,
  ⟨(some 4), .new [.d (.int .i64 0), .d (.bool false), .d (.int .i64 0), .d (.int .i64 0), .d (.str []), .nils], none⟩,
  ⟨(some 5), .mv (.k (.d (.int .i64 0))), none⟩])
(.seq (.seq (.rg [⟨(some 6), .mv (.t 1), none⟩,
  ⟨(some 7), .bin .neq (.t 6) (.k (.d (.int .i64 0))), none⟩])
(.cond (.t 7)
  (.seq (.rg [⟨(some 8), .build [.int .i64 0, .bool false, .int .i64 0, .int .i64 0, .str [], .sl []] [], none⟩,
    ⟨(some 9), .mv (.t 1), none⟩,
    ⟨none, .st 6 (.t 4) (.t 8), none⟩,
    ⟨(some 5), .mv (.t 9), none⟩])
  .ret)
  .skip))
(.seq (.rg [⟨(some 10), .ld (some 2) (.t 2), none⟩,
  ⟨(some 11), .call (.k (.fn 46 [])) [(.t 10)], none⟩,
  ⟨none, .st 6 (.t 4) (.t 11), none⟩,
  ⟨(some 5), .mv (.k (.d (.int .i64 0))), none⟩])
.ret))) }
theorem af81_ok : cFun Tryz.prog eqT Tryz.f81 = some af81 := by kernel_rfl
/-- dossier/dec.Add -/
noncomputable def af82 : AFun := { np := 2, nt := 23, res := [.c 4 (some 2), .t 5], code :=
(.seq (.rg [⟨(some 2), .box (.t 0), none⟩,
  ⟨(some 3), .box (.t 1), none⟩,
  ⟨(some 4), .new [.d (.int .i64 0), .d (.int .i64 0)], none⟩,
  ⟨(some 5), .mv (.k (.d (.int .i64 0))), none⟩])
(.seq (.rg [⟨(some 7), .fad (.t 2) 1, none⟩,
  ⟨(some 8), .ld none (.t 7), none⟩,
  ⟨(some 9), .fad (.t 3) 1, none⟩,
  ⟨(some 10), .ld none (.t 9), none⟩,
  ⟨(some 11), .mm true (.t 8) [(.t 10)], none⟩,
  ⟨(some 6), .mv (.t 11), none⟩])
(.seq (.rd [⟨(some 12), .ld (some 2) (.t 2), none⟩,
  ⟨(some 13), .mv (.t 6), none⟩,
  ⟨(some 14), .call (.k (.fn 107 [])) [(.t 12), (.t 13)], none⟩,
  ⟨(some 15), .ld (some 2) (.t 3), none⟩,
  ⟨(some 16), .mv (.t 6), none⟩,
  ⟨(some 17), .call (.k (.fn 107 [])) [(.t 15), (.t 16)], none⟩,
  ⟨(some 18), .bin .add (.t 14) (.t 17), none⟩,
  ⟨(some 19), .mv (.t 6), none⟩,
  ⟨(some 20), .call (.k (.fn 118 [])) [(.t 18), (.t 19)], none⟩,
  ⟨(some 21), .ext (.t 20) 0, none⟩,
  ⟨(some 22), .ext (.t 20) 1, none⟩,
  ⟨none, .st 2 (.t 4) (.t 21), none⟩,
  ⟨(some 5), .mv (.t 22), none⟩] [(2, 3), (0, 5), (0, 8), (2, 8), (3, 8)])
.ret))) }
theorem af82_ok : cFun Tryz.prog eqT Tryz.f82 = some af82 := by kernel_rfl
/-- dossier/eval.joined -/
noncomputable def af83 : AFun := { np := 1, nt := 24, res := [.c 2 (some 6), .t 3], code :=
(.seq (.rg [⟨(some 2), .new [.d (.int .i64 0), .d (.bool false), .d (.int .i64 0), .d (.int .i64 0), .d (.str []), .nils], none⟩,
  ⟨(some 3), .mv (.k (.d (.int .i64 0))), none⟩])
(.seq (.rg [⟨(some 4), .mv (.k (.d (.str []))), none⟩])
(.seq (.seq (.rg [⟨(some 7), .mv (.t 0), none⟩,
  ⟨(some 8), .lenq false (.t 7), none⟩,
  ⟨(some 9), .mv (.k (.d (.int .i64 0))), none⟩])
(.block 0
  (.loop
    (.seq (.rg [⟨(some 10), .bin .lss (.t 9) (.t 8), none⟩])
    (.seq (.cond (.t 10)
      .skip
      (.exit 0))
    (.seq (.block 1
      (.seq (.rg [⟨(some 11), .iad 6 (.t 7) (.t 9), none⟩,
        ⟨(some 12), .ld (some 6) (.t 11), none⟩,
        ⟨(some 6), .new [.d (.int .i64 0), .d (.bool false), .d (.int .i64 0), .d (.int .i64 0), .d (.str []), .nils], none⟩,
        ⟨none, .st 6 (.t 6) (.t 12), none⟩])
      (.rg [⟨(some 13), .mv (.t 4), none⟩,
        ⟨(some 14), .fad (.t 6) 4, none⟩,
        ⟨(some 15), .ld none (.t 14), none⟩,
        ⟨(some 16), .bin .add (.t 13) (.t 15), none⟩,
        ⟨(some 4), .mv (.t 16), none⟩])))
    (.rg [⟨(some 17), .bin .add (.t 9) (.k (.d (.int .i64 1))), none⟩,
      ⟨(some 9), .mv (.t 17), none⟩])))))))
(.seq (.seq (.rg [⟨(some 18), .mv (.t 4), none⟩,
  ⟨(some 19), .lenq true (.t 18), none⟩,
  ⟨(some 20), .bin .gtr (.t 19) (.k (.d (.int .i64 16))), none⟩])
(.cond (.t 20)
  (.seq (.rg [⟨(some 21), .build [.int .i64 0, .bool false, .int .i64 0, .int .i64 0, .str [], .sl []] [], none⟩,
    ⟨none, .st 6 (.t 2) (.t 21), none⟩,
    ⟨(some 3), .mv (.k (.d (.int .i64 3))), none⟩])
  .ret)
  .skip))
(.seq (.rg [⟨(some 22), .mv (.t 4), none⟩,
  ⟨(some 23), .build [.int .i64 0, .bool false, .int .i64 0, .int .i64 0, .str [], .sl []] [(0, 1, (.k (.d (.int .i64 3)))), (4, 1, (.t 22))], none⟩,
  ⟨none, .st 6 (.t 2) (.t 23), none⟩,
  ⟨(some 3), .mv (.k (.d (.int .i64 0))), none⟩])
.ret))))) }
theorem af83_ok : cFun Tryz.prog eqT Tryz.f83 = some af83 := by kernel_rfl
/-- dossier/eval.reckon -/
noncomputable def af84 : AFun := { np := 3, nt := 43, res := [.c 6 (some 6), .t 7], code :=
(.seq (.rg [⟨(some 4), .box (.t 1), none⟩,
  ⟨(some 5), .box (.t 2), none⟩,
  ⟨(some 6), .new [.d (.int .i64 0), .d (.bool false), .d (.int .i64 0), .d (.int .i64 0), .d (.str []), .nils], none⟩,
  ⟨(some 7), .mv (.k (.d (.int .i64 0))), none⟩])
(.seq (.block 0
  (.seq (.rg [⟨(some 9), .mv (.t 0), none⟩,
    ⟨(some 10), .bin .eql (.t 9) (.k (.d (.str [45]))), none⟩,
    ⟨(some 8), .mv (.t 10), none⟩])
  (.cond (.t 8)
    (.seq (.rg [⟨(some 11), .ld (some 2) (.t 4), none⟩,
      ⟨(some 12), .ld (some 2) (.t 5), none⟩,
      ⟨(some 13), .call (.k (.fn 119 [])) [(.t 11), (.t 12)], none⟩,
      ⟨(some 14), .ext (.t 13) 0, none⟩,
      ⟨(some 15), .ext (.t 13) 1, none⟩,
      ⟨(some 16), .call (.k (.fn 81 [])) [(.t 14), (.t 15)], none⟩,
      ⟨(some 17), .ext (.t 16) 0, none⟩,
      ⟨(some 18), .ext (.t 16) 1, none⟩,
      ⟨none, .st 6 (.t 6) (.t 17), none⟩,
      ⟨(some 7), .mv (.t 18), none⟩])
    .ret)
    (.seq (.rg [⟨(some 20), .mv (.t 0), none⟩,
      ⟨(some 21), .bin .eql (.t 20) (.k (.d (.str [42]))), none⟩,
      ⟨(some 19), .mv (.t 21), none⟩])
    (.cond (.t 19)
      (.seq (.rg [⟨(some 22), .ld (some 2) (.t 4), none⟩,
        ⟨(some 23), .ld (some 2) (.t 5), none⟩,
        ⟨(some 24), .call (.k (.fn 120 [])) [(.t 22), (.t 23)], none⟩,
        ⟨(some 25), .ext (.t 24) 0, none⟩,
        ⟨(some 26), .ext (.t 24) 1, none⟩,
        ⟨(some 27), .call (.k (.fn 81 [])) [(.t 25), (.t 26)], none⟩,
        ⟨(some 28), .ext (.t 27) 0, none⟩,
        ⟨(some 29), .ext (.t 27) 1, none⟩,
        ⟨none, .st 6 (.t 6) (.t 28), none⟩,
        ⟨(some 7), .mv (.t 29), none⟩])
      .ret)
      (.seq (.rg [⟨(some 31), .fad (.t 5) 0, none⟩,
        ⟨(some 32), .ld none (.t 31), none⟩,
        ⟨(some 33), .bin .eql (.t 32) (.k (.d (.int .i64 0))), none⟩,
        ⟨(some 30), .mv (.t 33), none⟩])
      (.cond (.t 30)
        (.seq (.rg [⟨(some 34), .build [.int .i64 0, .bool false, .int .i64 0, .int .i64 0, .str [], .sl []] [], none⟩,
          ⟨none, .st 6 (.t 6) (.t 34), none⟩,
          ⟨(some 7), .mv (.k (.d (.int .i64 0))), none⟩])
        .ret)
        .skip)))))))
(.seq (.rg [⟨(some 35), .ld (some 2) (.t 4), none⟩,
  ⟨(some 36), .ld (some 2) (.t 5), none⟩,
  ⟨(some 37), .call (.k (.fn 121 [])) [(.t 35), (.t 36)], none⟩,
  ⟨(some 38), .ext (.t 37) 0, none⟩,
  ⟨(some 39), .ext (.t 37) 1, none⟩,
  ⟨(some 40), .call (.k (.fn 81 [])) [(.t 38), (.t 39)], none⟩,
  ⟨(some 41), .ext (.t 40) 0, none⟩,
  ⟨(some 42), .ext (.t 40) 1, none⟩,
  ⟨none, .st 6 (.t 6) (.t 41), none⟩,
  ⟨(some 7), .mv (.t 42), none⟩])
.ret))) }
theorem af84_ok : cFun Tryz.prog eqT Tryz.f84 = some af84 := by kernel_rfl
/-- dossier/eval.nested -/
noncomputable def af85 : AFun := { np := 1, nt := 23, res := [.t 2], code :=
(.seq (.rg [⟨(some 1), .box (.t 0), none⟩,
  ⟨(some 2), .mv (.k (.d (.int .i64 0))), none⟩])
(.seq (.seq (.rg [⟨(some 6), .fad (.t 1) 0, none⟩,
  ⟨(some 7), .ld none (.t 6), none⟩,
  ⟨(some 8), .bin .neq (.t 7) (.k (.d (.int .i64 4))), none⟩])
(.cond (.t 8)
  (.seq (.rg [⟨(some 2), .mv (.k (.d (.int .i64 0))), none⟩])
  .ret)
  .skip))
(.seq (.rg [⟨(some 3), .mv (.k (.d (.int .i64 0))), none⟩])
(.seq (.seq (.rg [⟨(some 9), .fad (.t 1) 5, none⟩,
  ⟨(some 10), .ld none (.t 9), none⟩,
  ⟨(some 11), .lenq false (.t 10), none⟩,
  ⟨(some 12), .mv (.k (.d (.int .i64 0))), none⟩])
(.block 0
  (.loop
    (.seq (.rg [⟨(some 13), .bin .lss (.t 12) (.t 11), none⟩])
    (.seq (.cond (.t 13)
      .skip
      (.exit 0))
    (.seq (.block 1
      (.seq (.rg [⟨(some 14), .iad 6 (.t 10) (.t 12), none⟩,
        ⟨(some 15), .ld (some 6) (.t 14), none⟩,
        ⟨(some 5), .new [.d (.int .i64 0), .d (.bool false), .d (.int .i64 0), .d (.int .i64 0), .d (.str []), .nils], none⟩,
        ⟨none, .st 6 (.t 5) (.t 15), none⟩])
      (.rg [⟨(some 16), .mv (.t 3), none⟩,
        ⟨(some 17), .ld (some 6) (.t 5), none⟩,
        ⟨(some 18), .call (.k (.fn 85 [])) [(.t 17)], none⟩,
        ⟨(some 19), .mm true (.t 16) [(.t 18)], none⟩,
        ⟨(some 3), .mv (.t 19), none⟩])))
    (.rg [⟨(some 20), .bin .add (.t 12) (.k (.d (.int .i64 1))), none⟩,
      ⟨(some 12), .mv (.t 20), none⟩])))))))
(.seq (.rg [⟨(some 21), .mv (.t 3), none⟩,
  ⟨(some 22), .bin .add (.t 21) (.k (.d (.int .i64 1))), none⟩,
  ⟨(some 2), .mv (.t 22), none⟩])
.ret))))) }
theorem af85_ok : cFun Tryz.prog eqT Tryz.f85 = some af85 := by kernel_rfl
/-- dossier/eval.many -/
noncomputable def af86 : AFun := { np := 2, nt := 64, res := [.c 4 (some 6), .t 5], code :=
(.seq (.rg [⟨(some 4), .new [.d (.int .i64 0), .d (.bool false), .d (.int .i64 0), .d (.int .i64 0), .d (.str []), .nils], none⟩,
  ⟨(some 5), .mv (.k (.d (.int .i64 0))), none⟩])
(.seq (.block 0
  (.seq (.rg [⟨(some 11), .mv (.t 1), none⟩,
    ⟨(some 12), .lenq false (.t 11), none⟩,
    ⟨(some 13), .bin .eql (.t 12) (.k (.d (.int .i64 0))), none⟩,
    ⟨(some 10), .mv (.t 13), none⟩])
  (.cond (.t 10)
    (.seq (.rg [⟨(some 14), .build [.int .i64 0, .bool false, .int .i64 0, .int .i64 0, .str [], .sl []] [], none⟩,
      ⟨none, .st 6 (.t 4) (.t 14), none⟩,
      ⟨(some 5), .mv (.k (.d (.int .i64 0))), none⟩])
    .ret)
    (.seq (.rg [⟨(some 16), .mv (.t 1), none⟩,
      ⟨(some 17), .lenq false (.t 16), none⟩,
      ⟨(some 18), .bin .eql (.t 17) (.k (.d (.int .i64 1))), none⟩,
      ⟨(some 19), .mv (.t 18), none⟩,
      ⟨(some 20), .mv (.t 1), some (19, true)⟩,
      ⟨(some 21), .iad 6 (.t 20) (.k (.d (.int .i64 0))), some (19, true)⟩,
      ⟨(some 22), .fad (.t 21) 0, some (19, true)⟩,
      ⟨(some 23), .ld none (.t 22), some (19, true)⟩,
      ⟨(some 24), .bin .eql (.t 23) (.k (.d (.int .i64 4))), some (19, true)⟩,
      ⟨(some 25), .pick (.t 19) (.t 24) (.k (.d (.bool false))), none⟩,
      ⟨(some 15), .mv (.t 25), none⟩])
    (.cond (.t 15)
      (.rg [⟨(some 26), .mv (.t 1), none⟩,
        ⟨(some 27), .iad 6 (.t 26) (.k (.d (.int .i64 0))), none⟩,
        ⟨(some 28), .fad (.t 27) 5, none⟩,
        ⟨(some 29), .ld none (.t 28), none⟩,
        ⟨(some 1), .mv (.t 29), none⟩])
      .skip)))))
(.seq (.seq (.rg [⟨(some 30), .mv (.t 1), none⟩,
  ⟨(some 31), .call (.k (.fn 39 [])) [(.k (.d (.int .i64 2))), (.t 30)], none⟩,
  ⟨(some 32), .un .not (.t 31), none⟩])
(.cond (.t 32)
  (.seq (.rg [⟨(some 33), .build [.int .i64 0, .bool false, .int .i64 0, .int .i64 0, .str [], .sl []] [], none⟩,
    ⟨none, .st 6 (.t 4) (.t 33), none⟩,
    ⟨(some 5), .mv (.k (.d (.int .i64 0))), none⟩])
  .ret)
  .skip))
(.seq (.seq (.rg [⟨(some 34), .mv (.t 0), none⟩,
  ⟨(some 35), .bin .eql (.t 34) (.k (.d (.str [115, 117, 109]))), none⟩])
(.cond (.t 35)
  (.seq (.rg [⟨(some 36), .mv (.t 1), none⟩,
    ⟨(some 37), .call (.k (.fn 122 [])) [(.t 36)], none⟩,
    ⟨(some 38), .ext (.t 37) 0, none⟩,
    ⟨(some 39), .ext (.t 37) 1, none⟩,
    ⟨none, .st 6 (.t 4) (.t 38), none⟩,
    ⟨(some 5), .mv (.t 39), none⟩])
  .ret)
  .skip))
(.seq (.rg [⟨(some 40), .build [.int .i64 0, .bool false, .int .i64 0, .int .i64 0, .str [], .sl []] [], none⟩,
  ⟨(some 6), .new [.d (.int .i64 0), .d (.bool false), .d (.int .i64 0), .d (.int .i64 0), .d (.str []), .nils], none⟩,
  ⟨none, .st 6 (.t 6) (.t 40), none⟩])
(.seq (.seq (.rg [⟨(some 41), .mv (.t 1), none⟩,
  ⟨(some 42), .lenq false (.t 41), none⟩,
  ⟨(some 43), .mv (.k (.d (.int .i64 0))), none⟩])
(.block 1
  (.loop
    (.seq (.rg [⟨(some 44), .bin .lss (.t 43) (.t 42), none⟩])
    (.seq (.cond (.t 44)
      .skip
      (.exit 1))
    (.seq (.block 2
      (.seq (.rg [⟨(some 45), .mv (.t 43), none⟩,
        ⟨(some 46), .iad 6 (.t 41) (.t 43), none⟩,
        ⟨(some 47), .ld (some 6) (.t 46), none⟩,
        ⟨(some 8), .new [.d (.int .i64 0), .d (.bool false), .d (.int .i64 0), .d (.int .i64 0), .d (.str []), .nils], none⟩,
        ⟨(some 7), .mv (.t 45), none⟩,
        ⟨none, .st 6 (.t 8) (.t 47), none⟩])
      (.seq (.rg [⟨(some 48), .ld (some 6) (.t 8), none⟩,
        ⟨(some 49), .ld (some 6) (.t 6), none⟩,
        ⟨(some 50), .call (.k (.fn 40 [])) [(.t 48), (.t 49)], none⟩,
        ⟨(some 9), .mv (.t 50), none⟩])
      (.seq (.seq (.rg [⟨(some 51), .mv (.t 0), none⟩,
        ⟨(some 52), .call (.k (.fn 123 [])) [(.t 51), (.k (.d (.str [109, 105, 110])))], none⟩])
      (.cond (.t 52)
        (.rg [⟨(some 53), .mv (.t 9), none⟩,
          ⟨(some 54), .un .neg (.t 53), none⟩,
          ⟨(some 9), .mv (.t 54), none⟩])
        .skip))
      (.seq (.rg [⟨(some 55), .mv (.t 7), none⟩,
        ⟨(some 56), .bin .eql (.t 55) (.k (.d (.int .i64 0))), none⟩,
        ⟨(some 57), .mv (.t 56), none⟩,
        ⟨(some 58), .mv (.t 9), some (57, false)⟩,
        ⟨(some 59), .bin .gtr (.t 58) (.k (.d (.int .i64 0))), some (57, false)⟩,
        ⟨(some 60), .pick (.t 57) (.k (.d (.bool true))) (.t 59), none⟩])
      (.cond (.t 60)
        (.rg [⟨(some 61), .ld (some 6) (.t 8), none⟩,
          ⟨none, .st 6 (.t 6) (.t 61), none⟩])
        .skip))))))
    (.rg [⟨(some 62), .bin .add (.t 43) (.k (.d (.int .i64 1))), none⟩,
      ⟨(some 43), .mv (.t 62), none⟩])))))))
(.seq (.rg [⟨(some 63), .ld (some 6) (.t 6), none⟩,
  ⟨none, .st 6 (.t 4) (.t 63), none⟩,
  ⟨(some 5), .mv (.k (.d (.int .i64 0))), none⟩])
.ret))))))) }
theorem af86_ok : cFun Tryz.prog eqT Tryz.f86 = some af86 := by kernel_rfl
/-- dossier/eval.one -/
noncomputable def af87 : AFun := { np := 2, nt := 70, res := [.c 4 (some 6)], code :=
(.seq (.rg [⟨(some 3), .box (.t 1), none⟩,
  ⟨(some 4), .new [.d (.int .i64 0), .d (.bool false), .d (.int .i64 0), .d (.int .i64 0), .d (.str []), .nils], none⟩])
(.seq (.block 0
  (.seq (.rg [⟨(some 6), .mv (.t 0), none⟩,
    ⟨(some 7), .bin .eql (.t 6) (.k (.d (.str [110, 111, 116]))), none⟩,
    ⟨(some 5), .mv (.t 7), none⟩])
  (.cond (.t 5)
    (.seq (.rg [⟨(some 8), .ld (some 6) (.t 3), none⟩,
      ⟨(some 9), .call (.k (.fn 117 [])) [(.t 8)], none⟩,
      ⟨none, .st 6 (.t 4) (.t 9), none⟩])
    .ret)
    (.seq (.rg [⟨(some 11), .mv (.t 0), none⟩,
      ⟨(some 12), .bin .eql (.t 11) (.k (.d (.str [108, 101, 110]))), none⟩,
      ⟨(some 13), .mv (.t 12), none⟩,
      ⟨(some 14), .fad (.t 3) 0, some (13, true)⟩,
      ⟨(some 15), .ld none (.t 14), some (13, true)⟩,
      ⟨(some 16), .bin .eql (.t 15) (.k (.d (.int .i64 3))), some (13, true)⟩,
      ⟨(some 17), .pick (.t 13) (.t 16) (.k (.d (.bool false))), none⟩,
      ⟨(some 10), .mv (.t 17), none⟩])
    (.cond (.t 10)
      (.seq (.rg [⟨(some 18), .fad (.t 3) 4, none⟩,
        ⟨(some 19), .ld none (.t 18), none⟩,
        ⟨(some 20), .lenq true (.t 19), none⟩,
        ⟨(some 21), .call (.k (.fn 49 [])) [(.t 20)], none⟩,
        ⟨none, .st 6 (.t 4) (.t 21), none⟩])
      .ret)
      (.seq (.rg [⟨(some 23), .mv (.t 0), none⟩,
        ⟨(some 24), .bin .eql (.t 23) (.k (.d (.str [99, 111, 117, 110, 116]))), none⟩,
        ⟨(some 25), .mv (.t 24), none⟩,
        ⟨(some 26), .fad (.t 3) 0, some (25, true)⟩,
        ⟨(some 27), .ld none (.t 26), some (25, true)⟩,
        ⟨(some 28), .bin .eql (.t 27) (.k (.d (.int .i64 4))), some (25, true)⟩,
        ⟨(some 29), .pick (.t 25) (.t 28) (.k (.d (.bool false))), none⟩,
        ⟨(some 22), .mv (.t 29), none⟩])
      (.cond (.t 22)
        (.seq (.rg [⟨(some 30), .fad (.t 3) 5, none⟩,
          ⟨(some 31), .ld none (.t 30), none⟩,
          ⟨(some 32), .lenq false (.t 31), none⟩,
          ⟨(some 33), .call (.k (.fn 49 [])) [(.t 32)], none⟩,
          ⟨none, .st 6 (.t 4) (.t 33), none⟩])
        .ret)
        (.seq (.rg [⟨(some 35), .fad (.t 3) 0, none⟩,
          ⟨(some 36), .ld none (.t 35), none⟩,
          ⟨(some 37), .bin .neq (.t 36) (.k (.d (.int .i64 2))), none⟩,
          ⟨(some 34), .mv (.t 37), none⟩])
        (.cond (.t 34)
          (.seq (.rg [⟨(some 38), .build [.int .i64 0, .bool false, .int .i64 0, .int .i64 0, .str [], .sl []] [], none⟩,
            ⟨none, .st 6 (.t 4) (.t 38), none⟩])
          .ret)
          (.seq (.rg [⟨(some 40), .mv (.t 0), none⟩,
            ⟨(some 41), .bin .eql (.t 40) (.k (.d (.str [97, 98, 115]))), none⟩,
            ⟨(some 39), .mv (.t 41), none⟩])
          (.cond (.t 39)
            (.seq (.rg [⟨(some 42), .fad (.t 3) 2, none⟩,
              ⟨(some 43), .fad (.t 42) 0, none⟩,
              ⟨(some 44), .ld none (.t 43), none⟩,
              ⟨(some 45), .fad (.t 3) 2, none⟩,
              ⟨(some 46), .fad (.t 45) 0, none⟩,
              ⟨(some 47), .ld none (.t 46), none⟩,
              ⟨(some 48), .un .neg (.t 47), none⟩,
              ⟨(some 49), .mm true (.t 44) [(.t 48)], none⟩,
              ⟨(some 50), .fad (.t 3) 2, none⟩,
              ⟨(some 51), .fad (.t 50) 1, none⟩,
              ⟨(some 52), .ld none (.t 51), none⟩,
              ⟨(some 53), .build [.int .i64 0, .int .i64 0] [(0, 1, (.t 49)), (1, 1, (.t 52))], none⟩,
              ⟨(some 54), .call (.k (.fn 46 [])) [(.t 53)], none⟩,
              ⟨none, .st 6 (.t 4) (.t 54), none⟩])
            .ret)
            (.seq (.rg [⟨(some 56), .mv (.t 0), none⟩,
              ⟨(some 57), .bin .eql (.t 56) (.k (.d (.str [102, 108, 111, 111, 114]))), none⟩,
              ⟨(some 55), .mv (.t 57), none⟩])
            (.cond (.t 55)
              (.seq (.rg [⟨(some 58), .fad (.t 3) 2, none⟩,
                ⟨(some 59), .ld (some 2) (.t 58), none⟩,
                ⟨(some 60), .call (.k (.fn 124 [])) [(.t 59)], none⟩,
                ⟨(some 61), .call (.k (.fn 46 [])) [(.t 60)], none⟩,
                ⟨none, .st 6 (.t 4) (.t 61), none⟩])
              .ret)
              (.seq (.rg [⟨(some 63), .mv (.t 0), none⟩,
                ⟨(some 64), .bin .eql (.t 63) (.k (.d (.str [99, 101, 105, 108]))), none⟩,
                ⟨(some 62), .mv (.t 64), none⟩])
              (.cond (.t 62)
                (.seq (.rg [⟨(some 65), .fad (.t 3) 2, none⟩,
                  ⟨(some 66), .ld (some 2) (.t 65), none⟩,
                  ⟨(some 67), .call (.k (.fn 125 [])) [(.t 66)], none⟩,
                  ⟨(some 68), .call (.k (.fn 46 [])) [(.t 67)], none⟩,
                  ⟨none, .st 6 (.t 4) (.t 68), none⟩])
                .ret)
                .skip)))))))))))))))
(.seq (.rg [⟨(some 69), .build [.int .i64 0, .bool false, .int .i64 0, .int .i64 0, .str [], .sl []] [], none⟩,
  ⟨none, .st 6 (.t 4) (.t 69), none⟩])
.ret))) }
theorem af87_ok : cFun Tryz.prog eqT Tryz.f87 = some af87 := by kernel_rfl
/-- dossier/eval.two -/
noncomputable def af88 : AFun := { np := 3, nt := 66, res := [.c 6 (some 6)], code :=
(.seq (.rg [⟨(some 4), .box (.t 1), none⟩,
  ⟨(some 5), .box (.t 2), none⟩,
  ⟨(some 6), .new [.d (.int .i64 0), .d (.bool false), .d (.int .i64 0), .d (.int .i64 0), .d (.str []), .nils], none⟩])
(.seq (.block 0
  (.seq (.rg [⟨(some 10), .mv (.t 0), none⟩,
    ⟨(some 11), .bin .eql (.t 10) (.k (.d (.str [104, 97, 115]))), none⟩,
    ⟨(some 12), .mv (.t 11), none⟩,
    ⟨(some 13), .fad (.t 4) 0, some (12, true)⟩,
    ⟨(some 14), .ld none (.t 13), some (12, true)⟩,
    ⟨(some 15), .bin .eql (.t 14) (.k (.d (.int .i64 4))), some (12, true)⟩,
    ⟨(some 16), .pick (.t 12) (.t 15) (.k (.d (.bool false))), none⟩,
    ⟨(some 9), .mv (.t 16), none⟩])
  (.cond (.t 9)
    (.seq (.seq (.rg [⟨(some 17), .fad (.t 4) 5, none⟩,
      ⟨(some 18), .ld none (.t 17), none⟩,
      ⟨(some 19), .lenq false (.t 18), none⟩,
      ⟨(some 20), .mv (.k (.d (.int .i64 0))), none⟩])
    (.block 1
      (.loop
        (.seq (.rg [⟨(some 21), .bin .lss (.t 20) (.t 19), none⟩])
        (.seq (.cond (.t 21)
          .skip
          (.exit 1))
        (.seq (.block 2
          (.seq (.rg [⟨(some 22), .iad 6 (.t 18) (.t 20), none⟩,
            ⟨(some 23), .ld (some 6) (.t 22), none⟩,
            ⟨(some 8), .new [.d (.int .i64 0), .d (.bool false), .d (.int .i64 0), .d (.int .i64 0), .d (.str []), .nils], none⟩,
            ⟨none, .st 6 (.t 8) (.t 23), none⟩])
          (.seq (.rg [⟨(some 24), .ld (some 6) (.t 8), none⟩,
            ⟨(some 25), .ld (some 6) (.t 5), none⟩,
            ⟨(some 26), .call (.k (.fn 38 [])) [(.t 24), (.t 25)], none⟩])
          (.cond (.t 26)
            (.seq (.rg [⟨(some 27), .call (.k (.fn 37 [])) [(.k (.d (.bool true)))], none⟩,
              ⟨none, .st 6 (.t 6) (.t 27), none⟩])
            .ret)
            .skip))))
        (.rg [⟨(some 28), .bin .add (.t 20) (.k (.d (.int .i64 1))), none⟩,
          ⟨(some 20), .mv (.t 28), none⟩])))))))
    (.seq (.rg [⟨(some 29), .call (.k (.fn 37 [])) [(.k (.d (.bool false)))], none⟩,
      ⟨none, .st 6 (.t 6) (.t 29), none⟩])
    .ret))
    (.seq (.rg [⟨(some 31), .mv (.t 0), none⟩,
      ⟨(some 32), .bin .eql (.t 31) (.k (.d (.str [109, 111, 100]))), none⟩,
      ⟨(some 33), .mv (.t 32), none⟩,
      ⟨(some 34), .ld (some 6) (.t 4), some (33, true)⟩,
      ⟨(some 35), .ld (some 6) (.t 5), some (33, true)⟩,
      ⟨(some 36), .mkrow 32 6 [(.t 34), (.t 35)], some (33, true)⟩,
      ⟨(some 37), .call (.k (.fn 39 [])) [(.k (.d (.int .i64 2))), (.t 36)], some (33, true)⟩,
      ⟨(some 38), .pick (.t 33) (.t 37) (.k (.d (.bool false))), none⟩,
      ⟨(some 39), .mv (.t 38), none⟩,
      ⟨(some 40), .fad (.t 4) 2, some (39, true)⟩,
      ⟨(some 41), .fad (.t 40) 1, some (39, true)⟩,
      ⟨(some 42), .ld none (.t 41), some (39, true)⟩,
      ⟨(some 43), .bin .eql (.t 42) (.k (.d (.int .i64 0))), some (39, true)⟩,
      ⟨(some 44), .pick (.t 39) (.t 43) (.k (.d (.bool false))), none⟩,
      ⟨(some 45), .mv (.t 44), none⟩,
      ⟨(some 46), .fad (.t 5) 2, some (45, true)⟩,
      ⟨(some 47), .fad (.t 46) 1, some (45, true)⟩,
      ⟨(some 48), .ld none (.t 47), some (45, true)⟩,
      ⟨(some 49), .bin .eql (.t 48) (.k (.d (.int .i64 0))), some (45, true)⟩,
      ⟨(some 50), .pick (.t 45) (.t 49) (.k (.d (.bool false))), none⟩,
      ⟨(some 51), .mv (.t 50), none⟩,
      ⟨(some 52), .fad (.t 5) 2, some (51, true)⟩,
      ⟨(some 53), .fad (.t 52) 0, some (51, true)⟩,
      ⟨(some 54), .ld none (.t 53), some (51, true)⟩,
      ⟨(some 55), .bin .neq (.t 54) (.k (.d (.int .i64 0))), some (51, true)⟩,
      ⟨(some 56), .pick (.t 51) (.t 55) (.k (.d (.bool false))), none⟩,
      ⟨(some 30), .mv (.t 56), none⟩])
    (.cond (.t 30)
      (.seq (.rg [⟨(some 57), .fad (.t 4) 2, none⟩,
        ⟨(some 58), .fad (.t 57) 0, none⟩,
        ⟨(some 59), .ld none (.t 58), none⟩,
        ⟨(some 60), .fad (.t 5) 2, none⟩,
        ⟨(some 61), .fad (.t 60) 0, none⟩,
        ⟨(some 62), .ld none (.t 61), none⟩,
        ⟨(some 63), .call (.k (.fn 126 [])) [(.t 59), (.t 62)], none⟩,
        ⟨(some 64), .call (.k (.fn 49 [])) [(.t 63)], none⟩,
        ⟨none, .st 6 (.t 6) (.t 64), none⟩])
      .ret)
      .skip)))))
(.seq (.rg [⟨(some 65), .build [.int .i64 0, .bool false, .int .i64 0, .int .i64 0, .str [], .sl []] [], none⟩,
  ⟨none, .st 6 (.t 6) (.t 65), none⟩])
.ret))) }
theorem af88_ok : cFun Tryz.prog eqT Tryz.f88 = some af88 := by kernel_rfl
/-- dossier/dossierref2.no -/
noncomputable def af89 : AFun := { np := 1, nt := 11, res := [.t 2], code :=
(.seq (.rg [⟨(some 1), .box (.t 0), none⟩,
  ⟨(some 2), .mv (.k (.d (.bool false))), none⟩])
(.seq (.rg [⟨(some 3), .fad (.t 1) 0, none⟩,
  ⟨(some 4), .ld none (.t 3), none⟩,
  ⟨(some 5), .bin .eql (.t 4) (.k (.d (.int .i64 1))), none⟩,
  ⟨(some 6), .mv (.t 5), none⟩,
  ⟨(some 7), .fad (.t 1) 1, some (6, true)⟩,
  ⟨(some 8), .ld none (.t 7), some (6, true)⟩,
  ⟨(some 9), .un .not (.t 8), some (6, true)⟩,
  ⟨(some 10), .pick (.t 6) (.t 9) (.k (.d (.bool false))), none⟩,
  ⟨(some 2), .mv (.t 10), none⟩])
.ret)) }
theorem af89_ok : cFun Tryz.prog eqT Tryz.f89 = some af89 := by kernel_rfl
/-- dossier/dossierref1.Add -/
noncomputable def af90 : AFun := { np := 2, nt := 24, res := [.c 4 (some 2), .t 5], code :=
(.seq (.rg [⟨(some 2), .box (.t 0), none⟩,
  ⟨(some 3), .box (.t 1), none⟩,
  ⟨(some 4), .new [.d (.int .i64 0), .d (.int .i64 0)], none⟩,
  ⟨(some 5), .mv (.k (.d (.int .i64 0))), none⟩])
(.seq (.rd [⟨(some 6), .fad (.t 2) 0, none⟩,
  ⟨(some 7), .ld none (.t 6), none⟩,
  ⟨(some 8), .fad (.t 2) 1, none⟩,
  ⟨(some 9), .ld none (.t 8), none⟩,
  ⟨(some 10), .bin .sub (.k (.d (.int .i64 4))) (.t 9), none⟩,
  ⟨(some 11), .call (.k (.fn 109 [])) [(.t 10)], none⟩,
  ⟨(some 12), .bin .mul (.t 7) (.t 11), none⟩,
  ⟨(some 13), .fad (.t 3) 0, none⟩,
  ⟨(some 14), .ld none (.t 13), none⟩,
  ⟨(some 15), .fad (.t 3) 1, none⟩,
  ⟨(some 16), .ld none (.t 15), none⟩,
  ⟨(some 17), .bin .sub (.k (.d (.int .i64 4))) (.t 16), none⟩,
  ⟨(some 18), .call (.k (.fn 109 [])) [(.t 17)], none⟩,
  ⟨(some 19), .bin .mul (.t 14) (.t 18), none⟩,
  ⟨(some 20), .bin .add (.t 12) (.t 19), none⟩,
  ⟨(some 21), .call (.k (.fn 127 [])) [(.t 20), (.k (.d (.int .i64 4)))], none⟩,
  ⟨(some 22), .ext (.t 21) 0, none⟩,
  ⟨(some 23), .ext (.t 21) 1, none⟩,
  ⟨none, .st 2 (.t 4) (.t 22), none⟩,
  ⟨(some 5), .mv (.t 23), none⟩] [(1, 5), (3, 5), (5, 8), (5, 10), (1, 12), (3, 12), (8, 12), (10, 12), (1, 15), (3, 15), (5, 15), (8, 15), (10, 15)])
.ret)) }
theorem af90_ok : cFun Tryz.prog eqT Tryz.f90 = some af90 := by kernel_rfl
/-- dossier/dossierref1.Sub -/
noncomputable def af91 : AFun := { np := 2, nt := 16, res := [.c 4 (some 2), .t 5], code :=
(.seq (.rg [⟨(some 2), .box (.t 0), none⟩,
  ⟨(some 3), .box (.t 1), none⟩,
  ⟨(some 4), .new [.d (.int .i64 0), .d (.int .i64 0)], none⟩,
  ⟨(some 5), .mv (.k (.d (.int .i64 0))), none⟩])
(.seq (.rg [⟨(some 6), .ld (some 2) (.t 2), none⟩,
  ⟨(some 7), .fad (.t 3) 0, none⟩,
  ⟨(some 8), .ld none (.t 7), none⟩,
  ⟨(some 9), .un .neg (.t 8), none⟩,
  ⟨(some 10), .fad (.t 3) 1, none⟩,
  ⟨(some 11), .ld none (.t 10), none⟩,
  ⟨(some 12), .build [.int .i64 0, .int .i64 0] [(0, 1, (.t 9)), (1, 1, (.t 11))], none⟩,
  ⟨(some 13), .call (.k (.fn 90 [])) [(.t 6), (.t 12)], none⟩,
  ⟨(some 14), .ext (.t 13) 0, none⟩,
  ⟨(some 15), .ext (.t 13) 1, none⟩,
  ⟨none, .st 2 (.t 4) (.t 14), none⟩,
  ⟨(some 5), .mv (.t 15), none⟩])
.ret)) }
theorem af91_ok : cFun Tryz.prog eqT Tryz.f91 = some af91 := by kernel_rfl
/-- dossier/dossierref1.Mul -/
noncomputable def af92 : AFun := { np := 2, nt := 19, res := [.c 4 (some 2), .t 5], code :=
(.seq (.rg [⟨(some 2), .box (.t 0), none⟩,
  ⟨(some 3), .box (.t 1), none⟩,
  ⟨(some 4), .new [.d (.int .i64 0), .d (.int .i64 0)], none⟩,
  ⟨(some 5), .mv (.k (.d (.int .i64 0))), none⟩])
(.seq (.rg [⟨(some 6), .fad (.t 2) 0, none⟩,
  ⟨(some 7), .ld none (.t 6), none⟩,
  ⟨(some 8), .fad (.t 3) 0, none⟩,
  ⟨(some 9), .ld none (.t 8), none⟩,
  ⟨(some 10), .bin .mul (.t 7) (.t 9), none⟩,
  ⟨(some 11), .fad (.t 2) 1, none⟩,
  ⟨(some 12), .ld none (.t 11), none⟩,
  ⟨(some 13), .fad (.t 3) 1, none⟩,
  ⟨(some 14), .ld none (.t 13), none⟩,
  ⟨(some 15), .bin .add (.t 12) (.t 14), none⟩,
  ⟨(some 16), .call (.k (.fn 127 [])) [(.t 10), (.t 15)], none⟩,
  ⟨(some 17), .ext (.t 16) 0, none⟩,
  ⟨(some 18), .ext (.t 16) 1, none⟩,
  ⟨none, .st 2 (.t 4) (.t 17), none⟩,
  ⟨(some 5), .mv (.t 18), none⟩])
.ret)) }
theorem af92_ok : cFun Tryz.prog eqT Tryz.f92 = some af92 := by kernel_rfl
/-- dossier/dossierref1.Div -/
noncomputable def af93 : AFun := { np := 2, nt := 37, res := [.c 4 (some 2), .t 5], code :=
(.seq (.rg [⟨(some 2), .box (.t 0), none⟩,
  ⟨(some 3), .box (.t 1), none⟩,
  ⟨(some 4), .new [.d (.int .i64 0), .d (.int .i64 0)], none⟩,
  ⟨(some 5), .mv (.k (.d (.int .i64 0))), none⟩])
(.seq (.seq (.rg [⟨(some 8), .fad (.t 3) 0, none⟩,
  ⟨(some 9), .ld none (.t 8), none⟩,
  ⟨(some 10), .bin .eql (.t 9) (.k (.d (.int .i64 0))), none⟩])
(.cond (.t 10)
  (.seq (.rg [⟨(some 11), .build [.int .i64 0, .int .i64 0] [], none⟩,
    ⟨none, .st 2 (.t 4) (.t 11), none⟩,
    ⟨(some 5), .mv (.k (.d (.int .i64 1))), none⟩])
  .ret)
  .skip))
(.seq (.rd [⟨(some 12), .fad (.t 2) 0, none⟩,
  ⟨(some 13), .ld none (.t 12), none⟩,
  ⟨(some 14), .fad (.t 3) 1, none⟩,
  ⟨(some 15), .ld none (.t 14), none⟩,
  ⟨(some 16), .bin .add (.t 15) (.k (.d (.int .i64 4))), none⟩,
  ⟨(some 17), .call (.k (.fn 109 [])) [(.t 16)], none⟩,
  ⟨(some 18), .bin .mul (.t 13) (.t 17), none⟩,
  ⟨(some 19), .fad (.t 3) 0, none⟩,
  ⟨(some 20), .ld none (.t 19), none⟩,
  ⟨(some 21), .fad (.t 2) 1, none⟩,
  ⟨(some 22), .ld none (.t 21), none⟩,
  ⟨(some 23), .call (.k (.fn 109 [])) [(.t 22)], none⟩,
  ⟨(some 24), .bin .mul (.t 20) (.t 23), none⟩,
  ⟨(some 6), .mv (.t 18), none⟩,
  ⟨(some 7), .mv (.t 24), none⟩] [(1, 5), (3, 5), (5, 8), (5, 10), (1, 11), (3, 11), (8, 11)])
(.seq (.seq (.rg [⟨(some 25), .mv (.t 7), none⟩,
  ⟨(some 26), .bin .lss (.t 25) (.k (.d (.int .i64 0))), none⟩])
(.cond (.t 26)
  (.rg [⟨(some 27), .mv (.t 6), none⟩,
    ⟨(some 28), .un .neg (.t 27), none⟩,
    ⟨(some 29), .mv (.t 7), none⟩,
    ⟨(some 30), .un .neg (.t 29), none⟩,
    ⟨(some 6), .mv (.t 28), none⟩,
    ⟨(some 7), .mv (.t 30), none⟩])
  .skip))
(.seq (.rg [⟨(some 31), .mv (.t 6), none⟩,
  ⟨(some 32), .mv (.t 7), none⟩,
  ⟨(some 33), .call (.k (.fn 128 [])) [(.t 31), (.t 32)], none⟩,
  ⟨(some 34), .call (.k (.fn 127 [])) [(.t 33), (.k (.d (.int .i64 4)))], none⟩,
  ⟨(some 35), .ext (.t 34) 0, none⟩,
  ⟨(some 36), .ext (.t 34) 1, none⟩,
  ⟨none, .st 2 (.t 4) (.t 35), none⟩,
  ⟨(some 5), .mv (.t 36), none⟩])
.ret))))) }
theorem af93_ok : cFun Tryz.prog eqT Tryz.f93 = some af93 := by kernel_rfl
/-- dossier/dossierref6.least -/
noncomputable def af94 : AFun := { np := 2, nt := 34, res := [.c 4 (some 6)], code :=
(.seq (.rg [⟨(some 4), .new [.d (.int .i64 0), .d (.bool false), .d (.int .i64 0), .d (.int .i64 0), .d (.str []), .nils], none⟩])
(.seq (.seq (.rg [⟨(some 7), .mv (.t 0), none⟩,
  ⟨(some 8), .lenq false (.t 7), none⟩,
  ⟨(some 9), .bin .eql (.t 8) (.k (.d (.int .i64 0))), none⟩])
(.cond (.t 9)
  (.seq (.rg [⟨(some 10), .build [.int .i64 0, .bool false, .int .i64 0, .int .i64 0, .str [], .sl []] [], none⟩,
    ⟨none, .st 6 (.t 4) (.t 10), none⟩])
  .ret)
  .skip))
(.seq (.rg [⟨(some 11), .mv (.t 0), none⟩,
  ⟨(some 12), .iad 6 (.t 11) (.k (.d (.int .i64 0))), none⟩,
  ⟨(some 13), .ld (some 6) (.t 12), none⟩,
  ⟨(some 5), .new [.d (.int .i64 0), .d (.bool false), .d (.int .i64 0), .d (.int .i64 0), .d (.str []), .nils], none⟩,
  ⟨none, .st 6 (.t 5) (.t 13), none⟩])
(.seq (.seq (.rg [⟨(some 6), .mv (.k (.d (.int .i64 1))), none⟩])
(.block 0
  (.loop
    (.seq (.seq (.rg [⟨(some 14), .mv (.t 6), none⟩,
      ⟨(some 15), .mv (.t 0), none⟩,
      ⟨(some 16), .lenq false (.t 15), none⟩,
      ⟨(some 17), .bin .lss (.t 14) (.t 16), none⟩])
    (.cond (.t 17)
      .skip
      (.exit 0)))
    (.seq (.block 1
      (.seq (.rd [⟨(some 20), .mv (.t 0), none⟩,
        ⟨(some 21), .mv (.t 6), none⟩,
        ⟨(some 22), .iad 6 (.t 20) (.t 21), none⟩,
        ⟨(some 23), .ld (some 6) (.t 22), none⟩,
        ⟨(some 24), .ld (some 6) (.t 5), none⟩,
        ⟨(some 25), .call (.k (.fn 41 [])) [(.t 23), (.t 24)], none⟩,
        ⟨(some 26), .mv (.t 1), none⟩,
        ⟨(some 27), .bin .mul (.t 25) (.t 26), none⟩,
        ⟨(some 28), .bin .lss (.t 27) (.k (.d (.int .i64 0))), none⟩] [])
      (.cond (.t 28)
        (.rg [⟨(some 29), .mv (.t 0), none⟩,
          ⟨(some 30), .mv (.t 6), none⟩,
          ⟨(some 31), .iad 6 (.t 29) (.t 30), none⟩,
          ⟨(some 32), .ld (some 6) (.t 31), none⟩,
          ⟨none, .st 6 (.t 5) (.t 32), none⟩])
        .skip)))
    (.rg [⟨(some 18), .mv (.t 6), none⟩,
      ⟨(some 19), .bin .add (.t 18) (.k (.d (.int .i64 1))), none⟩,
      ⟨(some 6), .mv (.t 19), none⟩]))))))
(.seq (.rg [⟨(some 33), .ld (some 6) (.t 5), none⟩,
  ⟨none, .st 6 (.t 4) (.t 33), none⟩])
.ret))))) }
theorem af94_ok : cFun Tryz.prog eqT Tryz.f94 = some af94 := by kernel_rfl
/-- dossier/dossierref6.Sum -/
noncomputable def af95 : AFun := { np := 1, nt := 34, res := [.c 2 (some 6), .t 3], code :=
(.seq (.rg [⟨(some 2), .new [.d (.int .i64 0), .d (.bool false), .d (.int .i64 0), .d (.int .i64 0), .d (.str []), .nils], none⟩,
  ⟨(some 3), .mv (.k (.d (.int .i64 0))), none⟩])
(.seq (.rg [⟨(some 8), .build [.int .i64 0, .int .i64 0] [], none⟩,
  ⟨(some 4), .new [.d (.int .i64 0), .d (.int .i64 0)], none⟩,
  ⟨none, .st 2 (.t 4) (.t 8), none⟩])
(.seq (.seq (.rg [⟨(some 5), .mv (.k (.d (.int .i64 0))), none⟩])
(.block 0
  (.loop
    (.seq (.seq (.rg [⟨(some 9), .mv (.t 5), none⟩,
      ⟨(some 10), .mv (.t 0), none⟩,
      ⟨(some 11), .lenq false (.t 10), none⟩,
      ⟨(some 12), .bin .lss (.t 9) (.t 11), none⟩])
    (.cond (.t 12)
      .skip
      (.exit 0)))
    (.seq (.block 1
      (.seq (.rd [⟨(some 16), .ld (some 2) (.t 4), none⟩,
        ⟨(some 17), .mv (.t 0), none⟩,
        ⟨(some 18), .mv (.t 5), none⟩,
        ⟨(some 19), .iad 6 (.t 17) (.t 18), none⟩,
        ⟨(some 20), .fad (.t 19) 2, none⟩,
        ⟨(some 21), .ld (some 2) (.t 20), none⟩,
        ⟨(some 22), .call (.k (.fn 90 [])) [(.t 16), (.t 21)], none⟩,
        ⟨(some 15), .mv (.t 22), none⟩,
        ⟨(some 23), .ext (.t 15) 0, none⟩,
        ⟨(some 24), .ext (.t 15) 1, none⟩,
        ⟨(some 6), .new [.d (.int .i64 0), .d (.int .i64 0)], none⟩,
        ⟨none, .st 2 (.t 6) (.t 23), none⟩,
        ⟨(some 7), .mv (.t 24), none⟩] [(0, 10), (5, 10), (6, 10)])
      (.seq (.seq (.rg [⟨(some 25), .mv (.t 7), none⟩,
        ⟨(some 26), .bin .neq (.t 25) (.k (.d (.int .i64 0))), none⟩])
      (.cond (.t 26)
        (.seq (.rg [⟨(some 27), .build [.int .i64 0, .bool false, .int .i64 0, .int .i64 0, .str [], .sl []] [], none⟩,
          ⟨(some 28), .mv (.t 7), none⟩,
          ⟨none, .st 6 (.t 2) (.t 27), none⟩,
          ⟨(some 3), .mv (.t 28), none⟩])
        .ret)
        .skip))
      (.rg [⟨(some 29), .ld (some 2) (.t 6), none⟩,
        ⟨none, .st 2 (.t 4) (.t 29), none⟩]))))
    (.rg [⟨(some 13), .mv (.t 5), none⟩,
      ⟨(some 14), .bin .add (.t 13) (.k (.d (.int .i64 1))), none⟩,
      ⟨(some 5), .mv (.t 14), none⟩]))))))
(.seq (.rg [⟨(some 30), .ld (some 2) (.t 4), none⟩,
  ⟨(some 31), .call (.k (.fn 30 [])) [(.t 30), (.k (.d (.int .i64 0)))], none⟩,
  ⟨(some 32), .ext (.t 31) 0, none⟩,
  ⟨(some 33), .ext (.t 31) 1, none⟩,
  ⟨none, .st 6 (.t 2) (.t 32), none⟩,
  ⟨(some 3), .mv (.t 33), none⟩])
.ret)))) }
theorem af95_ok : cFun Tryz.prog eqT Tryz.f95 = some af95 := by kernel_rfl
/-- dossier/dossierref1.Floor -/
noncomputable def af96 : AFun := { np := 1, nt := 21, res := [.c 2 (some 2)], code :=
(.seq (.rg [⟨(some 1), .box (.t 0), none⟩,
  ⟨(some 2), .new [.d (.int .i64 0), .d (.int .i64 0)], none⟩])
(.seq (.rg [⟨(some 5), .fad (.t 1) 1, none⟩,
  ⟨(some 6), .ld none (.t 5), none⟩,
  ⟨(some 7), .call (.k (.fn 109 [])) [(.t 6)], none⟩,
  ⟨(some 3), .mv (.t 7), none⟩])
(.seq (.rg [⟨(some 8), .fad (.t 1) 0, none⟩,
  ⟨(some 9), .ld none (.t 8), none⟩,
  ⟨(some 10), .mv (.t 3), none⟩,
  ⟨(some 11), .bin .quo (.t 9) (.t 10), none⟩,
  ⟨(some 4), .mv (.t 11), none⟩])
(.seq (.seq (.rg [⟨(some 12), .fad (.t 1) 0, none⟩,
  ⟨(some 13), .ld none (.t 12), none⟩,
  ⟨(some 14), .mv (.t 3), none⟩,
  ⟨(some 15), .bin .rem (.t 13) (.t 14), none⟩,
  ⟨(some 16), .bin .lss (.t 15) (.k (.d (.int .i64 0))), none⟩])
(.cond (.t 16)
  (.rg [⟨(some 17), .mv (.t 4), none⟩,
    ⟨(some 18), .bin .sub (.t 17) (.k (.d (.int .i64 1))), none⟩,
    ⟨(some 4), .mv (.t 18), none⟩])
  .skip))
(.seq (.rg [⟨(some 19), .mv (.t 4), none⟩,
  ⟨(some 20), .build [.int .i64 0, .int .i64 0] [(0, 1, (.t 19))], none⟩,
  ⟨none, .st 2 (.t 2) (.t 20), none⟩])
.ret))))) }
theorem af96_ok : cFun Tryz.prog eqT Tryz.f96 = some af96 := by kernel_rfl
/-- dossier/dossierref1.Ceil -/
noncomputable def af97 : AFun := { np := 1, nt := 15, res := [.c 2 (some 2)], code :=
(.seq (.rg [⟨(some 1), .box (.t 0), none⟩,
  ⟨(some 2), .new [.d (.int .i64 0), .d (.int .i64 0)], none⟩])
(.seq (.rg [⟨(some 4), .fad (.t 1) 0, none⟩,
  ⟨(some 5), .ld none (.t 4), none⟩,
  ⟨(some 6), .un .neg (.t 5), none⟩,
  ⟨(some 7), .fad (.t 1) 1, none⟩,
  ⟨(some 8), .ld none (.t 7), none⟩,
  ⟨(some 9), .build [.int .i64 0, .int .i64 0] [(0, 1, (.t 6)), (1, 1, (.t 8))], none⟩,
  ⟨(some 10), .call (.k (.fn 96 [])) [(.t 9)], none⟩,
  ⟨(some 3), .new [.d (.int .i64 0), .d (.int .i64 0)], none⟩,
  ⟨none, .st 2 (.t 3) (.t 10), none⟩])
(.seq (.rg [⟨(some 11), .fad (.t 3) 0, none⟩,
  ⟨(some 12), .ld none (.t 11), none⟩,
  ⟨(some 13), .un .neg (.t 12), none⟩,
  ⟨(some 14), .build [.int .i64 0, .int .i64 0] [(0, 1, (.t 13))], none⟩,
  ⟨none, .st 2 (.t 2) (.t 14), none⟩])
.ret))) }
theorem af97_ok : cFun Tryz.prog eqT Tryz.f97 = some af97 := by kernel_rfl
/-- dossier/dossierref2.Equal -/
noncomputable def af98 : AFun := { np := 2, nt := 9, res := [.t 4], code :=
(.seq (.rg [⟨(some 2), .box (.t 0), none⟩,
  ⟨(some 3), .box (.t 1), none⟩,
  ⟨(some 4), .mv (.k (.d (.bool false))), none⟩])
(.seq (.rg [⟨(some 5), .ld (some 6) (.t 2), none⟩,
  ⟨(some 6), .ld (some 6) (.t 3), none⟩,
  ⟨(some 7), .call (.k (.fn 41 [])) [(.t 5), (.t 6)], none⟩,
  ⟨(some 8), .bin .eql (.t 7) (.k (.d (.int .i64 0))), none⟩,
  ⟨(some 4), .mv (.t 8), none⟩])
.ret)) }
theorem af98_ok : cFun Tryz.prog eqT Tryz.f98 = some af98 := by kernel_rfl
/-- dossier/dossierref3.letter -/
noncomputable def af99 : AFun := { np := 1, nt := 9, res := [.t 2], code :=
(.seq (.rg [⟨(some 2), .mv (.k (.d (.bool false))), none⟩])
(.seq (.rg [⟨(some 3), .mv (.t 0), none⟩,
  ⟨(some 4), .bin .geq (.t 3) (.k (.d (.int .u8 97))), none⟩,
  ⟨(some 5), .mv (.t 4), none⟩,
  ⟨(some 6), .mv (.t 0), some (5, true)⟩,
  ⟨(some 7), .bin .leq (.t 6) (.k (.d (.int .u8 122))), some (5, true)⟩,
  ⟨(some 8), .pick (.t 5) (.t 7) (.k (.d (.bool false))), none⟩,
  ⟨(some 2), .mv (.t 8), none⟩])
.ret)) }
theorem af99_ok : cFun Tryz.prog eqT Tryz.f99 = some af99 := by kernel_rfl
/-- dossier/dossierref3.digit -/
noncomputable def af100 : AFun := { np := 1, nt := 9, res := [.t 2], code :=
(.seq (.rg [⟨(some 2), .mv (.k (.d (.bool false))), none⟩])
(.seq (.rg [⟨(some 3), .mv (.t 0), none⟩,
  ⟨(some 4), .bin .geq (.t 3) (.k (.d (.int .u8 48))), none⟩,
  ⟨(some 5), .mv (.t 4), none⟩,
  ⟨(some 6), .mv (.t 0), some (5, true)⟩,
  ⟨(some 7), .bin .leq (.t 6) (.k (.d (.int .u8 57))), some (5, true)⟩,
  ⟨(some 8), .pick (.t 5) (.t 7) (.k (.d (.bool false))), none⟩,
  ⟨(some 2), .mv (.t 8), none⟩])
.ret)) }
theorem af100_ok : cFun Tryz.prog eqT Tryz.f100 = some af100 := by kernel_rfl
/-- dossier/dossierref3.Word -/
noncomputable def af101 : AFun := { np := 1, nt := 18, res := [.t 2], code :=
(.seq (.rg [⟨(some 2), .mv (.k (.d (.bool false))), none⟩])
(.seq (.rg [⟨(some 5), .mkrow 9 1 [(.k (.d (.str [116, 114, 117, 101]))), (.k (.d (.str [102, 97, 108, 115, 101]))), (.k (.d (.str [110, 117, 108, 108]))), (.k (.d (.str [105, 102]))), (.k (.d (.str [116, 104, 101, 110]))), (.k (.d (.str [101, 108, 115, 101]))), (.k (.d (.str [97, 110, 100]))), (.k (.d (.str [111, 114]))), (.k (.d (.str [105, 110])))], none⟩,
  ⟨(some 3), .mv (.t 5), none⟩])
(.seq (.seq (.rg [⟨(some 4), .mv (.k (.d (.int .i64 0))), none⟩])
(.block 0
  (.loop
    (.seq (.seq (.rg [⟨(some 6), .mv (.t 4), none⟩,
      ⟨(some 7), .mv (.t 3), none⟩,
      ⟨(some 8), .lenq false (.t 7), none⟩,
      ⟨(some 9), .bin .lss (.t 6) (.t 8), none⟩])
    (.cond (.t 9)
      .skip
      (.exit 0)))
    (.seq (.block 1
      (.seq (.rg [⟨(some 12), .mv (.t 3), none⟩,
        ⟨(some 13), .mv (.t 4), none⟩,
        ⟨(some 14), .iad 1 (.t 12) (.t 13), none⟩,
        ⟨(some 15), .ld none (.t 14), none⟩,
        ⟨(some 16), .mv (.t 0), none⟩,
        ⟨(some 17), .bin .eql (.t 15) (.t 16), none⟩])
      (.cond (.t 17)
        (.seq (.rg [⟨(some 2), .mv (.k (.d (.bool true))), none⟩])
        .ret)
        .skip)))
    (.rg [⟨(some 10), .mv (.t 4), none⟩,
      ⟨(some 11), .bin .add (.t 10) (.k (.d (.int .i64 1))), none⟩,
      ⟨(some 4), .mv (.t 11), none⟩]))))))
(.seq (.rg [⟨(some 2), .mv (.k (.d (.bool false))), none⟩])
.ret)))) }
theorem af101_ok : cFun Tryz.prog eqT Tryz.f101 = some af101 := by kernel_rfl
/-- (*dossier/dossierref4.reader).deep -/
noncomputable def af102 : AFun := { np := 2, nt := 14, res := [.t 4], code :=
(.seq (.rg [⟨(some 4), .mv (.k (.d (.bool false))), none⟩])
(.seq (.seq (.rg [⟨(some 5), .mv (.t 1), none⟩,
  ⟨(some 6), .bin .gtr (.t 5) (.k (.d (.int .i64 8))), none⟩])
(.cond (.t 6)
  (.rg [⟨(some 7), .mv (.t 0), none⟩,
    ⟨(some 8), .call (.k (.fn 129 [])) [(.t 7), (.k (.d (.int .i64 12)))], none⟩])
  .skip))
(.seq (.rg [⟨(some 9), .mv (.t 0), none⟩,
  ⟨(some 10), .nilck (.t 9), none⟩,
  ⟨(some 11), .fad (.t 10) 3, none⟩,
  ⟨(some 12), .ld none (.t 11), none⟩,
  ⟨(some 13), .bin .neq (.t 12) (.k (.d (.int .i64 0))), none⟩,
  ⟨(some 4), .mv (.t 13), none⟩])
.ret))) }
theorem af102_ok : cFun Tryz.prog eqT Tryz.f102 = some af102 := by kernel_rfl
/-- (*dossier/dossierref4.reader).and -/
noncomputable def af103 : AFun := { np := 2, nt := 19, res := [.c 4 (some 8)], code :=
(.seq (.rg [⟨(some 4), .new [.d (.int .i64 0), .d (.bool false), .d (.int .i64 0), .d (.int .i64 0), .d (.str []), .d (.bool false), .d (.bool false), .nils], none⟩])
(.seq (.rg [⟨(some 6), .mv (.t 0), none⟩,
  ⟨(some 7), .mv (.t 1), none⟩,
  ⟨(some 8), .call (.k (.fn 130 [])) [(.t 6), (.t 7)], none⟩,
  ⟨(some 5), .new [.d (.int .i64 0), .d (.bool false), .d (.int .i64 0), .d (.int .i64 0), .d (.str []), .d (.bool false), .d (.bool false), .nils], none⟩,
  ⟨none, .st 8 (.t 5) (.t 8), none⟩])
(.seq (.block 0
  (.loop
    (.seq (.seq (.rg [⟨(some 9), .mv (.t 0), none⟩,
      ⟨(some 10), .mkrow 9 1 [(.k (.d (.str [97, 110, 100])))], none⟩,
      ⟨(some 11), .call (.k (.fn 104 [])) [(.t 9), (.t 10)], none⟩,
      ⟨(some 12), .bin .neq (.t 11) (.k (.d (.str []))), none⟩])
    (.cond (.t 12)
      .skip
      (.exit 0)))
    (.block 1
      (.rd [⟨(some 13), .ld (some 8) (.t 5), none⟩,
        ⟨(some 14), .mv (.t 0), none⟩,
        ⟨(some 15), .mv (.t 1), none⟩,
        ⟨(some 16), .call (.k (.fn 130 [])) [(.t 14), (.t 15)], none⟩,
        ⟨(some 17), .call (.k (.fn 105 [])) [(.k (.d (.str [97, 110, 100]))), (.t 13), (.t 16)], none⟩,
        ⟨none, .st 8 (.t 5) (.t 17), none⟩] [(0, 3)])))))
(.seq (.rg [⟨(some 18), .ld (some 8) (.t 5), none⟩,
  ⟨none, .st 8 (.t 4) (.t 18), none⟩])
.ret)))) }
theorem af103_ok : cFun Tryz.prog eqT Tryz.f103 = some af103 := by kernel_rfl
/-- (*dossier/dossierref4.reader).take -/
noncomputable def af104 : AFun := { np := 2, nt := 29, res := [.t 4], code :=
(.seq (.rg [⟨(some 4), .mv (.k (.d (.str []))), none⟩])
(.seq (.seq (.rg [⟨(some 5), .mv (.k (.d (.int .i64 0))), none⟩])
(.block 0
  (.loop
    (.seq (.seq (.rg [⟨(some 6), .mv (.t 5), none⟩,
      ⟨(some 7), .mv (.t 1), none⟩,
      ⟨(some 8), .lenq false (.t 7), none⟩,
      ⟨(some 9), .bin .lss (.t 6) (.t 8), none⟩])
    (.cond (.t 9)
      .skip
      (.exit 0)))
    (.seq (.block 1
      (.seq (.rg [⟨(some 12), .mv (.t 0), none⟩,
        ⟨(some 13), .mv (.t 1), none⟩,
        ⟨(some 14), .mv (.t 5), none⟩,
        ⟨(some 15), .iad 1 (.t 13) (.t 14), none⟩,
        ⟨(some 16), .ld none (.t 15), none⟩,
        ⟨(some 17), .call (.k (.fn 131 [])) [(.t 12), (.t 16)], none⟩])
      (.cond (.t 17)
        (.seq (.rg [⟨(some 18), .mv (.t 0), none⟩,
          ⟨(some 19), .nilck (.t 18), none⟩,
          ⟨(some 20), .fad (.t 19) 1, none⟩,
          ⟨(some 21), .ld none (.t 20), none⟩,
          ⟨(some 22), .bin .add (.t 21) (.k (.d (.int .i64 1))), none⟩,
          ⟨(some 23), .nilck (.t 18), none⟩,
          ⟨(some 24), .fad (.t 23) 1, none⟩,
          ⟨none, .st 1 (.t 24) (.t 22), none⟩])
        (.seq (.rg [⟨(some 25), .mv (.t 1), none⟩,
          ⟨(some 26), .mv (.t 5), none⟩,
          ⟨(some 27), .iad 1 (.t 25) (.t 26), none⟩,
          ⟨(some 28), .ld none (.t 27), none⟩,
          ⟨(some 4), .mv (.t 28), none⟩])
        .ret))
        .skip)))
    (.rg [⟨(some 10), .mv (.t 5), none⟩,
      ⟨(some 11), .bin .add (.t 10) (.k (.d (.int .i64 1))), none⟩,
      ⟨(some 5), .mv (.t 11), none⟩]))))))
(.seq (.rg [⟨(some 4), .mv (.k (.d (.str []))), none⟩])
.ret))) }
theorem af104_ok : cFun Tryz.prog eqT Tryz.f104 = some af104 := by kernel_rfl
/-- dossier/dossierref4.bin -/
noncomputable def af105 : AFun := { np := 3, nt := 12, res := [.c 6 (some 8)], code :=
(.seq (.rg [⟨(some 4), .box (.t 1), none⟩,
  ⟨(some 5), .box (.t 2), none⟩,
  ⟨(some 6), .new [.d (.int .i64 0), .d (.bool false), .d (.int .i64 0), .d (.int .i64 0), .d (.str []), .d (.bool false), .d (.bool false), .nils], none⟩])
(.seq (.rg [⟨(some 7), .mv (.t 0), none⟩,
  ⟨(some 8), .ld (some 8) (.t 4), none⟩,
  ⟨(some 9), .ld (some 8) (.t 5), none⟩,
  ⟨(some 10), .mkrow 26 8 [(.t 8), (.t 9)], none⟩,
  ⟨(some 11), .build [.int .i64 0, .bool false, .int .i64 0, .int .i64 0, .str [], .bool false, .bool false, .sl []] [(0, 1, (.k (.d (.int .i64 6)))), (4, 1, (.t 7)), (7, 1, (.t 10))], none⟩,
  ⟨none, .st 8 (.t 6) (.t 11), none⟩])
.ret)) }
theorem af105_ok : cFun Tryz.prog eqT Tryz.f105 = some af105 := by kernel_rfl
/-- cmp.isNaN[int] -/
noncomputable def af106 : AFun := { np := 1, nt := 6, res := [.t 2], code :=
(.seq (.rg [⟨(some 2), .mv (.k (.d (.bool false))), none⟩])
(.seq (.rg [⟨(some 3), .mv (.t 0), none⟩,
  ⟨(some 4), .mv (.t 0), none⟩,
  ⟨(some 5), .bin .neq (.t 3) (.t 4), none⟩,
  ⟨(some 2), .mv (.t 5), none⟩])
.ret)) }
theorem af106_ok : cFun Tryz.prog eqT Tryz.f106 = some af106 := by kernel_rfl
/-- dossier/dec.scaled -/
noncomputable def af107 : AFun := { np := 2, nt := 13, res := [.t 4], code :=
(.seq (.rg [⟨(some 2), .box (.t 0), none⟩,
  ⟨(some 4), .mv (.k (.d (.int .i64 0))), none⟩])
(.seq (.rd [⟨(some 5), .fad (.t 2) 0, none⟩,
  ⟨(some 6), .ld none (.t 5), none⟩,
  ⟨(some 7), .mv (.t 1), none⟩,
  ⟨(some 8), .fad (.t 2) 1, none⟩,
  ⟨(some 9), .ld none (.t 8), none⟩,
  ⟨(some 10), .bin .sub (.t 7) (.t 9), none⟩,
  ⟨(some 11), .call (.k (.fn 132 [])) [(.t 10)], none⟩,
  ⟨(some 12), .bin .mul (.t 6) (.t 11), none⟩,
  ⟨(some 4), .mv (.t 12), none⟩] [(1, 6), (4, 6)])
.ret)) }
theorem af107_ok : cFun Tryz.prog eqT Tryz.f107 = some af107 := by kernel_rfl
/-- cmp.isNaN[string] -/
noncomputable def af108 : AFun := { np := 1, nt := 6, res := [.t 2], code :=
(.seq (.rg [⟨(some 2), .mv (.k (.d (.bool false))), none⟩])
(.seq (.rg [⟨(some 3), .mv (.t 0), none⟩,
  ⟨(some 4), .mv (.t 0), none⟩,
  ⟨(some 5), .bin .neq (.t 3) (.t 4), none⟩,
  ⟨(some 2), .mv (.t 5), none⟩])
.ret)) }
theorem af108_ok : cFun Tryz.prog eqT Tryz.f108 = some af108 := by kernel_rfl
/-- dossier/dossierref1.power -/
noncomputable def af109 : AFun := { np := 1, nt := 13, res := [.t 2], code :=
(.seq (.rg [⟨(some 2), .mv (.k (.d (.int .i64 0))), none⟩])
(.seq (.rg [⟨(some 3), .mv (.k (.d (.int .i64 1))), none⟩])
(.seq (.seq (.rg [⟨(some 4), .mv (.k (.d (.int .i64 0))), none⟩])
(.block 0
  (.loop
    (.seq (.seq (.rg [⟨(some 5), .mv (.t 4), none⟩,
      ⟨(some 6), .mv (.t 0), none⟩,
      ⟨(some 7), .bin .lss (.t 5) (.t 6), none⟩])
    (.cond (.t 7)
      .skip
      (.exit 0)))
    (.seq (.block 1
      (.rg [⟨(some 10), .mv (.t 3), none⟩,
        ⟨(some 11), .bin .mul (.t 10) (.k (.d (.int .i64 10))), none⟩,
        ⟨(some 3), .mv (.t 11), none⟩]))
    (.rg [⟨(some 8), .mv (.t 4), none⟩,
      ⟨(some 9), .bin .add (.t 8) (.k (.d (.int .i64 1))), none⟩,
      ⟨(some 4), .mv (.t 9), none⟩]))))))
(.seq (.rg [⟨(some 12), .mv (.t 3), none⟩,
  ⟨(some 2), .mv (.t 12), none⟩])
.ret)))) }
theorem af109_ok : cFun Tryz.prog eqT Tryz.f109 = some af109 := by kernel_rfl
/-- dossier/val.named -/
noncomputable def af110 : AFun := { np := 1, nt := 30, res := [.c 2 (some 6)], code :=
(.seq (.rg [⟨(some 1), .box (.t 0), none⟩,
  ⟨(some 2), .new [.d (.int .i64 0), .d (.bool false), .d (.int .i64 0), .d (.int .i64 0), .d (.str []), .nils], none⟩])
(.seq (.rg [⟨(some 4), .fad (.t 1) 0, none⟩,
  ⟨(some 5), .ld none (.t 4), none⟩,
  ⟨(some 6), .build [.int .i64 0, .bool false, .int .i64 0, .int .i64 0, .str [], .sl []] [(0, 1, (.t 5))], none⟩,
  ⟨(some 3), .new [.d (.int .i64 0), .d (.bool false), .d (.int .i64 0), .d (.int .i64 0), .d (.str []), .nils], none⟩,
  ⟨none, .st 6 (.t 3) (.t 6), none⟩])
(.seq (.seq (.rg [⟨(some 7), .fad (.t 1) 0, none⟩,
  ⟨(some 8), .ld none (.t 7), none⟩])
(.block 0
  (.seq (.rg [⟨(some 10), .bin .eql (.t 8) (.k (.d (.int .i64 1))), none⟩,
    ⟨(some 9), .mv (.t 10), none⟩])
  (.cond (.t 9)
    (.rg [⟨(some 11), .fad (.t 1) 1, none⟩,
      ⟨(some 12), .ld none (.t 11), none⟩,
      ⟨(some 13), .fad (.t 3) 1, none⟩,
      ⟨none, .st 1 (.t 13) (.t 12), none⟩])
    (.seq (.rg [⟨(some 15), .bin .eql (.t 8) (.k (.d (.int .i64 2))), none⟩,
      ⟨(some 14), .mv (.t 15), none⟩])
    (.cond (.t 14)
      (.rg [⟨(some 16), .fad (.t 1) 2, none⟩,
        ⟨(some 17), .ld (some 2) (.t 16), none⟩,
        ⟨(some 18), .fad (.t 3) 2, none⟩,
        ⟨none, .st 2 (.t 18) (.t 17), none⟩])
      (.seq (.rg [⟨(some 20), .bin .eql (.t 8) (.k (.d (.int .i64 3))), none⟩,
        ⟨(some 19), .mv (.t 20), none⟩])
      (.cond (.t 19)
        (.rg [⟨(some 21), .fad (.t 1) 4, none⟩,
          ⟨(some 22), .ld none (.t 21), none⟩,
          ⟨(some 23), .fad (.t 3) 4, none⟩,
          ⟨none, .st 1 (.t 23) (.t 22), none⟩])
        (.seq (.rg [⟨(some 25), .bin .eql (.t 8) (.k (.d (.int .i64 4))), none⟩,
          ⟨(some 24), .mv (.t 25), none⟩])
        (.cond (.t 24)
          (.rg [⟨(some 26), .fad (.t 1) 5, none⟩,
            ⟨(some 27), .ld none (.t 26), none⟩,
            ⟨(some 28), .fad (.t 3) 5, none⟩,
            ⟨none, .st 1 (.t 28) (.t 27), none⟩])
          .skip))))))))))
(.seq (.rg [⟨(some 29), .ld (some 6) (.t 3), none⟩,
  ⟨none, .st 6 (.t 2) (.t 29), none⟩])
.ret)))) }
theorem af110_ok : cFun Tryz.prog eqT Tryz.f110 = some af110 := by kernel_rfl
/-- dossier/val.isText -/
noncomputable def af111 : AFun := { np := 1, nt := 13, res := [.t 2], code :=
(.seq (.rg [⟨(some 2), .mv (.k (.d (.bool false))), none⟩])
(.seq (.rg [⟨(some 3), .mv (.k (.fn 133 [])), none⟩])
(.seq (.rg [⟨(some 4), .mv (.t 0), none⟩,
  ⟨(some 5), .lenq true (.t 4), none⟩,
  ⟨(some 6), .bin .leq (.t 5) (.k (.d (.int .i64 16))), none⟩,
  ⟨(some 7), .mv (.t 6), none⟩,
  ⟨(some 8), .mv (.t 0), some (7, true)⟩,
  ⟨(some 9), .mv (.t 3), some (7, true)⟩,
  ⟨(some 10), .call (.k (.fn 134 [])) [(.t 8), (.t 9)], some (7, true)⟩,
  ⟨(some 11), .bin .lss (.t 10) (.k (.d (.int .i64 0))), some (7, true)⟩,
  ⟨(some 12), .pick (.t 7) (.t 11) (.k (.d (.bool false))), none⟩,
  ⟨(some 2), .mv (.t 12), none⟩])
.ret))) }
theorem af111_ok : cFun Tryz.prog eqT Tryz.f111 = some af111 := by kernel_rfl
/-- dossier/val.may$1 -/
noncomputable def af112 : AFun := { np := 2, nt := 9, res := [.t 3], code :=
(.seq (.rg [⟨(some 2), .box (.t 0), none⟩,
  ⟨(some 3), .mv (.k (.d (.bool false))), none⟩])
(.seq (.rg [⟨(some 4), .ld (some 6) (.t 2), none⟩,
  ⟨(some 5), .ld none (.t 1), none⟩,
  ⟨(some 6), .bin .add (.t 5) (.k (.d (.int .i64 1))), none⟩,
  ⟨(some 7), .call (.k (.fn 77 [])) [(.t 4), (.t 6)], none⟩,
  ⟨(some 8), .un .not (.t 7), none⟩,
  ⟨(some 3), .mv (.t 8), none⟩])
.ret)) }
theorem af112_ok : cFun Tryz.prog eqT Tryz.f112 = some af112 := by kernel_rfl
/-- slices.ContainsFunc[[]dossier/api.Val,dossier/api.Val] -/
noncomputable def af113 : AFun := { np := 2, nt := 9, res := [.t 4], code :=
(.seq (.rg [⟨(some 4), .mv (.k (.d (.bool false))), none⟩])
(.seq (.rg [⟨(some 5), .mv (.t 0), none⟩,
  ⟨(some 6), .mv (.t 1), none⟩,
  ⟨(some 7), .call (.k (.fn 135 [])) [(.t 5), (.t 6)], none⟩,
  ⟨(some 8), .bin .geq (.t 7) (.k (.d (.int .i64 0))), none⟩,
  ⟨(some 4), .mv (.t 8), none⟩])
.ret)) }
theorem af113_ok : cFun Tryz.prog eqT Tryz.f113 = some af113 := by kernel_rfl
/-- slices.Clone[[]dossier/api.Val,dossier/api.Val] -/
noncomputable def af114 : AFun := { np := 1, nt := 8, res := [.t 2], code :=
(.seq (.rg [⟨(some 2), .mv (.k (.nils)), none⟩])
(.seq (.seq (.rg [⟨(some 3), .mv (.t 0), none⟩,
  ⟨(some 4), .eqn false (.t 3), none⟩])
(.cond (.t 4)
  (.seq (.rg [⟨(some 2), .mv (.k (.nils)), none⟩])
  .ret)
  .skip))
(.seq (.rg [⟨(some 5), .mkrow 32 6 [], none⟩,
  ⟨(some 6), .mv (.t 0), none⟩,
  ⟨(some 7), .app 32 6 72 (.t 5) (.t 6), none⟩,
  ⟨(some 2), .mv (.t 7), none⟩])
.ret))) }
theorem af114_ok : cFun Tryz.prog eqT Tryz.f114 = some af114 := by kernel_rfl
/-- dossier/val.falsehood -/
noncomputable def af115 : AFun := { np := 1, nt := 11, res := [.t 2], code :=
(.seq (.rg [⟨(some 1), .box (.t 0), none⟩,
  ⟨(some 2), .mv (.k (.d (.bool false))), none⟩])
(.seq (.rg [⟨(some 3), .fad (.t 1) 0, none⟩,
  ⟨(some 4), .ld none (.t 3), none⟩,
  ⟨(some 5), .bin .eql (.t 4) (.k (.d (.int .i64 1))), none⟩,
  ⟨(some 6), .mv (.t 5), none⟩,
  ⟨(some 7), .fad (.t 1) 1, some (6, true)⟩,
  ⟨(some 8), .ld none (.t 7), some (6, true)⟩,
  ⟨(some 9), .un .not (.t 8), some (6, true)⟩,
  ⟨(some 10), .pick (.t 6) (.t 9) (.k (.d (.bool false))), none⟩,
  ⟨(some 2), .mv (.t 10), none⟩])
.ret)) }
theorem af115_ok : cFun Tryz.prog eqT Tryz.f115 = some af115 := by kernel_rfl
/-- dossier/val.truth -/
noncomputable def af116 : AFun := { np := 1, nt := 5, res := [.c 2 (some 6)], code :=
(.seq (.rg [⟨(some 2), .new [.d (.int .i64 0), .d (.bool false), .d (.int .i64 0), .d (.int .i64 0), .d (.str []), .nils], none⟩])
(.seq (.rg [⟨(some 3), .mv (.t 0), none⟩,
  ⟨(some 4), .build [.int .i64 0, .bool false, .int .i64 0, .int .i64 0, .str [], .sl []] [(0, 1, (.k (.d (.int .i64 1)))), (1, 1, (.t 3))], none⟩,
  ⟨none, .st 6 (.t 2) (.t 4), none⟩])
.ret)) }
theorem af116_ok : cFun Tryz.prog eqT Tryz.f116 = some af116 := by kernel_rfl
/-- dossier/val.Not -/
noncomputable def af117 : AFun := { np := 1, nt := 11, res := [.c 2 (some 6)], code :=
(.seq (.rg [⟨(some 1), .box (.t 0), none⟩,
  ⟨(some 2), .new [.d (.int .i64 0), .d (.bool false), .d (.int .i64 0), .d (.int .i64 0), .d (.str []), .nils], none⟩])
(.seq (.seq (.rg [⟨(some 3), .fad (.t 1) 0, none⟩,
  ⟨(some 4), .ld none (.t 3), none⟩,
  ⟨(some 5), .bin .neq (.t 4) (.k (.d (.int .i64 1))), none⟩])
(.cond (.t 5)
  (.seq (.rg [⟨(some 6), .build [.int .i64 0, .bool false, .int .i64 0, .int .i64 0, .str [], .sl []] [], none⟩,
    ⟨none, .st 6 (.t 2) (.t 6), none⟩])
  .ret)
  .skip))
(.seq (.rg [⟨(some 7), .fad (.t 1) 1, none⟩,
  ⟨(some 8), .ld none (.t 7), none⟩,
  ⟨(some 9), .un .not (.t 8), none⟩,
  ⟨(some 10), .call (.k (.fn 116 [])) [(.t 9)], none⟩,
  ⟨none, .st 6 (.t 2) (.t 10), none⟩])
.ret))) }
theorem af117_ok : cFun Tryz.prog eqT Tryz.f117 = some af117 := by kernel_rfl
/-- dossier/dec.Fit -/
noncomputable def af118 : AFun := { np := 2, nt := 46, res := [.c 4 (some 2), .t 5], code :=
(.seq (.rg [⟨(some 4), .new [.d (.int .i64 0), .d (.int .i64 0)], none⟩,
  ⟨(some 5), .mv (.k (.d (.int .i64 0))), none⟩])
(.seq (.seq (.rg [⟨(some 8), .mv (.t 0), none⟩,
  ⟨(some 9), .bin .lss (.t 8) (.k (.d (.int .i64 (-1000000000000000000)))), none⟩,
  ⟨(some 10), .mv (.t 9), none⟩,
  ⟨(some 11), .mv (.t 0), some (10, false)⟩,
  ⟨(some 12), .bin .gtr (.t 11) (.k (.d (.int .i64 1000000000000000000))), some (10, false)⟩,
  ⟨(some 13), .pick (.t 10) (.k (.d (.bool true))) (.t 12), none⟩,
  ⟨(some 14), .mv (.t 13), none⟩,
  ⟨(some 15), .mv (.t 1), some (14, false)⟩,
  ⟨(some 16), .bin .lss (.t 15) (.k (.d (.int .i64 0))), some (14, false)⟩,
  ⟨(some 17), .pick (.t 14) (.k (.d (.bool true))) (.t 16), none⟩,
  ⟨(some 18), .mv (.t 17), none⟩,
  ⟨(some 19), .mv (.t 1), some (18, false)⟩,
  ⟨(some 20), .bin .gtr (.t 19) (.k (.d (.int .i64 8))), some (18, false)⟩,
  ⟨(some 21), .pick (.t 18) (.k (.d (.bool true))) (.t 20), none⟩])
(.cond (.t 21)
  (.seq (.rg [⟨(some 22), .build [.int .i64 0, .int .i64 0] [], none⟩,
    ⟨none, .st 2 (.t 4) (.t 22), none⟩,
    ⟨(some 5), .mv (.k (.d (.int .i64 1))), none⟩])
  .ret)
  .skip))
(.seq (.seq (.rg [⟨(some 23), .mv (.t 1), none⟩,
  ⟨(some 24), .mm false (.t 23) [(.k (.d (.int .i64 4)))], none⟩,
  ⟨(some 6), .mv (.t 24), none⟩])
(.block 0
  (.loop
    (.seq (.seq (.rg [⟨(some 25), .mv (.t 6), none⟩,
      ⟨(some 26), .bin .geq (.t 25) (.k (.d (.int .i64 0))), none⟩])
    (.cond (.t 26)
      .skip
      (.exit 0)))
    (.seq (.block 1
      (.seq (.rg [⟨(some 29), .mv (.t 0), none⟩,
        ⟨(some 30), .mv (.t 1), none⟩,
        ⟨(some 31), .mv (.t 6), none⟩,
        ⟨(some 32), .bin .sub (.t 30) (.t 31), none⟩,
        ⟨(some 33), .call (.k (.fn 132 [])) [(.t 32)], none⟩,
        ⟨(some 34), .call (.k (.fn 136 [])) [(.t 29), (.t 33)], none⟩,
        ⟨(some 7), .mv (.t 34), none⟩])
      (.seq (.rg [⟨(some 35), .mv (.t 7), none⟩,
        ⟨(some 36), .bin .geq (.t 35) (.k (.d (.int .i64 (-1000000000)))), none⟩,
        ⟨(some 37), .mv (.t 36), none⟩,
        ⟨(some 38), .mv (.t 7), some (37, true)⟩,
        ⟨(some 39), .bin .leq (.t 38) (.k (.d (.int .i64 1000000000))), some (37, true)⟩,
        ⟨(some 40), .pick (.t 37) (.t 39) (.k (.d (.bool false))), none⟩])
      (.cond (.t 40)
        (.seq (.rg [⟨(some 41), .mv (.t 7), none⟩,
          ⟨(some 42), .mv (.t 6), none⟩,
          ⟨(some 43), .build [.int .i64 0, .int .i64 0] [(0, 1, (.t 41)), (1, 1, (.t 42))], none⟩,
          ⟨(some 44), .call (.k (.fn 137 [])) [(.t 43)], none⟩,
          ⟨none, .st 2 (.t 4) (.t 44), none⟩,
          ⟨(some 5), .mv (.k (.d (.int .i64 0))), none⟩])
        .ret)
        .skip))))
    (.rg [⟨(some 27), .mv (.t 6), none⟩,
      ⟨(some 28), .bin .sub (.t 27) (.k (.d (.int .i64 1))), none⟩,
      ⟨(some 6), .mv (.t 28), none⟩]))))))
(.seq (.rg [⟨(some 45), .build [.int .i64 0, .int .i64 0] [], none⟩,
  ⟨none, .st 2 (.t 4) (.t 45), none⟩,
  ⟨(some 5), .mv (.k (.d (.int .i64 3))), none⟩])
.ret)))) }
theorem af118_ok : cFun Tryz.prog eqT Tryz.f118 = some af118 := by kernel_rfl
/-- dossier/dec.Sub -/
noncomputable def af119 : AFun := { np := 2, nt := 16, res := [.c 4 (some 2), .t 5], code :=
(.seq (.rg [⟨(some 2), .box (.t 0), none⟩,
  ⟨(some 3), .box (.t 1), none⟩,
  ⟨(some 4), .new [.d (.int .i64 0), .d (.int .i64 0)], none⟩,
  ⟨(some 5), .mv (.k (.d (.int .i64 0))), none⟩])
(.seq (.rg [⟨(some 6), .ld (some 2) (.t 2), none⟩,
  ⟨(some 7), .fad (.t 3) 0, none⟩,
  ⟨(some 8), .ld none (.t 7), none⟩,
  ⟨(some 9), .un .neg (.t 8), none⟩,
  ⟨(some 10), .fad (.t 3) 1, none⟩,
  ⟨(some 11), .ld none (.t 10), none⟩,
  ⟨(some 12), .build [.int .i64 0, .int .i64 0] [(0, 1, (.t 9)), (1, 1, (.t 11))], none⟩,
  ⟨(some 13), .call (.k (.fn 82 [])) [(.t 6), (.t 12)], none⟩,
  ⟨(some 14), .ext (.t 13) 0, none⟩,
  ⟨(some 15), .ext (.t 13) 1, none⟩,
  ⟨none, .st 2 (.t 4) (.t 14), none⟩,
  ⟨(some 5), .mv (.t 15), none⟩])
.ret)) }
theorem af119_ok : cFun Tryz.prog eqT Tryz.f119 = some af119 := by kernel_rfl
/-- dossier/dec.Mul -/
noncomputable def af120 : AFun := { np := 2, nt := 19, res := [.c 4 (some 2), .t 5], code :=
(.seq (.rg [⟨(some 2), .box (.t 0), none⟩,
  ⟨(some 3), .box (.t 1), none⟩,
  ⟨(some 4), .new [.d (.int .i64 0), .d (.int .i64 0)], none⟩,
  ⟨(some 5), .mv (.k (.d (.int .i64 0))), none⟩])
(.seq (.rg [⟨(some 6), .fad (.t 2) 0, none⟩,
  ⟨(some 7), .ld none (.t 6), none⟩,
  ⟨(some 8), .fad (.t 3) 0, none⟩,
  ⟨(some 9), .ld none (.t 8), none⟩,
  ⟨(some 10), .bin .mul (.t 7) (.t 9), none⟩,
  ⟨(some 11), .fad (.t 2) 1, none⟩,
  ⟨(some 12), .ld none (.t 11), none⟩,
  ⟨(some 13), .fad (.t 3) 1, none⟩,
  ⟨(some 14), .ld none (.t 13), none⟩,
  ⟨(some 15), .bin .add (.t 12) (.t 14), none⟩,
  ⟨(some 16), .call (.k (.fn 118 [])) [(.t 10), (.t 15)], none⟩,
  ⟨(some 17), .ext (.t 16) 0, none⟩,
  ⟨(some 18), .ext (.t 16) 1, none⟩,
  ⟨none, .st 2 (.t 4) (.t 17), none⟩,
  ⟨(some 5), .mv (.t 18), none⟩])
.ret)) }
theorem af120_ok : cFun Tryz.prog eqT Tryz.f120 = some af120 := by kernel_rfl
/-- dossier/dec.Div -/
noncomputable def af121 : AFun := { np := 2, nt := 49, res := [.c 4 (some 2), .t 5], code :=
(.seq (.rg [⟨(some 2), .box (.t 0), none⟩,
  ⟨(some 3), .box (.t 1), none⟩,
  ⟨(some 4), .new [.d (.int .i64 0), .d (.int .i64 0)], none⟩,
  ⟨(some 5), .mv (.k (.d (.int .i64 0))), none⟩])
(.seq (.seq (.rg [⟨(some 8), .fad (.t 3) 0, none⟩,
  ⟨(some 9), .ld none (.t 8), none⟩,
  ⟨(some 10), .bin .eql (.t 9) (.k (.d (.int .i64 0))), none⟩])
(.cond (.t 10)
  (.seq (.rg [⟨(some 11), .build [.int .i64 0, .int .i64 0] [], none⟩,
    ⟨none, .st 2 (.t 4) (.t 11), none⟩,
    ⟨(some 5), .mv (.k (.d (.int .i64 1))), none⟩])
  .ret)
  .skip))
(.seq (.rd [⟨(some 12), .fad (.t 2) 0, none⟩,
  ⟨(some 13), .ld none (.t 12), none⟩,
  ⟨(some 14), .fad (.t 3) 1, none⟩,
  ⟨(some 15), .ld none (.t 14), none⟩,
  ⟨(some 16), .bin .add (.k (.d (.int .i64 4))) (.t 15), none⟩,
  ⟨(some 17), .fad (.t 2) 1, none⟩,
  ⟨(some 18), .ld none (.t 17), none⟩,
  ⟨(some 19), .fad (.t 3) 1, none⟩,
  ⟨(some 20), .ld none (.t 19), none⟩,
  ⟨(some 21), .mm false (.t 18) [(.t 20)], none⟩,
  ⟨(some 22), .bin .sub (.t 16) (.t 21), none⟩,
  ⟨(some 23), .call (.k (.fn 132 [])) [(.t 22)], none⟩,
  ⟨(some 24), .bin .mul (.t 13) (.t 23), none⟩,
  ⟨(some 25), .fad (.t 3) 0, none⟩,
  ⟨(some 26), .ld none (.t 25), none⟩,
  ⟨(some 27), .fad (.t 2) 1, none⟩,
  ⟨(some 28), .ld none (.t 27), none⟩,
  ⟨(some 29), .fad (.t 2) 1, none⟩,
  ⟨(some 30), .ld none (.t 29), none⟩,
  ⟨(some 31), .fad (.t 3) 1, none⟩,
  ⟨(some 32), .ld none (.t 31), none⟩,
  ⟨(some 33), .mm false (.t 30) [(.t 32)], none⟩,
  ⟨(some 34), .bin .sub (.t 28) (.t 33), none⟩,
  ⟨(some 35), .call (.k (.fn 132 [])) [(.t 34)], none⟩,
  ⟨(some 36), .bin .mul (.t 26) (.t 35), none⟩,
  ⟨(some 6), .mv (.t 24), none⟩,
  ⟨(some 7), .mv (.t 36), none⟩] [(1, 11), (3, 11), (6, 11), (8, 11), (11, 14), (11, 16), (11, 18), (11, 20), (1, 23), (3, 23), (6, 23), (8, 23), (14, 23), (16, 23), (18, 23), (20, 23)])
(.seq (.seq (.rg [⟨(some 37), .mv (.t 7), none⟩,
  ⟨(some 38), .bin .lss (.t 37) (.k (.d (.int .i64 0))), none⟩])
(.cond (.t 38)
  (.rg [⟨(some 39), .mv (.t 6), none⟩,
    ⟨(some 40), .un .neg (.t 39), none⟩,
    ⟨(some 41), .mv (.t 7), none⟩,
    ⟨(some 42), .un .neg (.t 41), none⟩,
    ⟨(some 6), .mv (.t 40), none⟩,
    ⟨(some 7), .mv (.t 42), none⟩])
  .skip))
(.seq (.rg [⟨(some 43), .mv (.t 6), none⟩,
  ⟨(some 44), .mv (.t 7), none⟩,
  ⟨(some 45), .call (.k (.fn 136 [])) [(.t 43), (.t 44)], none⟩,
  ⟨(some 46), .call (.k (.fn 118 [])) [(.t 45), (.k (.d (.int .i64 4)))], none⟩,
  ⟨(some 47), .ext (.t 46) 0, none⟩,
  ⟨(some 48), .ext (.t 46) 1, none⟩,
  ⟨none, .st 2 (.t 4) (.t 47), none⟩,
  ⟨(some 5), .mv (.t 48), none⟩])
.ret))))) }
theorem af121_ok : cFun Tryz.prog eqT Tryz.f121 = some af121 := by kernel_rfl
/-- dossier/eval.sum -/
noncomputable def af122 : AFun := { np := 1, nt := 31, res := [.c 2 (some 6), .t 3], code :=
(.seq (.rg [⟨(some 2), .new [.d (.int .i64 0), .d (.bool false), .d (.int .i64 0), .d (.int .i64 0), .d (.str []), .nils], none⟩,
  ⟨(some 3), .mv (.k (.d (.int .i64 0))), none⟩])
(.seq (.rg [⟨(some 9), .build [.int .i64 0, .int .i64 0] [], none⟩,
  ⟨(some 4), .new [.d (.int .i64 0), .d (.int .i64 0)], none⟩,
  ⟨none, .st 2 (.t 4) (.t 9), none⟩])
(.seq (.seq (.rg [⟨(some 10), .mv (.t 0), none⟩,
  ⟨(some 11), .lenq false (.t 10), none⟩,
  ⟨(some 12), .mv (.k (.d (.int .i64 0))), none⟩])
(.block 0
  (.loop
    (.seq (.rg [⟨(some 13), .bin .lss (.t 12) (.t 11), none⟩])
    (.seq (.cond (.t 13)
      .skip
      (.exit 0))
    (.seq (.block 1
      (.seq (.rg [⟨(some 14), .iad 6 (.t 10) (.t 12), none⟩,
        ⟨(some 15), .ld (some 6) (.t 14), none⟩,
        ⟨(some 6), .new [.d (.int .i64 0), .d (.bool false), .d (.int .i64 0), .d (.int .i64 0), .d (.str []), .nils], none⟩,
        ⟨none, .st 6 (.t 6) (.t 15), none⟩])
      (.seq (.rg [⟨(some 17), .ld (some 2) (.t 4), none⟩,
        ⟨(some 18), .fad (.t 6) 2, none⟩,
        ⟨(some 19), .ld (some 2) (.t 18), none⟩,
        ⟨(some 20), .call (.k (.fn 82 [])) [(.t 17), (.t 19)], none⟩,
        ⟨(some 16), .mv (.t 20), none⟩,
        ⟨(some 21), .ext (.t 16) 0, none⟩,
        ⟨(some 22), .ext (.t 16) 1, none⟩,
        ⟨(some 7), .new [.d (.int .i64 0), .d (.int .i64 0)], none⟩,
        ⟨none, .st 2 (.t 7) (.t 21), none⟩,
        ⟨(some 8), .mv (.t 22), none⟩])
      (.seq (.seq (.rg [⟨(some 23), .mv (.t 8), none⟩,
        ⟨(some 24), .bin .neq (.t 23) (.k (.d (.int .i64 0))), none⟩])
      (.cond (.t 24)
        (.seq (.rg [⟨(some 25), .build [.int .i64 0, .bool false, .int .i64 0, .int .i64 0, .str [], .sl []] [], none⟩,
          ⟨(some 26), .mv (.t 8), none⟩,
          ⟨none, .st 6 (.t 2) (.t 25), none⟩,
          ⟨(some 3), .mv (.t 26), none⟩])
        .ret)
        .skip))
      (.rg [⟨(some 27), .ld (some 2) (.t 7), none⟩,
        ⟨none, .st 2 (.t 4) (.t 27), none⟩])))))
    (.rg [⟨(some 28), .bin .add (.t 12) (.k (.d (.int .i64 1))), none⟩,
      ⟨(some 12), .mv (.t 28), none⟩])))))))
(.seq (.rg [⟨(some 29), .ld (some 2) (.t 4), none⟩,
  ⟨(some 30), .call (.k (.fn 46 [])) [(.t 29)], none⟩,
  ⟨none, .st 6 (.t 2) (.t 30), none⟩,
  ⟨(some 3), .mv (.k (.d (.int .i64 0))), none⟩])
.ret)))) }
theorem af122_ok : cFun Tryz.prog eqT Tryz.f122 = some af122 := by kernel_rfl
/-- strings.HasPrefix -/
noncomputable def af123 : AFun := { np := 2, nt := 8, res := [.t 4], code :=
(.seq (.rg [⟨(some 4), .mv (.k (.d (.bool false))), none⟩])
(.seq (.rg [⟨(some 5), .mv (.t 0), none⟩,
  ⟨(some 6), .mv (.t 1), none⟩,
  ⟨(some 7), .call (.k (.fn 138 [])) [(.t 5), (.t 6)], none⟩,
  ⟨(some 4), .mv (.t 7), none⟩])
.ret)) }
theorem af123_ok : cFun Tryz.prog eqT Tryz.f123 = some af123 := by kernel_rfl
/-- dossier/dec.Floor -/
noncomputable def af124 : AFun := { np := 1, nt := 16, res := [.c 2 (some 2)], code :=
(.seq (.rg [⟨(some 1), .box (.t 0), none⟩,
  ⟨(some 2), .new [.d (.int .i64 0), .d (.int .i64 0)], none⟩])
(.seq (.rd [⟨(some 6), .fad (.t 1) 0, none⟩,
  ⟨(some 7), .ld none (.t 6), none⟩,
  ⟨(some 8), .fad (.t 1) 1, none⟩,
  ⟨(some 9), .ld none (.t 8), none⟩,
  ⟨(some 10), .call (.k (.fn 132 [])) [(.t 9)], none⟩,
  ⟨(some 11), .call (.k (.fn 139 [])) [(.t 7), (.t 10)], none⟩,
  ⟨(some 5), .mv (.t 11), none⟩,
  ⟨(some 12), .ext (.t 5) 0, none⟩,
  ⟨(some 13), .ext (.t 5) 1, none⟩,
  ⟨(some 3), .mv (.t 12), none⟩,
  ⟨(some 4), .mv (.t 13), none⟩] [(1, 4), (3, 5)])
(.seq (.rg [⟨(some 14), .mv (.t 3), none⟩,
  ⟨(some 15), .build [.int .i64 0, .int .i64 0] [(0, 1, (.t 14))], none⟩,
  ⟨none, .st 2 (.t 2) (.t 15), none⟩])
.ret))) }
theorem af124_ok : cFun Tryz.prog eqT Tryz.f124 = some af124 := by kernel_rfl
/-- dossier/dec.Ceil -/
noncomputable def af125 : AFun := { np := 1, nt := 18, res := [.c 2 (some 2)], code :=
(.seq (.rg [⟨(some 1), .box (.t 0), none⟩,
  ⟨(some 2), .new [.d (.int .i64 0), .d (.int .i64 0)], none⟩])
(.seq (.rd [⟨(some 6), .fad (.t 1) 0, none⟩,
  ⟨(some 7), .ld none (.t 6), none⟩,
  ⟨(some 8), .un .neg (.t 7), none⟩,
  ⟨(some 9), .fad (.t 1) 1, none⟩,
  ⟨(some 10), .ld none (.t 9), none⟩,
  ⟨(some 11), .call (.k (.fn 132 [])) [(.t 10)], none⟩,
  ⟨(some 12), .call (.k (.fn 139 [])) [(.t 8), (.t 11)], none⟩,
  ⟨(some 5), .mv (.t 12), none⟩,
  ⟨(some 13), .ext (.t 5) 0, none⟩,
  ⟨(some 14), .ext (.t 5) 1, none⟩,
  ⟨(some 3), .mv (.t 13), none⟩,
  ⟨(some 4), .mv (.t 14), none⟩] [(1, 5), (1, 6), (4, 6)])
(.seq (.rg [⟨(some 15), .mv (.t 3), none⟩,
  ⟨(some 16), .un .neg (.t 15), none⟩,
  ⟨(some 17), .build [.int .i64 0, .int .i64 0] [(0, 1, (.t 16))], none⟩,
  ⟨none, .st 2 (.t 2) (.t 17), none⟩])
.ret))) }
theorem af125_ok : cFun Tryz.prog eqT Tryz.f125 = some af125 := by kernel_rfl
/-- dossier/eval.mod -/
noncomputable def af126 : AFun := { np := 2, nt := 12, res := [.t 4], code :=
(.seq (.rg [⟨(some 4), .mv (.k (.d (.int .i64 0))), none⟩])
(.seq (.rg [⟨(some 5), .mv (.t 0), none⟩,
  ⟨(some 6), .mv (.t 1), none⟩,
  ⟨(some 7), .bin .rem (.t 5) (.t 6), none⟩,
  ⟨(some 8), .mv (.t 1), none⟩,
  ⟨(some 9), .bin .add (.t 7) (.t 8), none⟩,
  ⟨(some 10), .mv (.t 1), none⟩,
  ⟨(some 11), .bin .rem (.t 9) (.t 10), none⟩,
  ⟨(some 4), .mv (.t 11), none⟩])
.ret)) }
theorem af126_ok : cFun Tryz.prog eqT Tryz.f126 = some af126 := by kernel_rfl
/-- dossier/dossierref1.Fit -/
noncomputable def af127 : AFun := { np := 2, nt := 56, res := [.c 4 (some 2), .t 5], code :=
(.seq (.rg [⟨(some 4), .new [.d (.int .i64 0), .d (.int .i64 0)], none⟩,
  ⟨(some 5), .mv (.k (.d (.int .i64 0))), none⟩])
(.seq (.seq (.rg [⟨(some 8), .mv (.t 0), none⟩,
  ⟨(some 9), .bin .lss (.t 8) (.k (.d (.int .i64 (-1000000000000000000)))), none⟩,
  ⟨(some 10), .mv (.t 9), none⟩,
  ⟨(some 11), .mv (.t 0), some (10, false)⟩,
  ⟨(some 12), .bin .gtr (.t 11) (.k (.d (.int .i64 1000000000000000000))), some (10, false)⟩,
  ⟨(some 13), .pick (.t 10) (.k (.d (.bool true))) (.t 12), none⟩,
  ⟨(some 14), .mv (.t 13), none⟩,
  ⟨(some 15), .mv (.t 1), some (14, false)⟩,
  ⟨(some 16), .bin .lss (.t 15) (.k (.d (.int .i64 0))), some (14, false)⟩,
  ⟨(some 17), .pick (.t 14) (.k (.d (.bool true))) (.t 16), none⟩,
  ⟨(some 18), .mv (.t 17), none⟩,
  ⟨(some 19), .mv (.t 1), some (18, false)⟩,
  ⟨(some 20), .bin .gtr (.t 19) (.k (.d (.int .i64 8))), some (18, false)⟩,
  ⟨(some 21), .pick (.t 18) (.k (.d (.bool true))) (.t 20), none⟩])
(.cond (.t 21)
  (.seq (.rg [⟨(some 22), .build [.int .i64 0, .int .i64 0] [], none⟩,
    ⟨none, .st 2 (.t 4) (.t 22), none⟩,
    ⟨(some 5), .mv (.k (.d (.int .i64 1))), none⟩])
  .ret)
  .skip))
(.seq (.seq (.rg [⟨(some 23), .mv (.t 1), none⟩,
  ⟨(some 24), .mm false (.t 23) [(.k (.d (.int .i64 4)))], none⟩,
  ⟨(some 6), .mv (.t 24), none⟩])
(.block 0
  (.loop
    (.seq (.seq (.rg [⟨(some 25), .mv (.t 6), none⟩,
      ⟨(some 26), .bin .geq (.t 25) (.k (.d (.int .i64 0))), none⟩])
    (.cond (.t 26)
      .skip
      (.exit 0)))
    (.seq (.block 1
      (.seq (.rg [⟨(some 29), .mv (.t 0), none⟩,
        ⟨(some 30), .mv (.t 1), none⟩,
        ⟨(some 31), .mv (.t 6), none⟩,
        ⟨(some 32), .bin .sub (.t 30) (.t 31), none⟩,
        ⟨(some 33), .call (.k (.fn 109 [])) [(.t 32)], none⟩,
        ⟨(some 34), .call (.k (.fn 128 [])) [(.t 29), (.t 33)], none⟩,
        ⟨(some 7), .mv (.t 34), none⟩])
      (.seq (.rg [⟨(some 35), .mv (.t 7), none⟩,
        ⟨(some 36), .bin .geq (.t 35) (.k (.d (.int .i64 (-1000000000)))), none⟩,
        ⟨(some 37), .mv (.t 36), none⟩,
        ⟨(some 38), .mv (.t 7), some (37, true)⟩,
        ⟨(some 39), .bin .leq (.t 38) (.k (.d (.int .i64 1000000000))), some (37, true)⟩,
        ⟨(some 40), .pick (.t 37) (.t 39) (.k (.d (.bool false))), none⟩])
      (.cond (.t 40)
        (.seq (.block 2
          (.loop
            (.seq (.seq (.rg [⟨(some 41), .mv (.t 6), none⟩,
              ⟨(some 42), .bin .gtr (.t 41) (.k (.d (.int .i64 0))), none⟩,
              ⟨(some 43), .mv (.t 42), none⟩,
              ⟨(some 44), .mv (.t 7), some (43, true)⟩,
              ⟨(some 45), .bin .rem (.t 44) (.k (.d (.int .i64 10))), some (43, true)⟩,
              ⟨(some 46), .bin .eql (.t 45) (.k (.d (.int .i64 0))), some (43, true)⟩,
              ⟨(some 47), .pick (.t 43) (.t 46) (.k (.d (.bool false))), none⟩])
            (.cond (.t 47)
              .skip
              (.exit 2)))
            (.block 3
              (.rg [⟨(some 48), .mv (.t 7), none⟩,
                ⟨(some 49), .bin .quo (.t 48) (.k (.d (.int .i64 10))), none⟩,
                ⟨(some 50), .mv (.t 6), none⟩,
                ⟨(some 51), .bin .sub (.t 50) (.k (.d (.int .i64 1))), none⟩,
                ⟨(some 7), .mv (.t 49), none⟩,
                ⟨(some 6), .mv (.t 51), none⟩])))))
        (.seq (.rg [⟨(some 52), .mv (.t 7), none⟩,
          ⟨(some 53), .mv (.t 6), none⟩,
          ⟨(some 54), .build [.int .i64 0, .int .i64 0] [(0, 1, (.t 52)), (1, 1, (.t 53))], none⟩,
          ⟨none, .st 2 (.t 4) (.t 54), none⟩,
          ⟨(some 5), .mv (.k (.d (.int .i64 0))), none⟩])
        .ret))
        .skip))))
    (.rg [⟨(some 27), .mv (.t 6), none⟩,
      ⟨(some 28), .bin .sub (.t 27) (.k (.d (.int .i64 1))), none⟩,
      ⟨(some 6), .mv (.t 28), none⟩]))))))
(.seq (.rg [⟨(some 55), .build [.int .i64 0, .int .i64 0] [], none⟩,
  ⟨none, .st 2 (.t 4) (.t 55), none⟩,
  ⟨(some 5), .mv (.k (.d (.int .i64 3))), none⟩])
.ret)))) }
theorem af127_ok : cFun Tryz.prog eqT Tryz.f127 = some af127 := by kernel_rfl
/-- dossier/dossierref1.half -/
noncomputable def af128 : AFun := { np := 2, nt := 40, res := [.t 4], code :=
(.seq (.rg [⟨(some 4), .mv (.k (.d (.int .i64 0))), none⟩])
(.seq (.rd [⟨(some 7), .mv (.t 0), none⟩,
  ⟨(some 8), .mv (.t 1), none⟩,
  ⟨(some 9), .bin .quo (.t 7) (.t 8), none⟩,
  ⟨(some 10), .mv (.t 0), none⟩,
  ⟨(some 11), .mv (.t 1), none⟩,
  ⟨(some 12), .bin .rem (.t 10) (.t 11), none⟩,
  ⟨(some 5), .mv (.t 9), none⟩,
  ⟨(some 6), .mv (.t 12), none⟩] [])
(.seq (.seq (.rg [⟨(some 13), .mv (.t 6), none⟩,
  ⟨(some 14), .bin .lss (.t 13) (.k (.d (.int .i64 0))), none⟩])
(.cond (.t 14)
  (.rg [⟨(some 15), .mv (.t 5), none⟩,
    ⟨(some 16), .bin .sub (.t 15) (.k (.d (.int .i64 1))), none⟩,
    ⟨(some 17), .mv (.t 6), none⟩,
    ⟨(some 18), .mv (.t 1), none⟩,
    ⟨(some 19), .bin .add (.t 17) (.t 18), none⟩,
    ⟨(some 5), .mv (.t 16), none⟩,
    ⟨(some 6), .mv (.t 19), none⟩])
  .skip))
(.seq (.seq (.rg [⟨(some 20), .mv (.t 6), none⟩,
  ⟨(some 21), .mv (.t 1), none⟩,
  ⟨(some 22), .mv (.t 6), none⟩,
  ⟨(some 23), .bin .sub (.t 21) (.t 22), none⟩,
  ⟨(some 24), .bin .gtr (.t 20) (.t 23), none⟩,
  ⟨(some 25), .mv (.t 24), none⟩,
  ⟨(some 26), .mv (.t 6), some (25, false)⟩,
  ⟨(some 27), .mv (.t 1), some (25, false)⟩,
  ⟨(some 28), .mv (.t 6), some (25, false)⟩,
  ⟨(some 29), .bin .sub (.t 27) (.t 28), some (25, false)⟩,
  ⟨(some 30), .bin .eql (.t 26) (.t 29), some (25, false)⟩,
  ⟨(some 31), .mv (.t 30), some (25, false)⟩,
  ⟨(some 32), .mv (.t 5), some (31, true)⟩,
  ⟨(some 33), .bin .and (.t 32) (.k (.d (.int .i64 1))), some (31, true)⟩,
  ⟨(some 34), .bin .eql (.t 33) (.k (.d (.int .i64 1))), some (31, true)⟩,
  ⟨(some 35), .pick (.t 31) (.t 34) (.k (.d (.bool false))), some (25, false)⟩,
  ⟨(some 36), .pick (.t 25) (.k (.d (.bool true))) (.t 35), none⟩])
(.cond (.t 36)
  (.rg [⟨(some 37), .mv (.t 5), none⟩,
    ⟨(some 38), .bin .add (.t 37) (.k (.d (.int .i64 1))), none⟩,
    ⟨(some 5), .mv (.t 38), none⟩])
  .skip))
(.seq (.rg [⟨(some 39), .mv (.t 5), none⟩,
  ⟨(some 4), .mv (.t 39), none⟩])
.ret))))) }
theorem af128_ok : cFun Tryz.prog eqT Tryz.f128 = some af128 := by kernel_rfl
/-- (*dossier/dossierref4.reader).fail -/
noncomputable def af129 : AFun := { np := 2, nt := 18, res := [], code :=
(.seq (.rg [⟨(some 4), .mv (.t 0), none⟩,
  ⟨(some 5), .nilck (.t 4), none⟩,
  ⟨(some 6), .fad (.t 5) 3, none⟩,
  ⟨(some 7), .ld none (.t 6), none⟩,
  ⟨(some 8), .bin .eql (.t 7) (.k (.d (.int .i64 0))), none⟩])
(.cond (.t 8)
  (.rg [⟨(some 9), .mv (.t 0), none⟩,
    ⟨(some 10), .mv (.t 0), none⟩,
    ⟨(some 11), .mv (.t 1), none⟩,
    ⟨(some 12), .mv (.t 0), none⟩,
    ⟨(some 13), .call (.k (.fn 140 [])) [(.t 12)], none⟩,
    ⟨(some 14), .nilck (.t 9), none⟩,
    ⟨(some 15), .fad (.t 14) 3, none⟩,
    ⟨none, .st 1 (.t 15) (.t 11), none⟩,
    ⟨(some 16), .nilck (.t 10), none⟩,
    ⟨(some 17), .fad (.t 16) 4, none⟩,
    ⟨none, .st 1 (.t 17) (.t 13), none⟩])
  .skip)) }
theorem af129_ok : cFun Tryz.prog eqT Tryz.f129 = some af129 := by kernel_rfl
/-- (*dossier/dossierref4.reader).cmp -/
noncomputable def af130 : AFun := { np := 2, nt := 56, res := [.c 4 (some 8)], code :=
(.seq (.rg [⟨(some 4), .new [.d (.int .i64 0), .d (.bool false), .d (.int .i64 0), .d (.int .i64 0), .d (.str []), .d (.bool false), .d (.bool false), .nils], none⟩])
(.seq (.rg [⟨(some 11), .mv (.t 0), none⟩,
  ⟨(some 12), .mv (.t 1), none⟩,
  ⟨(some 13), .call (.k (.fn 141 [])) [(.t 11), (.t 12)], none⟩,
  ⟨(some 5), .new [.d (.int .i64 0), .d (.bool false), .d (.int .i64 0), .d (.int .i64 0), .d (.str []), .d (.bool false), .d (.bool false), .nils], none⟩,
  ⟨none, .st 8 (.t 5) (.t 13), none⟩])
(.seq (.rg [⟨(some 14), .mv (.t 0), none⟩,
  ⟨(some 15), .mkrow 9 1 [(.k (.d (.str [60]))), (.k (.d (.str [60, 61]))), (.k (.d (.str [62]))), (.k (.d (.str [62, 61]))), (.k (.d (.str [61]))), (.k (.d (.str [33, 61])))], none⟩,
  ⟨(some 16), .call (.k (.fn 104 [])) [(.t 14), (.t 15)], none⟩,
  ⟨(some 6), .mv (.t 16), none⟩])
(.seq (.seq (.rg [⟨(some 17), .mv (.t 6), none⟩,
  ⟨(some 18), .bin .neq (.t 17) (.k (.d (.str []))), none⟩])
(.cond (.t 18)
  (.seq (.rd [⟨(some 19), .mv (.t 6), none⟩,
    ⟨(some 20), .ld (some 8) (.t 5), none⟩,
    ⟨(some 21), .mv (.t 0), none⟩,
    ⟨(some 22), .mv (.t 1), none⟩,
    ⟨(some 23), .call (.k (.fn 141 [])) [(.t 21), (.t 22)], none⟩,
    ⟨(some 24), .call (.k (.fn 105 [])) [(.t 19), (.t 20), (.t 23)], none⟩,
    ⟨none, .st 8 (.t 4) (.t 24), none⟩] [(1, 4)])
  .ret)
  .skip))
(.seq (.seq (.rg [⟨(some 25), .mv (.t 0), none⟩,
  ⟨(some 26), .mkrow 9 1 [(.k (.d (.str [105, 110])))], none⟩,
  ⟨(some 27), .call (.k (.fn 104 [])) [(.t 25), (.t 26)], none⟩,
  ⟨(some 28), .bin .eql (.t 27) (.k (.d (.str []))), none⟩])
(.cond (.t 28)
  (.seq (.rg [⟨(some 29), .ld (some 8) (.t 5), none⟩,
    ⟨none, .st 8 (.t 4) (.t 29), none⟩])
  .ret)
  .skip))
(.seq (.rg [⟨(some 30), .mv (.t 0), none⟩,
  ⟨(some 31), .mkrow 9 1 [(.k (.d (.str [91]))), (.k (.d (.str [40])))], none⟩,
  ⟨(some 32), .call (.k (.fn 142 [])) [(.t 30), (.t 31)], none⟩,
  ⟨(some 33), .bin .eql (.t 32) (.k (.d (.str [91]))), none⟩,
  ⟨(some 7), .mv (.t 33), none⟩])
(.seq (.rg [⟨(some 34), .mv (.t 0), none⟩,
  ⟨(some 35), .mv (.t 1), none⟩,
  ⟨(some 36), .bin .add (.t 35) (.k (.d (.int .i64 1))), none⟩,
  ⟨(some 37), .call (.k (.fn 68 [])) [(.t 34), (.t 36)], none⟩,
  ⟨(some 8), .new [.d (.int .i64 0), .d (.bool false), .d (.int .i64 0), .d (.int .i64 0), .d (.str []), .d (.bool false), .d (.bool false), .nils], none⟩,
  ⟨none, .st 8 (.t 8) (.t 37), none⟩])
(.seq (.rg [⟨(some 38), .mv (.t 0), none⟩,
  ⟨(some 39), .mkrow 9 1 [(.k (.d (.str [46, 46])))], none⟩,
  ⟨(some 40), .call (.k (.fn 142 [])) [(.t 38), (.t 39)], none⟩])
(.seq (.rg [⟨(some 41), .mv (.t 0), none⟩,
  ⟨(some 42), .mv (.t 1), none⟩,
  ⟨(some 43), .bin .add (.t 42) (.k (.d (.int .i64 1))), none⟩,
  ⟨(some 44), .call (.k (.fn 68 [])) [(.t 41), (.t 43)], none⟩,
  ⟨(some 9), .new [.d (.int .i64 0), .d (.bool false), .d (.int .i64 0), .d (.int .i64 0), .d (.str []), .d (.bool false), .d (.bool false), .nils], none⟩,
  ⟨none, .st 8 (.t 9) (.t 44), none⟩])
(.seq (.rg [⟨(some 45), .mv (.t 0), none⟩,
  ⟨(some 46), .mkrow 9 1 [(.k (.d (.str [93]))), (.k (.d (.str [41])))], none⟩,
  ⟨(some 47), .call (.k (.fn 142 [])) [(.t 45), (.t 46)], none⟩,
  ⟨(some 48), .bin .eql (.t 47) (.k (.d (.str [93]))), none⟩,
  ⟨(some 10), .mv (.t 48), none⟩])
(.seq (.rg [⟨(some 49), .mv (.t 7), none⟩,
  ⟨(some 50), .mv (.t 10), none⟩,
  ⟨(some 51), .ld (some 8) (.t 5), none⟩,
  ⟨(some 52), .ld (some 8) (.t 8), none⟩,
  ⟨(some 53), .ld (some 8) (.t 9), none⟩,
  ⟨(some 54), .mkrow 26 8 [(.t 51), (.t 52), (.t 53)], none⟩,
  ⟨(some 55), .build [.int .i64 0, .bool false, .int .i64 0, .int .i64 0, .str [], .bool false, .bool false, .sl []] [(0, 1, (.k (.d (.int .i64 11)))), (5, 1, (.t 49)), (6, 1, (.t 50)), (7, 1, (.t 54))], none⟩,
  ⟨none, .st 8 (.t 4) (.t 55), none⟩])
.ret))))))))))) }
theorem af130_ok : cFun Tryz.prog eqT Tryz.f130 = some af130 := by kernel_rfl
/-- (*dossier/dossierref4.reader).is -/
noncomputable def af131 : AFun := { np := 2, nt := 51, res := [.t 4], code :=
(.seq (.rg [⟨(some 4), .mv (.k (.d (.bool false))), none⟩])
(.seq (.seq (.rd [⟨(some 6), .mv (.t 0), none⟩,
  ⟨(some 7), .nilck (.t 6), none⟩,
  ⟨(some 8), .fad (.t 7) 3, none⟩,
  ⟨(some 9), .ld none (.t 8), none⟩,
  ⟨(some 10), .bin .neq (.t 9) (.k (.d (.int .i64 0))), none⟩,
  ⟨(some 11), .mv (.t 10), none⟩,
  ⟨(some 12), .mv (.t 0), some (11, false)⟩,
  ⟨(some 13), .nilck (.t 12), some (11, false)⟩,
  ⟨(some 14), .fad (.t 13) 1, some (11, false)⟩,
  ⟨(some 15), .ld none (.t 14), some (11, false)⟩,
  ⟨(some 16), .mv (.t 0), some (11, false)⟩,
  ⟨(some 17), .nilck (.t 16), some (11, false)⟩,
  ⟨(some 18), .fad (.t 17) 0, some (11, false)⟩,
  ⟨(some 19), .ld none (.t 18), some (11, false)⟩,
  ⟨(some 20), .lenq false (.t 19), some (11, false)⟩,
  ⟨(some 21), .bin .geq (.t 15) (.t 20), some (11, false)⟩,
  ⟨(some 22), .pick (.t 11) (.k (.d (.bool true))) (.t 21), none⟩] [])
(.cond (.t 22)
  (.seq (.rg [⟨(some 4), .mv (.k (.d (.bool false))), none⟩])
  .ret)
  .skip))
(.seq (.rd [⟨(some 23), .mv (.t 0), none⟩,
  ⟨(some 24), .nilck (.t 23), none⟩,
  ⟨(some 25), .fad (.t 24) 0, none⟩,
  ⟨(some 26), .ld none (.t 25), none⟩,
  ⟨(some 27), .mv (.t 0), none⟩,
  ⟨(some 28), .nilck (.t 27), none⟩,
  ⟨(some 29), .fad (.t 28) 1, none⟩,
  ⟨(some 30), .ld none (.t 29), none⟩,
  ⟨(some 31), .iad 3 (.t 26) (.t 30), none⟩,
  ⟨(some 32), .ld (some 3) (.t 31), none⟩,
  ⟨(some 5), .new [.d (.int .i64 0), .d (.str []), .d (.int .i64 0)], none⟩,
  ⟨none, .st 3 (.t 5) (.t 32), none⟩] [(3, 10), (7, 10), (9, 10)])
(.seq (.rg [⟨(some 33), .fad (.t 5) 1, none⟩,
  ⟨(some 34), .ld none (.t 33), none⟩,
  ⟨(some 35), .mv (.t 1), none⟩,
  ⟨(some 36), .bin .eql (.t 34) (.t 35), none⟩,
  ⟨(some 37), .mv (.t 36), none⟩,
  ⟨(some 38), .fad (.t 5) 0, some (37, true)⟩,
  ⟨(some 39), .ld none (.t 38), some (37, true)⟩,
  ⟨(some 40), .bin .eql (.t 39) (.k (.d (.int .i64 4))), some (37, true)⟩,
  ⟨(some 41), .mv (.t 40), some (37, true)⟩,
  ⟨(some 42), .fad (.t 5) 0, some (41, false)⟩,
  ⟨(some 43), .ld none (.t 42), some (41, false)⟩,
  ⟨(some 44), .bin .eql (.t 43) (.k (.d (.int .i64 1))), some (41, false)⟩,
  ⟨(some 45), .mv (.t 44), some (41, false)⟩,
  ⟨(some 46), .mv (.t 1), some (45, true)⟩,
  ⟨(some 47), .call (.k (.fn 101 [])) [(.t 46)], some (45, true)⟩,
  ⟨(some 48), .pick (.t 45) (.t 47) (.k (.d (.bool false))), some (41, false)⟩,
  ⟨(some 49), .pick (.t 41) (.k (.d (.bool true))) (.t 48), some (37, true)⟩,
  ⟨(some 50), .pick (.t 37) (.t 49) (.k (.d (.bool false))), none⟩,
  ⟨(some 4), .mv (.t 50), none⟩])
.ret)))) }
theorem af131_ok : cFun Tryz.prog eqT Tryz.f131 = some af131 := by kernel_rfl
/-- dossier/dec.power -/
noncomputable def af132 : AFun := { np := 1, nt := 11, res := [.t 2], code :=
(.seq (.rg [⟨(some 2), .mv (.k (.d (.int .i64 0))), none⟩])
(.seq (.rg [⟨(some 3), .mv (.k (.d (.int .i64 1))), none⟩])
(.seq (.seq (.rg [⟨(some 4), .mv (.t 0), none⟩,
  ⟨(some 5), .mv (.k (.d (.int .i64 0))), none⟩])
(.block 0
  (.loop
    (.seq (.rg [⟨(some 6), .bin .lss (.t 5) (.t 4), none⟩])
    (.seq (.cond (.t 6)
      .skip
      (.exit 0))
    (.seq (.block 1
      (.rg [⟨(some 7), .mv (.t 3), none⟩,
        ⟨(some 8), .bin .mul (.t 7) (.k (.d (.int .i64 10))), none⟩,
        ⟨(some 3), .mv (.t 8), none⟩]))
    (.rg [⟨(some 9), .bin .add (.t 5) (.k (.d (.int .i64 1))), none⟩,
      ⟨(some 5), .mv (.t 9), none⟩])))))))
(.seq (.rg [⟨(some 10), .mv (.t 3), none⟩,
  ⟨(some 2), .mv (.t 10), none⟩])
.ret)))) }
theorem af132_ok : cFun Tryz.prog eqT Tryz.f132 = some af132 := by kernel_rfl
/-- dossier/val.isText$1 -/
noncomputable def af133 : AFun := { np := 1, nt := 13, res := [.t 2], code :=
(.seq (.rg [⟨(some 2), .mv (.k (.d (.bool false))), none⟩])
(.seq (.rg [⟨(some 3), .mv (.t 0), none⟩,
  ⟨(some 4), .bin .lss (.t 3) (.k (.d (.int .i32 32))), none⟩,
  ⟨(some 5), .mv (.t 4), none⟩,
  ⟨(some 6), .mv (.t 0), some (5, false)⟩,
  ⟨(some 7), .bin .gtr (.t 6) (.k (.d (.int .i32 126))), some (5, false)⟩,
  ⟨(some 8), .pick (.t 5) (.k (.d (.bool true))) (.t 7), none⟩,
  ⟨(some 9), .mv (.t 8), none⟩,
  ⟨(some 10), .mv (.t 0), some (9, false)⟩,
  ⟨(some 11), .bin .eql (.t 10) (.k (.d (.int .i32 34))), some (9, false)⟩,
  ⟨(some 12), .pick (.t 9) (.k (.d (.bool true))) (.t 11), none⟩,
  ⟨(some 2), .mv (.t 12), none⟩])
.ret)) }
theorem af133_ok : cFun Tryz.prog eqT Tryz.f133 = some af133 := by kernel_rfl
/-- strings.IndexFunc -/
noncomputable def af134 : AFun := { np := 2, nt := 8, res := [.t 4], code :=
(.seq (.rg [⟨(some 4), .mv (.k (.d (.int .i64 0))), none⟩])
(.seq (.rg [⟨(some 5), .mv (.t 0), none⟩,
  ⟨(some 6), .mv (.t 1), none⟩,
  ⟨(some 7), .call (.k (.fn 143 [])) [(.t 5), (.t 6), (.k (.d (.bool true)))], none⟩,
  ⟨(some 4), .mv (.t 7), none⟩])
.ret)) }
theorem af134_ok : cFun Tryz.prog eqT Tryz.f134 = some af134 := by kernel_rfl
/-- slices.IndexFunc[[]dossier/api.Val,dossier/api.Val] -/
noncomputable def af135 : AFun := { np := 2, nt := 19, res := [.t 4], code :=
(.seq (.rg [⟨(some 4), .mv (.k (.d (.int .i64 0))), none⟩])
(.seq (.seq (.rg [⟨(some 6), .mv (.t 0), none⟩,
  ⟨(some 7), .lenq false (.t 6), none⟩,
  ⟨(some 8), .mv (.k (.d (.int .i64 0))), none⟩])
(.block 0
  (.loop
    (.seq (.rg [⟨(some 9), .bin .lss (.t 8) (.t 7), none⟩])
    (.seq (.cond (.t 9)
      .skip
      (.exit 0))
    (.seq (.block 1
      (.seq (.rg [⟨(some 10), .mv (.t 8), none⟩,
        ⟨(some 5), .mv (.t 10), none⟩])
      (.seq (.rg [⟨(some 11), .mv (.t 1), none⟩,
        ⟨(some 12), .mv (.t 0), none⟩,
        ⟨(some 13), .mv (.t 5), none⟩,
        ⟨(some 14), .iad 6 (.t 12) (.t 13), none⟩,
        ⟨(some 15), .ld (some 6) (.t 14), none⟩,
        ⟨(some 16), .call (.t 11) [(.t 15)], none⟩])
      (.cond (.t 16)
        (.seq (.rg [⟨(some 17), .mv (.t 5), none⟩,
          ⟨(some 4), .mv (.t 17), none⟩])
        .ret)
        .skip))))
    (.rg [⟨(some 18), .bin .add (.t 8) (.k (.d (.int .i64 1))), none⟩,
      ⟨(some 8), .mv (.t 18), none⟩])))))))
(.seq (.rg [⟨(some 4), .mv (.k (.d (.int .i64 (-1)))), none⟩])
.ret))) }
theorem af135_ok : cFun Tryz.prog eqT Tryz.f135 = some af135 := by kernel_rfl
/-- dossier/dec.round -/
noncomputable def af136 : AFun := { np := 2, nt := 33, res := [.t 4], code :=
(.seq (.rg [⟨(some 4), .mv (.k (.d (.int .i64 0))), none⟩])
(.seq (.rg [⟨(some 8), .mv (.t 0), none⟩,
  ⟨(some 9), .mv (.t 1), none⟩,
  ⟨(some 10), .call (.k (.fn 139 [])) [(.t 8), (.t 9)], none⟩,
  ⟨(some 7), .mv (.t 10), none⟩,
  ⟨(some 11), .ext (.t 7) 0, none⟩,
  ⟨(some 12), .ext (.t 7) 1, none⟩,
  ⟨(some 5), .mv (.t 11), none⟩,
  ⟨(some 6), .mv (.t 12), none⟩])
(.seq (.seq (.rg [⟨(some 13), .mv (.t 6), none⟩,
  ⟨(some 14), .mv (.t 1), none⟩,
  ⟨(some 15), .mv (.t 6), none⟩,
  ⟨(some 16), .bin .sub (.t 14) (.t 15), none⟩,
  ⟨(some 17), .bin .gtr (.t 13) (.t 16), none⟩,
  ⟨(some 18), .mv (.t 17), none⟩,
  ⟨(some 19), .mv (.t 6), some (18, false)⟩,
  ⟨(some 20), .mv (.t 1), some (18, false)⟩,
  ⟨(some 21), .mv (.t 6), some (18, false)⟩,
  ⟨(some 22), .bin .sub (.t 20) (.t 21), some (18, false)⟩,
  ⟨(some 23), .bin .eql (.t 19) (.t 22), some (18, false)⟩,
  ⟨(some 24), .mv (.t 23), some (18, false)⟩,
  ⟨(some 25), .mv (.t 5), some (24, true)⟩,
  ⟨(some 26), .bin .rem (.t 25) (.k (.d (.int .i64 2))), some (24, true)⟩,
  ⟨(some 27), .bin .neq (.t 26) (.k (.d (.int .i64 0))), some (24, true)⟩,
  ⟨(some 28), .pick (.t 24) (.t 27) (.k (.d (.bool false))), some (18, false)⟩,
  ⟨(some 29), .pick (.t 18) (.k (.d (.bool true))) (.t 28), none⟩])
(.cond (.t 29)
  (.seq (.rg [⟨(some 30), .mv (.t 5), none⟩,
    ⟨(some 31), .bin .add (.t 30) (.k (.d (.int .i64 1))), none⟩,
    ⟨(some 4), .mv (.t 31), none⟩])
  .ret)
  .skip))
(.seq (.rg [⟨(some 32), .mv (.t 5), none⟩,
  ⟨(some 4), .mv (.t 32), none⟩])
.ret)))) }
theorem af136_ok : cFun Tryz.prog eqT Tryz.f136 = some af136 := by kernel_rfl
/-- dossier/dec.bare -/
noncomputable def af137 : AFun := { np := 1, nt := 21, res := [.c 2 (some 2)], code :=
(.seq (.rg [⟨(some 1), .box (.t 0), none⟩,
  ⟨(some 2), .new [.d (.int .i64 0), .d (.int .i64 0)], none⟩])
(.seq (.block 0
  (.loop
    (.seq (.seq (.rg [⟨(some 3), .fad (.t 1) 1, none⟩,
      ⟨(some 4), .ld none (.t 3), none⟩,
      ⟨(some 5), .bin .gtr (.t 4) (.k (.d (.int .i64 0))), none⟩,
      ⟨(some 6), .mv (.t 5), none⟩,
      ⟨(some 7), .fad (.t 1) 0, some (6, true)⟩,
      ⟨(some 8), .ld none (.t 7), some (6, true)⟩,
      ⟨(some 9), .bin .rem (.t 8) (.k (.d (.int .i64 10))), some (6, true)⟩,
      ⟨(some 10), .bin .eql (.t 9) (.k (.d (.int .i64 0))), some (6, true)⟩,
      ⟨(some 11), .pick (.t 6) (.t 10) (.k (.d (.bool false))), none⟩])
    (.cond (.t 11)
      .skip
      (.exit 0)))
    (.block 1
      (.seq (.rg [⟨(some 12), .fad (.t 1) 0, none⟩,
        ⟨(some 13), .ld none (.t 12), none⟩,
        ⟨(some 14), .bin .quo (.t 13) (.k (.d (.int .i64 10))), none⟩,
        ⟨(some 15), .fad (.t 1) 0, none⟩,
        ⟨none, .st 1 (.t 15) (.t 14), none⟩])
      (.rg [⟨(some 16), .fad (.t 1) 1, none⟩,
        ⟨(some 17), .ld none (.t 16), none⟩,
        ⟨(some 18), .bin .sub (.t 17) (.k (.d (.int .i64 1))), none⟩,
        ⟨(some 19), .fad (.t 1) 1, none⟩,
        ⟨none, .st 1 (.t 19) (.t 18), none⟩]))))))
(.seq (.rg [⟨(some 20), .ld (some 2) (.t 1), none⟩,
  ⟨none, .st 2 (.t 2) (.t 20), none⟩])
.ret))) }
theorem af137_ok : cFun Tryz.prog eqT Tryz.f137 = some af137 := by kernel_rfl
/-- internal/stringslite.HasPrefix -/
noncomputable def af138 : AFun := { np := 2, nt := 18, res := [.t 4], code :=
(.seq (.rg [⟨(some 4), .mv (.k (.d (.bool false))), none⟩])
(.seq (.rg [⟨(some 5), .mv (.t 0), none⟩,
  ⟨(some 6), .lenq true (.t 5), none⟩,
  ⟨(some 7), .mv (.t 1), none⟩,
  ⟨(some 8), .lenq true (.t 7), none⟩,
  ⟨(some 9), .bin .geq (.t 6) (.t 8), none⟩,
  ⟨(some 10), .mv (.t 9), none⟩,
  ⟨(some 11), .mv (.t 0), some (10, true)⟩,
  ⟨(some 12), .mv (.t 1), some (10, true)⟩,
  ⟨(some 13), .lenq true (.t 12), some (10, true)⟩,
  ⟨(some 14), .ss (.t 11) none (some (.t 13)), some (10, true)⟩,
  ⟨(some 15), .mv (.t 1), some (10, true)⟩,
  ⟨(some 16), .bin .eql (.t 14) (.t 15), some (10, true)⟩,
  ⟨(some 17), .pick (.t 10) (.t 16) (.k (.d (.bool false))), none⟩,
  ⟨(some 4), .mv (.t 17), none⟩])
.ret)) }
theorem af138_ok : cFun Tryz.prog eqT Tryz.f138 = some af138 := by kernel_rfl
/-- dossier/dec.floor -/
noncomputable def af139 : AFun := { np := 2, nt := 23, res := [.t 4, .t 5], code :=
(.seq (.rg [⟨(some 4), .mv (.k (.d (.int .i64 0))), none⟩,
  ⟨(some 5), .mv (.k (.d (.int .i64 0))), none⟩])
(.seq (.rd [⟨(some 8), .mv (.t 0), none⟩,
  ⟨(some 9), .mv (.t 1), none⟩,
  ⟨(some 10), .bin .quo (.t 8) (.t 9), none⟩,
  ⟨(some 11), .mv (.t 0), none⟩,
  ⟨(some 12), .mv (.t 1), none⟩,
  ⟨(some 13), .bin .rem (.t 11) (.t 12), none⟩,
  ⟨(some 6), .mv (.t 10), none⟩,
  ⟨(some 7), .mv (.t 13), none⟩] [])
(.seq (.seq (.rg [⟨(some 14), .mv (.t 7), none⟩,
  ⟨(some 15), .bin .lss (.t 14) (.k (.d (.int .i64 0))), none⟩])
(.cond (.t 15)
  (.seq (.rg [⟨(some 16), .mv (.t 6), none⟩,
    ⟨(some 17), .bin .sub (.t 16) (.k (.d (.int .i64 1))), none⟩,
    ⟨(some 18), .mv (.t 7), none⟩,
    ⟨(some 19), .mv (.t 1), none⟩,
    ⟨(some 20), .bin .add (.t 18) (.t 19), none⟩,
    ⟨(some 4), .mv (.t 17), none⟩,
    ⟨(some 5), .mv (.t 20), none⟩])
  .ret)
  .skip))
(.seq (.rg [⟨(some 21), .mv (.t 6), none⟩,
  ⟨(some 22), .mv (.t 7), none⟩,
  ⟨(some 4), .mv (.t 21), none⟩,
  ⟨(some 5), .mv (.t 22), none⟩])
.ret)))) }
theorem af139_ok : cFun Tryz.prog eqT Tryz.f139 = some af139 := by kernel_rfl
/-- (*dossier/dossierref4.reader).here -/
noncomputable def af140 : AFun := { np := 1, nt := 28, res := [.t 2], code :=
(.seq (.rg [⟨(some 2), .mv (.k (.d (.int .i64 0))), none⟩])
(.seq (.seq (.rd [⟨(some 3), .mv (.t 0), none⟩,
  ⟨(some 4), .nilck (.t 3), none⟩,
  ⟨(some 5), .fad (.t 4) 1, none⟩,
  ⟨(some 6), .ld none (.t 5), none⟩,
  ⟨(some 7), .mv (.t 0), none⟩,
  ⟨(some 8), .nilck (.t 7), none⟩,
  ⟨(some 9), .fad (.t 8) 0, none⟩,
  ⟨(some 10), .ld none (.t 9), none⟩,
  ⟨(some 11), .lenq false (.t 10), none⟩,
  ⟨(some 12), .bin .lss (.t 6) (.t 11), none⟩] [])
(.cond (.t 12)
  (.seq (.rd [⟨(some 13), .mv (.t 0), none⟩,
    ⟨(some 14), .nilck (.t 13), none⟩,
    ⟨(some 15), .fad (.t 14) 0, none⟩,
    ⟨(some 16), .ld none (.t 15), none⟩,
    ⟨(some 17), .mv (.t 0), none⟩,
    ⟨(some 18), .nilck (.t 17), none⟩,
    ⟨(some 19), .fad (.t 18) 1, none⟩,
    ⟨(some 20), .ld none (.t 19), none⟩,
    ⟨(some 21), .iad 3 (.t 16) (.t 20), none⟩,
    ⟨(some 22), .fad (.t 21) 2, none⟩,
    ⟨(some 23), .ld none (.t 22), none⟩,
    ⟨(some 2), .mv (.t 23), none⟩] [])
  .ret)
  .skip))
(.seq (.rg [⟨(some 24), .mv (.t 0), none⟩,
  ⟨(some 25), .nilck (.t 24), none⟩,
  ⟨(some 26), .fad (.t 25) 2, none⟩,
  ⟨(some 27), .ld none (.t 26), none⟩,
  ⟨(some 2), .mv (.t 27), none⟩])
.ret))) }
theorem af140_ok : cFun Tryz.prog eqT Tryz.f140 = some af140 := by kernel_rfl
/-- (*dossier/dossierref4.reader).add -/
noncomputable def af141 : AFun := { np := 2, nt := 22, res := [.c 4 (some 8)], code :=
(.seq (.rg [⟨(some 4), .new [.d (.int .i64 0), .d (.bool false), .d (.int .i64 0), .d (.int .i64 0), .d (.str []), .d (.bool false), .d (.bool false), .nils], none⟩])
(.seq (.rg [⟨(some 7), .mv (.t 0), none⟩,
  ⟨(some 8), .mv (.t 1), none⟩,
  ⟨(some 9), .call (.k (.fn 144 [])) [(.t 7), (.t 8)], none⟩,
  ⟨(some 5), .new [.d (.int .i64 0), .d (.bool false), .d (.int .i64 0), .d (.int .i64 0), .d (.str []), .d (.bool false), .d (.bool false), .nils], none⟩,
  ⟨none, .st 8 (.t 5) (.t 9), none⟩])
(.block 0
  (.loop
    (.block 1
      (.seq (.rg [⟨(some 10), .mv (.t 0), none⟩,
        ⟨(some 11), .mkrow 9 1 [(.k (.d (.str [43]))), (.k (.d (.str [45])))], none⟩,
        ⟨(some 12), .call (.k (.fn 104 [])) [(.t 10), (.t 11)], none⟩,
        ⟨(some 6), .mv (.t 12), none⟩])
      (.seq (.seq (.rg [⟨(some 13), .mv (.t 6), none⟩,
        ⟨(some 14), .bin .eql (.t 13) (.k (.d (.str []))), none⟩])
      (.cond (.t 14)
        (.seq (.rg [⟨(some 15), .ld (some 8) (.t 5), none⟩,
          ⟨none, .st 8 (.t 4) (.t 15), none⟩])
        .ret)
        .skip))
      (.rd [⟨(some 16), .mv (.t 6), none⟩,
        ⟨(some 17), .ld (some 8) (.t 5), none⟩,
        ⟨(some 18), .mv (.t 0), none⟩,
        ⟨(some 19), .mv (.t 1), none⟩,
        ⟨(some 20), .call (.k (.fn 144 [])) [(.t 18), (.t 19)], none⟩,
        ⟨(some 21), .call (.k (.fn 105 [])) [(.t 16), (.t 17), (.t 20)], none⟩,
        ⟨none, .st 8 (.t 5) (.t 21), none⟩] [(1, 4)])))))))) }
theorem af141_ok : cFun Tryz.prog eqT Tryz.f141 = some af141 := by kernel_rfl
/-- (*dossier/dossierref4.reader).must -/
noncomputable def af142 : AFun := { np := 2, nt := 14, res := [.t 4], code :=
(.seq (.rg [⟨(some 4), .mv (.k (.d (.str []))), none⟩])
(.seq (.rg [⟨(some 6), .mv (.t 0), none⟩,
  ⟨(some 7), .mv (.t 1), none⟩,
  ⟨(some 8), .call (.k (.fn 104 [])) [(.t 6), (.t 7)], none⟩,
  ⟨(some 5), .mv (.t 8), none⟩])
(.seq (.seq (.rg [⟨(some 9), .mv (.t 5), none⟩,
  ⟨(some 10), .bin .eql (.t 9) (.k (.d (.str []))), none⟩])
(.cond (.t 10)
  (.rg [⟨(some 11), .mv (.t 0), none⟩,
    ⟨(some 12), .call (.k (.fn 129 [])) [(.t 11), (.k (.d (.int .i64 2)))], none⟩])
  .skip))
(.seq (.rg [⟨(some 13), .mv (.t 5), none⟩,
  ⟨(some 4), .mv (.t 13), none⟩])
.ret)))) }
theorem af142_ok : cFun Tryz.prog eqT Tryz.f142 = some af142 := by kernel_rfl
/-- (*dossier/dossierref4.reader).mul -/
noncomputable def af144 : AFun := { np := 2, nt := 22, res := [.c 4 (some 8)], code :=
(.seq (.rg [⟨(some 4), .new [.d (.int .i64 0), .d (.bool false), .d (.int .i64 0), .d (.int .i64 0), .d (.str []), .d (.bool false), .d (.bool false), .nils], none⟩])
(.seq (.rg [⟨(some 7), .mv (.t 0), none⟩,
  ⟨(some 8), .mv (.t 1), none⟩,
  ⟨(some 9), .call (.k (.fn 145 [])) [(.t 7), (.t 8)], none⟩,
  ⟨(some 5), .new [.d (.int .i64 0), .d (.bool false), .d (.int .i64 0), .d (.int .i64 0), .d (.str []), .d (.bool false), .d (.bool false), .nils], none⟩,
  ⟨none, .st 8 (.t 5) (.t 9), none⟩])
(.block 0
  (.loop
    (.block 1
      (.seq (.rg [⟨(some 10), .mv (.t 0), none⟩,
        ⟨(some 11), .mkrow 9 1 [(.k (.d (.str [42]))), (.k (.d (.str [47])))], none⟩,
        ⟨(some 12), .call (.k (.fn 104 [])) [(.t 10), (.t 11)], none⟩,
        ⟨(some 6), .mv (.t 12), none⟩])
      (.seq (.seq (.rg [⟨(some 13), .mv (.t 6), none⟩,
        ⟨(some 14), .bin .eql (.t 13) (.k (.d (.str []))), none⟩])
      (.cond (.t 14)
        (.seq (.rg [⟨(some 15), .ld (some 8) (.t 5), none⟩,
          ⟨none, .st 8 (.t 4) (.t 15), none⟩])
        .ret)
        .skip))
      (.rd [⟨(some 16), .mv (.t 6), none⟩,
        ⟨(some 17), .ld (some 8) (.t 5), none⟩,
        ⟨(some 18), .mv (.t 0), none⟩,
        ⟨(some 19), .mv (.t 1), none⟩,
        ⟨(some 20), .call (.k (.fn 145 [])) [(.t 18), (.t 19)], none⟩,
        ⟨(some 21), .call (.k (.fn 105 [])) [(.t 16), (.t 17), (.t 20)], none⟩,
        ⟨none, .st 8 (.t 5) (.t 21), none⟩] [(1, 4)])))))))) }
theorem af144_ok : cFun Tryz.prog eqT Tryz.f144 = some af144 := by kernel_rfl
/-- (*dossier/dossierref4.reader).unary -/
noncomputable def af145 : AFun := { np := 2, nt := 22, res := [.c 4 (some 8)], code :=
(.seq (.rg [⟨(some 4), .new [.d (.int .i64 0), .d (.bool false), .d (.int .i64 0), .d (.int .i64 0), .d (.str []), .d (.bool false), .d (.bool false), .nils], none⟩])
(.seq (.seq (.rg [⟨(some 5), .mv (.t 0), none⟩,
  ⟨(some 6), .mv (.t 1), none⟩,
  ⟨(some 7), .call (.k (.fn 102 [])) [(.t 5), (.t 6)], none⟩])
(.cond (.t 7)
  (.seq (.rg [⟨(some 8), .build [.int .i64 0, .bool false, .int .i64 0, .int .i64 0, .str [], .bool false, .bool false, .sl []] [], none⟩,
    ⟨none, .st 8 (.t 4) (.t 8), none⟩])
  .ret)
  .skip))
(.seq (.seq (.rg [⟨(some 9), .mv (.t 0), none⟩,
  ⟨(some 10), .mkrow 9 1 [(.k (.d (.str [45])))], none⟩,
  ⟨(some 11), .call (.k (.fn 104 [])) [(.t 9), (.t 10)], none⟩,
  ⟨(some 12), .bin .neq (.t 11) (.k (.d (.str []))), none⟩])
(.cond (.t 12)
  (.seq (.rg [⟨(some 13), .mv (.t 0), none⟩,
    ⟨(some 14), .mv (.t 1), none⟩,
    ⟨(some 15), .bin .add (.t 14) (.k (.d (.int .i64 1))), none⟩,
    ⟨(some 16), .call (.k (.fn 145 [])) [(.t 13), (.t 15)], none⟩,
    ⟨(some 17), .mkrow 26 8 [(.t 16)], none⟩,
    ⟨(some 18), .build [.int .i64 0, .bool false, .int .i64 0, .int .i64 0, .str [], .bool false, .bool false, .sl []] [(0, 1, (.k (.d (.int .i64 7)))), (7, 1, (.t 17))], none⟩,
    ⟨none, .st 8 (.t 4) (.t 18), none⟩])
  .ret)
  .skip))
(.seq (.rg [⟨(some 19), .mv (.t 0), none⟩,
  ⟨(some 20), .mv (.t 1), none⟩,
  ⟨(some 21), .call (.k (.fn 146 [])) [(.t 19), (.t 20)], none⟩,
  ⟨none, .st 8 (.t 4) (.t 21), none⟩])
.ret)))) }
theorem af145_ok : cFun Tryz.prog eqT Tryz.f145 = some af145 := by kernel_rfl
/-- (*dossier/dossierref4.reader).atom -/
noncomputable def af146 : AFun := { np := 2, nt := 162, res := [.c 4 (some 8)], code :=
(.seq (.rg [⟨(some 4), .new [.d (.int .i64 0), .d (.bool false), .d (.int .i64 0), .d (.int .i64 0), .d (.str []), .d (.bool false), .d (.bool false), .nils], none⟩])
(.seq (.seq (.rd [⟨(some 11), .mv (.t 0), none⟩,
  ⟨(some 12), .nilck (.t 11), none⟩,
  ⟨(some 13), .fad (.t 12) 3, none⟩,
  ⟨(some 14), .ld none (.t 13), none⟩,
  ⟨(some 15), .bin .neq (.t 14) (.k (.d (.int .i64 0))), none⟩,
  ⟨(some 16), .mv (.t 15), none⟩,
  ⟨(some 17), .mv (.t 0), some (16, false)⟩,
  ⟨(some 18), .nilck (.t 17), some (16, false)⟩,
  ⟨(some 19), .fad (.t 18) 1, some (16, false)⟩,
  ⟨(some 20), .ld none (.t 19), some (16, false)⟩,
  ⟨(some 21), .mv (.t 0), some (16, false)⟩,
  ⟨(some 22), .nilck (.t 21), some (16, false)⟩,
  ⟨(some 23), .fad (.t 22) 0, some (16, false)⟩,
  ⟨(some 24), .ld none (.t 23), some (16, false)⟩,
  ⟨(some 25), .lenq false (.t 24), some (16, false)⟩,
  ⟨(some 26), .bin .geq (.t 20) (.t 25), some (16, false)⟩,
  ⟨(some 27), .pick (.t 16) (.k (.d (.bool true))) (.t 26), none⟩] [])
(.cond (.t 27)
  (.seq (.rg [⟨(some 28), .mv (.t 0), none⟩,
    ⟨(some 29), .call (.k (.fn 129 [])) [(.t 28), (.k (.d (.int .i64 2)))], none⟩])
  (.seq (.rg [⟨(some 30), .build [.int .i64 0, .bool false, .int .i64 0, .int .i64 0, .str [], .bool false, .bool false, .sl []] [], none⟩,
    ⟨none, .st 8 (.t 4) (.t 30), none⟩])
  .ret))
  .skip))
(.seq (.rd [⟨(some 31), .mv (.t 0), none⟩,
  ⟨(some 32), .nilck (.t 31), none⟩,
  ⟨(some 33), .fad (.t 32) 0, none⟩,
  ⟨(some 34), .ld none (.t 33), none⟩,
  ⟨(some 35), .mv (.t 0), none⟩,
  ⟨(some 36), .nilck (.t 35), none⟩,
  ⟨(some 37), .fad (.t 36) 1, none⟩,
  ⟨(some 38), .ld none (.t 37), none⟩,
  ⟨(some 39), .iad 3 (.t 34) (.t 38), none⟩,
  ⟨(some 40), .ld (some 3) (.t 39), none⟩,
  ⟨(some 5), .new [.d (.int .i64 0), .d (.str []), .d (.int .i64 0)], none⟩,
  ⟨none, .st 3 (.t 5) (.t 40), none⟩] [(3, 10), (7, 10), (9, 10)])
(.seq (.block 0
  (.seq (.rg [⟨(some 42), .fad (.t 5) 0, none⟩,
    ⟨(some 43), .ld none (.t 42), none⟩,
    ⟨(some 44), .bin .eql (.t 43) (.k (.d (.int .i64 2))), none⟩,
    ⟨(some 41), .mv (.t 44), none⟩])
  (.cond (.t 41)
    (.seq (.rg [⟨(some 46), .fad (.t 5) 1, none⟩,
      ⟨(some 47), .ld none (.t 46), none⟩,
      ⟨(some 48), .call (.k (.fn 147 [])) [(.t 47)], none⟩,
      ⟨(some 45), .mv (.t 48), none⟩,
      ⟨(some 49), .ext (.t 45) 0, none⟩,
      ⟨(some 50), .ext (.t 45) 1, none⟩,
      ⟨(some 6), .new [.d (.int .i64 0), .d (.int .i64 0)], none⟩,
      ⟨none, .st 2 (.t 6) (.t 49), none⟩,
      ⟨(some 7), .mv (.t 50), none⟩])
    (.seq (.seq (.rg [⟨(some 51), .mv (.t 7), none⟩,
      ⟨(some 52), .bin .neq (.t 51) (.k (.d (.int .i64 0))), none⟩])
    (.cond (.t 52)
      (.rg [⟨(some 53), .mv (.t 0), none⟩,
        ⟨(some 54), .mv (.t 7), none⟩,
        ⟨(some 55), .call (.k (.fn 129 [])) [(.t 53), (.t 54)], none⟩])
      .skip))
    (.seq (.rg [⟨(some 56), .mv (.t 0), none⟩,
      ⟨(some 57), .nilck (.t 56), none⟩,
      ⟨(some 58), .fad (.t 57) 1, none⟩,
      ⟨(some 59), .ld none (.t 58), none⟩,
      ⟨(some 60), .bin .add (.t 59) (.k (.d (.int .i64 1))), none⟩,
      ⟨(some 61), .nilck (.t 56), none⟩,
      ⟨(some 62), .fad (.t 61) 1, none⟩,
      ⟨none, .st 1 (.t 62) (.t 60), none⟩])
    (.seq (.rg [⟨(some 63), .ld (some 2) (.t 6), none⟩,
      ⟨(some 64), .build [.int .i64 0, .bool false, .int .i64 0, .int .i64 0, .str [], .bool false, .bool false, .sl []] [(0, 1, (.k (.d (.int .i64 3)))), (2, 2, (.t 63))], none⟩,
      ⟨none, .st 8 (.t 4) (.t 64), none⟩])
    .ret))))
    (.seq (.rg [⟨(some 66), .fad (.t 5) 0, none⟩,
      ⟨(some 67), .ld none (.t 66), none⟩,
      ⟨(some 68), .bin .eql (.t 67) (.k (.d (.int .i64 3))), none⟩,
      ⟨(some 65), .mv (.t 68), none⟩])
    (.cond (.t 65)
      (.seq (.rg [⟨(some 69), .mv (.t 0), none⟩,
        ⟨(some 70), .nilck (.t 69), none⟩,
        ⟨(some 71), .fad (.t 70) 1, none⟩,
        ⟨(some 72), .ld none (.t 71), none⟩,
        ⟨(some 73), .bin .add (.t 72) (.k (.d (.int .i64 1))), none⟩,
        ⟨(some 74), .nilck (.t 69), none⟩,
        ⟨(some 75), .fad (.t 74) 1, none⟩,
        ⟨none, .st 1 (.t 75) (.t 73), none⟩])
      (.seq (.rg [⟨(some 76), .fad (.t 5) 1, none⟩,
        ⟨(some 77), .ld none (.t 76), none⟩,
        ⟨(some 78), .build [.int .i64 0, .bool false, .int .i64 0, .int .i64 0, .str [], .bool false, .bool false, .sl []] [(0, 1, (.k (.d (.int .i64 4)))), (4, 1, (.t 77))], none⟩,
        ⟨none, .st 8 (.t 4) (.t 78), none⟩])
      .ret))
      (.seq (.rg [⟨(some 80), .fad (.t 5) 0, none⟩,
        ⟨(some 81), .ld none (.t 80), none⟩,
        ⟨(some 82), .bin .eql (.t 81) (.k (.d (.int .i64 1))), none⟩,
        ⟨(some 83), .mv (.t 82), none⟩,
        ⟨(some 84), .fad (.t 5) 1, some (83, true)⟩,
        ⟨(some 85), .ld none (.t 84), some (83, true)⟩,
        ⟨(some 86), .call (.k (.fn 101 [])) [(.t 85)], some (83, true)⟩,
        ⟨(some 87), .un .not (.t 86), some (83, true)⟩,
        ⟨(some 88), .pick (.t 83) (.t 87) (.k (.d (.bool false))), none⟩,
        ⟨(some 79), .mv (.t 88), none⟩])
      (.cond (.t 79)
        (.seq (.rg [⟨(some 89), .mv (.t 0), none⟩,
          ⟨(some 90), .nilck (.t 89), none⟩,
          ⟨(some 91), .fad (.t 90) 1, none⟩,
          ⟨(some 92), .ld none (.t 91), none⟩,
          ⟨(some 93), .bin .add (.t 92) (.k (.d (.int .i64 1))), none⟩,
          ⟨(some 94), .nilck (.t 89), none⟩,
          ⟨(some 95), .fad (.t 94) 1, none⟩,
          ⟨none, .st 1 (.t 95) (.t 93), none⟩])
        (.seq (.seq (.rg [⟨(some 96), .mv (.t 0), none⟩,
          ⟨(some 97), .mkrow 9 1 [(.k (.d (.str [40])))], none⟩,
          ⟨(some 98), .call (.k (.fn 104 [])) [(.t 96), (.t 97)], none⟩,
          ⟨(some 99), .bin .neq (.t 98) (.k (.d (.str []))), none⟩])
        (.cond (.t 99)
          (.seq (.rd [⟨(some 100), .fad (.t 5) 1, none⟩,
            ⟨(some 101), .ld none (.t 100), none⟩,
            ⟨(some 102), .mv (.t 0), none⟩,
            ⟨(some 103), .mv (.t 1), none⟩,
            ⟨(some 104), .call (.k (.fn 148 [])) [(.t 102), (.t 103), (.k (.d (.str [41])))], none⟩,
            ⟨(some 105), .build [.int .i64 0, .bool false, .int .i64 0, .int .i64 0, .str [], .bool false, .bool false, .sl []] [(0, 1, (.k (.d (.int .i64 10)))), (4, 1, (.t 101)), (7, 1, (.t 104))], none⟩,
            ⟨none, .st 8 (.t 4) (.t 105), none⟩] [(1, 4)])
          .ret)
          .skip))
        (.seq (.rg [⟨(some 106), .fad (.t 5) 1, none⟩,
          ⟨(some 107), .ld none (.t 106), none⟩,
          ⟨(some 108), .build [.int .i64 0, .bool false, .int .i64 0, .int .i64 0, .str [], .bool false, .bool false, .sl []] [(0, 1, (.k (.d (.int .i64 5)))), (4, 1, (.t 107))], none⟩,
          ⟨none, .st 8 (.t 4) (.t 108), none⟩])
        .ret)))
        .skip)))))))
(.seq (.seq (.rg [⟨(some 109), .mv (.t 0), none⟩,
  ⟨(some 110), .mkrow 9 1 [(.k (.d (.str [116, 114, 117, 101]))), (.k (.d (.str [102, 97, 108, 115, 101]))), (.k (.d (.str [110, 117, 108, 108]))), (.k (.d (.str [40]))), (.k (.d (.str [91]))), (.k (.d (.str [105, 102])))], none⟩,
  ⟨(some 111), .call (.k (.fn 142 [])) [(.t 109), (.t 110)], none⟩])
(.block 1
  (.seq (.rg [⟨(some 113), .bin .eql (.t 111) (.k (.d (.str [116, 114, 117, 101]))), none⟩,
    ⟨(some 112), .mv (.t 113), none⟩])
  (.cond (.t 112)
    (.seq (.rg [⟨(some 114), .build [.int .i64 0, .bool false, .int .i64 0, .int .i64 0, .str [], .bool false, .bool false, .sl []] [(0, 1, (.k (.d (.int .i64 2)))), (1, 1, (.k (.d (.bool true))))], none⟩,
      ⟨none, .st 8 (.t 4) (.t 114), none⟩])
    .ret)
    (.seq (.rg [⟨(some 116), .bin .eql (.t 111) (.k (.d (.str [102, 97, 108, 115, 101]))), none⟩,
      ⟨(some 115), .mv (.t 116), none⟩])
    (.cond (.t 115)
      (.seq (.rg [⟨(some 117), .build [.int .i64 0, .bool false, .int .i64 0, .int .i64 0, .str [], .bool false, .bool false, .sl []] [(0, 1, (.k (.d (.int .i64 2))))], none⟩,
        ⟨none, .st 8 (.t 4) (.t 117), none⟩])
      .ret)
      (.seq (.rg [⟨(some 119), .bin .eql (.t 111) (.k (.d (.str [110, 117, 108, 108]))), none⟩,
        ⟨(some 118), .mv (.t 119), none⟩])
      (.cond (.t 118)
        (.seq (.rg [⟨(some 120), .build [.int .i64 0, .bool false, .int .i64 0, .int .i64 0, .str [], .bool false, .bool false, .sl []] [(0, 1, (.k (.d (.int .i64 1))))], none⟩,
          ⟨none, .st 8 (.t 4) (.t 120), none⟩])
        .ret)
        (.seq (.rg [⟨(some 122), .bin .eql (.t 111) (.k (.d (.str [40]))), none⟩,
          ⟨(some 121), .mv (.t 122), none⟩])
        (.cond (.t 121)
          (.seq (.rg [⟨(some 123), .mv (.t 0), none⟩,
            ⟨(some 124), .mv (.t 1), none⟩,
            ⟨(some 125), .bin .add (.t 124) (.k (.d (.int .i64 1))), none⟩,
            ⟨(some 126), .call (.k (.fn 68 [])) [(.t 123), (.t 125)], none⟩,
            ⟨(some 8), .new [.d (.int .i64 0), .d (.bool false), .d (.int .i64 0), .d (.int .i64 0), .d (.str []), .d (.bool false), .d (.bool false), .nils], none⟩,
            ⟨none, .st 8 (.t 8) (.t 126), none⟩])
          (.seq (.rg [⟨(some 127), .mv (.t 0), none⟩,
            ⟨(some 128), .mkrow 9 1 [(.k (.d (.str [41])))], none⟩,
            ⟨(some 129), .call (.k (.fn 142 [])) [(.t 127), (.t 128)], none⟩])
          (.seq (.rg [⟨(some 130), .ld (some 8) (.t 8), none⟩,
            ⟨none, .st 8 (.t 4) (.t 130), none⟩])
          .ret)))
          (.seq (.rg [⟨(some 132), .bin .eql (.t 111) (.k (.d (.str [91]))), none⟩,
            ⟨(some 131), .mv (.t 132), none⟩])
          (.cond (.t 131)
            (.seq (.rg [⟨(some 133), .mv (.t 0), none⟩,
              ⟨(some 134), .mv (.t 1), none⟩,
              ⟨(some 135), .call (.k (.fn 148 [])) [(.t 133), (.t 134), (.k (.d (.str [93])))], none⟩,
              ⟨(some 136), .build [.int .i64 0, .bool false, .int .i64 0, .int .i64 0, .str [], .bool false, .bool false, .sl []] [(0, 1, (.k (.d (.int .i64 9)))), (7, 1, (.t 135))], none⟩,
              ⟨none, .st 8 (.t 4) (.t 136), none⟩])
            .ret)
            (.seq (.rg [⟨(some 138), .bin .eql (.t 111) (.k (.d (.str [105, 102]))), none⟩,
              ⟨(some 137), .mv (.t 138), none⟩])
            (.cond (.t 137)
              (.seq (.rg [⟨(some 139), .mv (.t 0), none⟩,
                ⟨(some 140), .mv (.t 1), none⟩,
                ⟨(some 141), .bin .add (.t 140) (.k (.d (.int .i64 1))), none⟩,
                ⟨(some 142), .call (.k (.fn 68 [])) [(.t 139), (.t 141)], none⟩,
                ⟨(some 9), .new [.d (.int .i64 0), .d (.bool false), .d (.int .i64 0), .d (.int .i64 0), .d (.str []), .d (.bool false), .d (.bool false), .nils], none⟩,
                ⟨none, .st 8 (.t 9) (.t 142), none⟩])
              (.seq (.rg [⟨(some 143), .mv (.t 0), none⟩,
                ⟨(some 144), .mkrow 9 1 [(.k (.d (.str [116, 104, 101, 110])))], none⟩,
                ⟨(some 145), .call (.k (.fn 142 [])) [(.t 143), (.t 144)], none⟩])
              (.seq (.rg [⟨(some 146), .mv (.t 0), none⟩,
                ⟨(some 147), .mv (.t 1), none⟩,
                ⟨(some 148), .bin .add (.t 147) (.k (.d (.int .i64 1))), none⟩,
                ⟨(some 149), .call (.k (.fn 68 [])) [(.t 146), (.t 148)], none⟩,
                ⟨(some 10), .new [.d (.int .i64 0), .d (.bool false), .d (.int .i64 0), .d (.int .i64 0), .d (.str []), .d (.bool false), .d (.bool false), .nils], none⟩,
                ⟨none, .st 8 (.t 10) (.t 149), none⟩])
              (.seq (.rg [⟨(some 150), .mv (.t 0), none⟩,
                ⟨(some 151), .mkrow 9 1 [(.k (.d (.str [101, 108, 115, 101])))], none⟩,
                ⟨(some 152), .call (.k (.fn 142 [])) [(.t 150), (.t 151)], none⟩])
              (.seq (.rd [⟨(some 153), .ld (some 8) (.t 9), none⟩,
                ⟨(some 154), .ld (some 8) (.t 10), none⟩,
                ⟨(some 155), .mv (.t 0), none⟩,
                ⟨(some 156), .mv (.t 1), none⟩,
                ⟨(some 157), .bin .add (.t 156) (.k (.d (.int .i64 1))), none⟩,
                ⟨(some 158), .call (.k (.fn 68 [])) [(.t 155), (.t 157)], none⟩,
                ⟨(some 159), .mkrow 26 8 [(.t 153), (.t 154), (.t 158)], none⟩,
                ⟨(some 160), .build [.int .i64 0, .bool false, .int .i64 0, .int .i64 0, .str [], .bool false, .bool false, .sl []] [(0, 1, (.k (.d (.int .i64 8)))), (7, 1, (.t 159))], none⟩,
                ⟨none, .st 8 (.t 4) (.t 160), none⟩] [(0, 5), (1, 5)])
              .ret)))))
              .skip))))))))))))))
(.seq (.rg [⟨(some 161), .build [.int .i64 0, .bool false, .int .i64 0, .int .i64 0, .str [], .bool false, .bool false, .sl []] [], none⟩,
  ⟨none, .st 8 (.t 4) (.t 161), none⟩])
.ret)))))) }
theorem af146_ok : cFun Tryz.prog eqT Tryz.f146 = some af146 := by kernel_rfl
/-- dossier/dossierref1.Parse -/
noncomputable def af147 : AFun := { np := 1, nt := 103, res := [.c 2 (some 2), .t 3], code :=
(.seq (.rg [⟨(some 2), .new [.d (.int .i64 0), .d (.int .i64 0)], none⟩,
  ⟨(some 3), .mv (.k (.d (.int .i64 0))), none⟩])
(.seq (.rg [⟨(some 4), .mv (.k (.d (.int .i64 0))), none⟩])
(.seq (.seq (.rg [⟨(some 10), .mv (.t 0), none⟩,
  ⟨(some 11), .lenq true (.t 10), none⟩,
  ⟨(some 12), .bin .gtr (.t 11) (.k (.d (.int .i64 0))), none⟩,
  ⟨(some 13), .mv (.t 12), none⟩,
  ⟨(some 14), .mv (.t 0), some (13, true)⟩,
  ⟨(some 15), .ixs (.t 14) (.k (.d (.int .i64 0))), some (13, true)⟩,
  ⟨(some 16), .bin .eql (.t 15) (.k (.d (.int .u8 45))), some (13, true)⟩,
  ⟨(some 17), .pick (.t 13) (.t 16) (.k (.d (.bool false))), none⟩])
(.cond (.t 17)
  (.rg [⟨(some 4), .mv (.k (.d (.int .i64 1))), none⟩])
  .skip))
(.seq (.rg [⟨(some 18), .mv (.t 0), none⟩,
  ⟨(some 19), .mv (.t 4), none⟩,
  ⟨(some 20), .call (.k (.fn 149 [])) [(.t 18), (.t 19)], none⟩,
  ⟨(some 5), .mv (.t 20), none⟩])
(.seq (.rg [⟨(some 6), .mv (.k (.d (.int .i64 0))), none⟩])
(.seq (.rg [⟨(some 21), .mv (.t 4), none⟩,
  ⟨(some 22), .mv (.t 5), none⟩,
  ⟨(some 23), .bin .add (.t 21) (.t 22), none⟩,
  ⟨(some 7), .mv (.t 23), none⟩])
(.seq (.seq (.rg [⟨(some 24), .mv (.t 5), none⟩,
  ⟨(some 25), .bin .gtr (.t 24) (.k (.d (.int .i64 0))), none⟩,
  ⟨(some 26), .mv (.t 25), none⟩,
  ⟨(some 27), .mv (.t 7), some (26, true)⟩,
  ⟨(some 28), .mv (.t 0), some (26, true)⟩,
  ⟨(some 29), .lenq true (.t 28), some (26, true)⟩,
  ⟨(some 30), .bin .lss (.t 27) (.t 29), some (26, true)⟩,
  ⟨(some 31), .pick (.t 26) (.t 30) (.k (.d (.bool false))), none⟩,
  ⟨(some 32), .mv (.t 31), none⟩,
  ⟨(some 33), .mv (.t 0), some (32, true)⟩,
  ⟨(some 34), .mv (.t 7), some (32, true)⟩,
  ⟨(some 35), .ixs (.t 33) (.t 34), some (32, true)⟩,
  ⟨(some 36), .bin .eql (.t 35) (.k (.d (.int .u8 46))), some (32, true)⟩,
  ⟨(some 37), .pick (.t 32) (.t 36) (.k (.d (.bool false))), none⟩])
(.cond (.t 37)
  (.seq (.rg [⟨(some 38), .mv (.t 0), none⟩,
    ⟨(some 39), .mv (.t 7), none⟩,
    ⟨(some 40), .bin .add (.t 39) (.k (.d (.int .i64 1))), none⟩,
    ⟨(some 41), .call (.k (.fn 149 [])) [(.t 38), (.t 40)], none⟩,
    ⟨(some 6), .mv (.t 41), none⟩])
  (.rg [⟨(some 42), .mv (.t 7), none⟩,
    ⟨(some 43), .bin .add (.t 42) (.k (.d (.int .i64 1))), none⟩,
    ⟨(some 44), .mv (.t 6), none⟩,
    ⟨(some 45), .bin .add (.t 43) (.t 44), none⟩,
    ⟨(some 7), .mv (.t 45), none⟩]))
  .skip))
(.seq (.seq (.rg [⟨(some 46), .mv (.t 5), none⟩,
  ⟨(some 47), .bin .eql (.t 46) (.k (.d (.int .i64 0))), none⟩,
  ⟨(some 48), .mv (.t 47), none⟩,
  ⟨(some 49), .mv (.t 7), some (48, false)⟩,
  ⟨(some 50), .mv (.t 0), some (48, false)⟩,
  ⟨(some 51), .lenq true (.t 50), some (48, false)⟩,
  ⟨(some 52), .bin .neq (.t 49) (.t 51), some (48, false)⟩,
  ⟨(some 53), .pick (.t 48) (.k (.d (.bool true))) (.t 52), none⟩,
  ⟨(some 54), .mv (.t 53), none⟩,
  ⟨(some 55), .mv (.t 6), some (54, false)⟩,
  ⟨(some 56), .bin .eql (.t 55) (.k (.d (.int .i64 0))), some (54, false)⟩,
  ⟨(some 57), .mv (.t 56), some (54, false)⟩,
  ⟨(some 58), .mv (.t 7), some (57, true)⟩,
  ⟨(some 59), .mv (.t 4), some (57, true)⟩,
  ⟨(some 60), .mv (.t 5), some (57, true)⟩,
  ⟨(some 61), .bin .add (.t 59) (.t 60), some (57, true)⟩,
  ⟨(some 62), .bin .gtr (.t 58) (.t 61), some (57, true)⟩,
  ⟨(some 63), .pick (.t 57) (.t 62) (.k (.d (.bool false))), some (54, false)⟩,
  ⟨(some 64), .pick (.t 54) (.k (.d (.bool true))) (.t 63), none⟩])
(.cond (.t 64)
  (.seq (.rg [⟨(some 65), .build [.int .i64 0, .int .i64 0] [], none⟩,
    ⟨none, .st 2 (.t 2) (.t 65), none⟩,
    ⟨(some 3), .mv (.k (.d (.int .i64 2))), none⟩])
  .ret)
  .skip))
(.seq (.seq (.rg [⟨(some 66), .mv (.t 5), none⟩,
  ⟨(some 67), .mv (.t 6), none⟩,
  ⟨(some 68), .bin .add (.t 66) (.t 67), none⟩,
  ⟨(some 69), .bin .gtr (.t 68) (.k (.d (.int .i64 18))), none⟩,
  ⟨(some 70), .mv (.t 69), none⟩,
  ⟨(some 71), .mv (.t 6), some (70, false)⟩,
  ⟨(some 72), .bin .gtr (.t 71) (.k (.d (.int .i64 8))), some (70, false)⟩,
  ⟨(some 73), .pick (.t 70) (.k (.d (.bool true))) (.t 72), none⟩])
(.cond (.t 73)
  (.seq (.rg [⟨(some 74), .build [.int .i64 0, .int .i64 0] [], none⟩,
    ⟨none, .st 2 (.t 2) (.t 74), none⟩,
    ⟨(some 3), .mv (.k (.d (.int .i64 3))), none⟩])
  .ret)
  .skip))
(.seq (.rg [⟨(some 8), .mv (.k (.d (.int .i64 0))), none⟩])
(.seq (.seq (.rg [⟨(some 75), .mv (.t 4), none⟩,
  ⟨(some 9), .mv (.t 75), none⟩])
(.block 0
  (.loop
    (.seq (.seq (.rg [⟨(some 76), .mv (.t 9), none⟩,
      ⟨(some 77), .mv (.t 0), none⟩,
      ⟨(some 78), .lenq true (.t 77), none⟩,
      ⟨(some 79), .bin .lss (.t 76) (.t 78), none⟩])
    (.cond (.t 79)
      .skip
      (.exit 0)))
    (.seq (.block 1
      (.seq (.rg [⟨(some 82), .mv (.t 0), none⟩,
        ⟨(some 83), .mv (.t 9), none⟩,
        ⟨(some 84), .ixs (.t 82) (.t 83), none⟩,
        ⟨(some 85), .bin .neq (.t 84) (.k (.d (.int .u8 46))), none⟩])
      (.cond (.t 85)
        (.rg [⟨(some 86), .mv (.t 8), none⟩,
          ⟨(some 87), .bin .mul (.t 86) (.k (.d (.int .i64 10))), none⟩,
          ⟨(some 88), .mv (.t 0), none⟩,
          ⟨(some 89), .mv (.t 9), none⟩,
          ⟨(some 90), .ixs (.t 88) (.t 89), none⟩,
          ⟨(some 91), .bin .sub (.t 90) (.k (.d (.int .u8 48))), none⟩,
          ⟨(some 92), .cvi .i64 (.t 91), none⟩,
          ⟨(some 93), .bin .add (.t 87) (.t 92), none⟩,
          ⟨(some 8), .mv (.t 93), none⟩])
        .skip)))
    (.rg [⟨(some 80), .mv (.t 9), none⟩,
      ⟨(some 81), .bin .add (.t 80) (.k (.d (.int .i64 1))), none⟩,
      ⟨(some 9), .mv (.t 81), none⟩]))))))
(.seq (.seq (.rg [⟨(some 94), .mv (.t 4), none⟩,
  ⟨(some 95), .bin .eql (.t 94) (.k (.d (.int .i64 1))), none⟩])
(.cond (.t 95)
  (.rg [⟨(some 96), .mv (.t 8), none⟩,
    ⟨(some 97), .un .neg (.t 96), none⟩,
    ⟨(some 8), .mv (.t 97), none⟩])
  .skip))
(.seq (.rg [⟨(some 98), .mv (.t 8), none⟩,
  ⟨(some 99), .mv (.t 6), none⟩,
  ⟨(some 100), .call (.k (.fn 127 [])) [(.t 98), (.t 99)], none⟩,
  ⟨(some 101), .ext (.t 100) 0, none⟩,
  ⟨(some 102), .ext (.t 100) 1, none⟩,
  ⟨none, .st 2 (.t 2) (.t 101), none⟩,
  ⟨(some 3), .mv (.t 102), none⟩])
.ret))))))))))))) }
theorem af147_ok : cFun Tryz.prog eqT Tryz.f147 = some af147 := by kernel_rfl
/-- (*dossier/dossierref4.reader).row -/
noncomputable def af148 : AFun := { np := 3, nt := 27, res := [.t 6], code :=
(.seq (.rg [⟨(some 6), .mv (.k (.nils)), none⟩])
(.seq (.rg [⟨(some 7), .mv (.k (.nils)), none⟩])
(.seq (.seq (.rg [⟨(some 8), .mv (.t 0), none⟩,
  ⟨(some 9), .mv (.t 2), none⟩,
  ⟨(some 10), .mkrow 9 1 [(.t 9)], none⟩,
  ⟨(some 11), .call (.k (.fn 104 [])) [(.t 8), (.t 10)], none⟩,
  ⟨(some 12), .bin .neq (.t 11) (.k (.d (.str []))), none⟩])
(.cond (.t 12)
  (.seq (.rg [⟨(some 13), .mv (.t 7), none⟩,
    ⟨(some 6), .mv (.t 13), none⟩])
  .ret)
  .skip))
(.block 0
  (.loop
    (.block 1
      (.seq (.rg [⟨(some 14), .mv (.t 7), none⟩,
        ⟨(some 15), .mv (.t 0), none⟩,
        ⟨(some 16), .mv (.t 1), none⟩,
        ⟨(some 17), .bin .add (.t 16) (.k (.d (.int .i64 1))), none⟩,
        ⟨(some 18), .call (.k (.fn 68 [])) [(.t 15), (.t 17)], none⟩,
        ⟨(some 19), .mkrow 26 8 [(.t 18)], none⟩,
        ⟨(some 20), .app 26 8 80 (.t 14) (.t 19), none⟩,
        ⟨(some 7), .mv (.t 20), none⟩])
      (.seq (.rg [⟨(some 21), .mv (.t 0), none⟩,
        ⟨(some 22), .mv (.t 2), none⟩,
        ⟨(some 23), .mkrow 9 1 [(.k (.d (.str [44]))), (.t 22)], none⟩,
        ⟨(some 24), .call (.k (.fn 142 [])) [(.t 21), (.t 23)], none⟩,
        ⟨(some 25), .bin .neq (.t 24) (.k (.d (.str [44]))), none⟩])
      (.cond (.t 25)
        (.seq (.rg [⟨(some 26), .mv (.t 7), none⟩,
          ⟨(some 6), .mv (.t 26), none⟩])
        .ret)
        .skip))))))))) }
theorem af148_ok : cFun Tryz.prog eqT Tryz.f148 = some af148 := by kernel_rfl
/-- dossier/dossierref1.digits -/
noncomputable def af149 : AFun := { np := 2, nt := 31, res := [.t 4], code :=
(.seq (.rg [⟨(some 4), .mv (.k (.d (.int .i64 0))), none⟩])
(.seq (.rg [⟨(some 5), .mv (.k (.d (.int .i64 0))), none⟩])
(.seq (.block 0
  (.loop
    (.seq (.seq (.rg [⟨(some 6), .mv (.t 1), none⟩,
      ⟨(some 7), .mv (.t 5), none⟩,
      ⟨(some 8), .bin .add (.t 6) (.t 7), none⟩,
      ⟨(some 9), .mv (.t 0), none⟩,
      ⟨(some 10), .lenq true (.t 9), none⟩,
      ⟨(some 11), .bin .lss (.t 8) (.t 10), none⟩,
      ⟨(some 12), .mv (.t 11), none⟩,
      ⟨(some 13), .mv (.t 0), some (12, true)⟩,
      ⟨(some 14), .mv (.t 1), some (12, true)⟩,
      ⟨(some 15), .mv (.t 5), some (12, true)⟩,
      ⟨(some 16), .bin .add (.t 14) (.t 15), some (12, true)⟩,
      ⟨(some 17), .ixs (.t 13) (.t 16), some (12, true)⟩,
      ⟨(some 18), .bin .geq (.t 17) (.k (.d (.int .u8 48))), some (12, true)⟩,
      ⟨(some 19), .pick (.t 12) (.t 18) (.k (.d (.bool false))), none⟩,
      ⟨(some 20), .mv (.t 19), none⟩,
      ⟨(some 21), .mv (.t 0), some (20, true)⟩,
      ⟨(some 22), .mv (.t 1), some (20, true)⟩,
      ⟨(some 23), .mv (.t 5), some (20, true)⟩,
      ⟨(some 24), .bin .add (.t 22) (.t 23), some (20, true)⟩,
      ⟨(some 25), .ixs (.t 21) (.t 24), some (20, true)⟩,
      ⟨(some 26), .bin .leq (.t 25) (.k (.d (.int .u8 57))), some (20, true)⟩,
      ⟨(some 27), .pick (.t 20) (.t 26) (.k (.d (.bool false))), none⟩])
    (.cond (.t 27)
      .skip
      (.exit 0)))
    (.block 1
      (.rg [⟨(some 28), .mv (.t 5), none⟩,
        ⟨(some 29), .bin .add (.t 28) (.k (.d (.int .i64 1))), none⟩,
        ⟨(some 5), .mv (.t 29), none⟩])))))
(.seq (.rg [⟨(some 30), .mv (.t 5), none⟩,
  ⟨(some 4), .mv (.t 30), none⟩])
.ret)))) }
theorem af149_ok : cFun Tryz.prog eqT Tryz.f149 = some af149 := by kernel_rfl
noncomputable def fnT : FuncId → Option AFun
  | 2 => some af2
  | 3 => some af3
  | 4 => some af4
  | 5 => some af5
  | 6 => some af6
  | 7 => some af7
  | 8 => some af8
  | 9 => some af9
  | 10 => some af10
  | 11 => some af11
  | 12 => some af12
  | 13 => some af13
  | 14 => some af14
  | 15 => some af15
  | 16 => some af16
  | 17 => some af17
  | 18 => some af18
  | 19 => some af19
  | 20 => some af20
  | 21 => some af21
  | 22 => some af22
  | 23 => some af23
  | 24 => some af24
  | 25 => some af25
  | 26 => some af26
  | 27 => some af27
  | 28 => some af28
  | 29 => some af29
  | 30 => some af30
  | 31 => some af31
  | 32 => some af32
  | 33 => some af33
  | 34 => some af34
  | 35 => some af35
  | 36 => some af36
  | 37 => some af37
  | 38 => some af38
  | 39 => some af39
  | 40 => some af40
  | 41 => some af41
  | 42 => some af42
  | 43 => some af43
  | 44 => some af44
  | 45 => some af45
  | 46 => some af46
  | 47 => some af47
  | 48 => some af48
  | 49 => some af49
  | 50 => some af50
  | 51 => some af51
  | 52 => some af52
  | 53 => some af53
  | 54 => some af54
  | 55 => some af55
  | 56 => some af56
  | 57 => some af57
  | 58 => some af58
  | 59 => some af59
  | 60 => some af60
  | 61 => some af61
  | 62 => some af62
  | 63 => some af63
  | 64 => some af64
  | 65 => some af65
  | 66 => some af66
  | 67 => some af67
  | 68 => some af68
  | 69 => some af69
  | 70 => some af70
  | 71 => some af71
  | 72 => some af72
  | 73 => some af73
  | 74 => some af74
  | 75 => some af75
  | 76 => some af76
  | 77 => some af77
  | 78 => some af78
  | 79 => some af79
  | 80 => some af80
  | 81 => some af81
  | 82 => some af82
  | 83 => some af83
  | 84 => some af84
  | 85 => some af85
  | 86 => some af86
  | 87 => some af87
  | 88 => some af88
  | 89 => some af89
  | 90 => some af90
  | 91 => some af91
  | 92 => some af92
  | 93 => some af93
  | 94 => some af94
  | 95 => some af95
  | 96 => some af96
  | 97 => some af97
  | 98 => some af98
  | 99 => some af99
  | 100 => some af100
  | 101 => some af101
  | 102 => some af102
  | 103 => some af103
  | 104 => some af104
  | 105 => some af105
  | 106 => some af106
  | 107 => some af107
  | 108 => some af108
  | 109 => some af109
  | 110 => some af110
  | 111 => some af111
  | 112 => some af112
  | 113 => some af113
  | 114 => some af114
  | 115 => some af115
  | 116 => some af116
  | 117 => some af117
  | 118 => some af118
  | 119 => some af119
  | 120 => some af120
  | 121 => some af121
  | 122 => some af122
  | 123 => some af123
  | 124 => some af124
  | 125 => some af125
  | 126 => some af126
  | 127 => some af127
  | 128 => some af128
  | 129 => some af129
  | 130 => some af130
  | 131 => some af131
  | 132 => some af132
  | 133 => some af133
  | 134 => some af134
  | 135 => some af135
  | 136 => some af136
  | 137 => some af137
  | 138 => some af138
  | 139 => some af139
  | 140 => some af140
  | 141 => some af141
  | 142 => some af142
  | 144 => some af144
  | 145 => some af145
  | 146 => some af146
  | 147 => some af147
  | 148 => some af148
  | 149 => some af149
  | _ => none
theorem fnT2 : fnT 2 = some af2 := rfl
theorem fnT3 : fnT 3 = some af3 := rfl
theorem fnT4 : fnT 4 = some af4 := rfl
theorem fnT5 : fnT 5 = some af5 := rfl
theorem fnT6 : fnT 6 = some af6 := rfl
theorem fnT7 : fnT 7 = some af7 := rfl
theorem fnT8 : fnT 8 = some af8 := rfl
theorem fnT9 : fnT 9 = some af9 := rfl
theorem fnT10 : fnT 10 = some af10 := rfl
theorem fnT11 : fnT 11 = some af11 := rfl
theorem fnT12 : fnT 12 = some af12 := rfl
theorem fnT13 : fnT 13 = some af13 := rfl
theorem fnT14 : fnT 14 = some af14 := rfl
theorem fnT15 : fnT 15 = some af15 := rfl
theorem fnT16 : fnT 16 = some af16 := rfl
theorem fnT17 : fnT 17 = some af17 := rfl
theorem fnT18 : fnT 18 = some af18 := rfl
theorem fnT19 : fnT 19 = some af19 := rfl
theorem fnT20 : fnT 20 = some af20 := rfl
theorem fnT21 : fnT 21 = some af21 := rfl
theorem fnT22 : fnT 22 = some af22 := rfl
theorem fnT23 : fnT 23 = some af23 := rfl
theorem fnT24 : fnT 24 = some af24 := rfl
theorem fnT25 : fnT 25 = some af25 := rfl
theorem fnT26 : fnT 26 = some af26 := rfl
theorem fnT27 : fnT 27 = some af27 := rfl
theorem fnT28 : fnT 28 = some af28 := rfl
theorem fnT29 : fnT 29 = some af29 := rfl
theorem fnT30 : fnT 30 = some af30 := rfl
theorem fnT31 : fnT 31 = some af31 := rfl
theorem fnT32 : fnT 32 = some af32 := rfl
theorem fnT33 : fnT 33 = some af33 := rfl
theorem fnT34 : fnT 34 = some af34 := rfl
theorem fnT35 : fnT 35 = some af35 := rfl
theorem fnT36 : fnT 36 = some af36 := rfl
theorem fnT37 : fnT 37 = some af37 := rfl
theorem fnT38 : fnT 38 = some af38 := rfl
theorem fnT39 : fnT 39 = some af39 := rfl
theorem fnT40 : fnT 40 = some af40 := rfl
theorem fnT41 : fnT 41 = some af41 := rfl
theorem fnT42 : fnT 42 = some af42 := rfl
theorem fnT43 : fnT 43 = some af43 := rfl
theorem fnT44 : fnT 44 = some af44 := rfl
theorem fnT45 : fnT 45 = some af45 := rfl
theorem fnT46 : fnT 46 = some af46 := rfl
theorem fnT47 : fnT 47 = some af47 := rfl
theorem fnT48 : fnT 48 = some af48 := rfl
theorem fnT49 : fnT 49 = some af49 := rfl
theorem fnT50 : fnT 50 = some af50 := rfl
theorem fnT51 : fnT 51 = some af51 := rfl
theorem fnT52 : fnT 52 = some af52 := rfl
theorem fnT53 : fnT 53 = some af53 := rfl
theorem fnT54 : fnT 54 = some af54 := rfl
theorem fnT55 : fnT 55 = some af55 := rfl
theorem fnT56 : fnT 56 = some af56 := rfl
theorem fnT57 : fnT 57 = some af57 := rfl
theorem fnT58 : fnT 58 = some af58 := rfl
theorem fnT59 : fnT 59 = some af59 := rfl
theorem fnT60 : fnT 60 = some af60 := rfl
theorem fnT61 : fnT 61 = some af61 := rfl
theorem fnT62 : fnT 62 = some af62 := rfl
theorem fnT63 : fnT 63 = some af63 := rfl
theorem fnT64 : fnT 64 = some af64 := rfl
theorem fnT65 : fnT 65 = some af65 := rfl
theorem fnT66 : fnT 66 = some af66 := rfl
theorem fnT67 : fnT 67 = some af67 := rfl
theorem fnT68 : fnT 68 = some af68 := rfl
theorem fnT69 : fnT 69 = some af69 := rfl
theorem fnT70 : fnT 70 = some af70 := rfl
theorem fnT71 : fnT 71 = some af71 := rfl
theorem fnT72 : fnT 72 = some af72 := rfl
theorem fnT73 : fnT 73 = some af73 := rfl
theorem fnT74 : fnT 74 = some af74 := rfl
theorem fnT75 : fnT 75 = some af75 := rfl
theorem fnT76 : fnT 76 = some af76 := rfl
theorem fnT77 : fnT 77 = some af77 := rfl
theorem fnT78 : fnT 78 = some af78 := rfl
theorem fnT79 : fnT 79 = some af79 := rfl
theorem fnT80 : fnT 80 = some af80 := rfl
theorem fnT81 : fnT 81 = some af81 := rfl
theorem fnT82 : fnT 82 = some af82 := rfl
theorem fnT83 : fnT 83 = some af83 := rfl
theorem fnT84 : fnT 84 = some af84 := rfl
theorem fnT85 : fnT 85 = some af85 := rfl
theorem fnT86 : fnT 86 = some af86 := rfl
theorem fnT87 : fnT 87 = some af87 := rfl
theorem fnT88 : fnT 88 = some af88 := rfl
theorem fnT89 : fnT 89 = some af89 := rfl
theorem fnT90 : fnT 90 = some af90 := rfl
theorem fnT91 : fnT 91 = some af91 := rfl
theorem fnT92 : fnT 92 = some af92 := rfl
theorem fnT93 : fnT 93 = some af93 := rfl
theorem fnT94 : fnT 94 = some af94 := rfl
theorem fnT95 : fnT 95 = some af95 := rfl
theorem fnT96 : fnT 96 = some af96 := rfl
theorem fnT97 : fnT 97 = some af97 := rfl
theorem fnT98 : fnT 98 = some af98 := rfl
theorem fnT99 : fnT 99 = some af99 := rfl
theorem fnT100 : fnT 100 = some af100 := rfl
theorem fnT101 : fnT 101 = some af101 := rfl
theorem fnT102 : fnT 102 = some af102 := rfl
theorem fnT103 : fnT 103 = some af103 := rfl
theorem fnT104 : fnT 104 = some af104 := rfl
theorem fnT105 : fnT 105 = some af105 := rfl
theorem fnT106 : fnT 106 = some af106 := rfl
theorem fnT107 : fnT 107 = some af107 := rfl
theorem fnT108 : fnT 108 = some af108 := rfl
theorem fnT109 : fnT 109 = some af109 := rfl
theorem fnT110 : fnT 110 = some af110 := rfl
theorem fnT111 : fnT 111 = some af111 := rfl
theorem fnT112 : fnT 112 = some af112 := rfl
theorem fnT113 : fnT 113 = some af113 := rfl
theorem fnT114 : fnT 114 = some af114 := rfl
theorem fnT115 : fnT 115 = some af115 := rfl
theorem fnT116 : fnT 116 = some af116 := rfl
theorem fnT117 : fnT 117 = some af117 := rfl
theorem fnT118 : fnT 118 = some af118 := rfl
theorem fnT119 : fnT 119 = some af119 := rfl
theorem fnT120 : fnT 120 = some af120 := rfl
theorem fnT121 : fnT 121 = some af121 := rfl
theorem fnT122 : fnT 122 = some af122 := rfl
theorem fnT123 : fnT 123 = some af123 := rfl
theorem fnT124 : fnT 124 = some af124 := rfl
theorem fnT125 : fnT 125 = some af125 := rfl
theorem fnT126 : fnT 126 = some af126 := rfl
theorem fnT127 : fnT 127 = some af127 := rfl
theorem fnT128 : fnT 128 = some af128 := rfl
theorem fnT129 : fnT 129 = some af129 := rfl
theorem fnT130 : fnT 130 = some af130 := rfl
theorem fnT131 : fnT 131 = some af131 := rfl
theorem fnT132 : fnT 132 = some af132 := rfl
theorem fnT133 : fnT 133 = some af133 := rfl
theorem fnT134 : fnT 134 = some af134 := rfl
theorem fnT135 : fnT 135 = some af135 := rfl
theorem fnT136 : fnT 136 = some af136 := rfl
theorem fnT137 : fnT 137 = some af137 := rfl
theorem fnT138 : fnT 138 = some af138 := rfl
theorem fnT139 : fnT 139 = some af139 := rfl
theorem fnT140 : fnT 140 = some af140 := rfl
theorem fnT141 : fnT 141 = some af141 := rfl
theorem fnT142 : fnT 142 = some af142 := rfl
theorem fnT144 : fnT 144 = some af144 := rfl
theorem fnT145 : fnT 145 = some af145 := rfl
theorem fnT146 : fnT 146 = some af146 := rfl
theorem fnT147 : fnT 147 = some af147 := rfl
theorem fnT148 : fnT 148 = some af148 := rfl
theorem fnT149 : fnT 149 = some af149 := rfl
theorem fnT_ok : ∀ f af, fnT f = some af → ∃ fn, Tryz.prog.funcs[f]? = some fn ∧ cFun Tryz.prog eqT fn = some af ∧ (fn.name == "runtime.NumGoroutine") = false := by
  intro f af h
  unfold fnT at h
  split at h
  · injection h with h; subst h; exact ⟨Tryz.f2, by kernel_rfl, af2_ok, by kernel_rfl⟩
  · injection h with h; subst h; exact ⟨Tryz.f3, by kernel_rfl, af3_ok, by kernel_rfl⟩
  · injection h with h; subst h; exact ⟨Tryz.f4, by kernel_rfl, af4_ok, by kernel_rfl⟩
  · injection h with h; subst h; exact ⟨Tryz.f5, by kernel_rfl, af5_ok, by kernel_rfl⟩
  · injection h with h; subst h; exact ⟨Tryz.f6, by kernel_rfl, af6_ok, by kernel_rfl⟩
  · injection h with h; subst h; exact ⟨Tryz.f7, by kernel_rfl, af7_ok, by kernel_rfl⟩
  · injection h with h; subst h; exact ⟨Tryz.f8, by kernel_rfl, af8_ok, by kernel_rfl⟩
  · injection h with h; subst h; exact ⟨Tryz.f9, by kernel_rfl, af9_ok, by kernel_rfl⟩
  · injection h with h; subst h; exact ⟨Tryz.f10, by kernel_rfl, af10_ok, by kernel_rfl⟩
  · injection h with h; subst h; exact ⟨Tryz.f11, by kernel_rfl, af11_ok, by kernel_rfl⟩
  · injection h with h; subst h; exact ⟨Tryz.f12, by kernel_rfl, af12_ok, by kernel_rfl⟩
  · injection h with h; subst h; exact ⟨Tryz.f13, by kernel_rfl, af13_ok, by kernel_rfl⟩
  · injection h with h; subst h; exact ⟨Tryz.f14, by kernel_rfl, af14_ok, by kernel_rfl⟩
  · injection h with h; subst h; exact ⟨Tryz.f15, by kernel_rfl, af15_ok, by kernel_rfl⟩
  · injection h with h; subst h; exact ⟨Tryz.f16, by kernel_rfl, af16_ok, by kernel_rfl⟩
  · injection h with h; subst h; exact ⟨Tryz.f17, by kernel_rfl, af17_ok, by kernel_rfl⟩
  · injection h with h; subst h; exact ⟨Tryz.f18, by kernel_rfl, af18_ok, by kernel_rfl⟩
  · injection h with h; subst h; exact ⟨Tryz.f19, by kernel_rfl, af19_ok, by kernel_rfl⟩
  · injection h with h; subst h; exact ⟨Tryz.f20, by kernel_rfl, af20_ok, by kernel_rfl⟩
  · injection h with h; subst h; exact ⟨Tryz.f21, by kernel_rfl, af21_ok, by kernel_rfl⟩
  · injection h with h; subst h; exact ⟨Tryz.f22, by kernel_rfl, af22_ok, by kernel_rfl⟩
  · injection h with h; subst h; exact ⟨Tryz.f23, by kernel_rfl, af23_ok, by kernel_rfl⟩
  · injection h with h; subst h; exact ⟨Tryz.f24, by kernel_rfl, af24_ok, by kernel_rfl⟩
  · injection h with h; subst h; exact ⟨Tryz.f25, by kernel_rfl, af25_ok, by kernel_rfl⟩
  · injection h with h; subst h; exact ⟨Tryz.f26, by kernel_rfl, af26_ok, by kernel_rfl⟩
  · injection h with h; subst h; exact ⟨Tryz.f27, by kernel_rfl, af27_ok, by kernel_rfl⟩
  · injection h with h; subst h; exact ⟨Tryz.f28, by kernel_rfl, af28_ok, by kernel_rfl⟩
  · injection h with h; subst h; exact ⟨Tryz.f29, by kernel_rfl, af29_ok, by kernel_rfl⟩
  · injection h with h; subst h; exact ⟨Tryz.f30, by kernel_rfl, af30_ok, by kernel_rfl⟩
  · injection h with h; subst h; exact ⟨Tryz.f31, by kernel_rfl, af31_ok, by kernel_rfl⟩
  · injection h with h; subst h; exact ⟨Tryz.f32, by kernel_rfl, af32_ok, by kernel_rfl⟩
  · injection h with h; subst h; exact ⟨Tryz.f33, by kernel_rfl, af33_ok, by kernel_rfl⟩
  · injection h with h; subst h; exact ⟨Tryz.f34, by kernel_rfl, af34_ok, by kernel_rfl⟩
  · injection h with h; subst h; exact ⟨Tryz.f35, by kernel_rfl, af35_ok, by kernel_rfl⟩
  · injection h with h; subst h; exact ⟨Tryz.f36, by kernel_rfl, af36_ok, by kernel_rfl⟩
  · injection h with h; subst h; exact ⟨Tryz.f37, by kernel_rfl, af37_ok, by kernel_rfl⟩
  · injection h with h; subst h; exact ⟨Tryz.f38, by kernel_rfl, af38_ok, by kernel_rfl⟩
  · injection h with h; subst h; exact ⟨Tryz.f39, by kernel_rfl, af39_ok, by kernel_rfl⟩
  · injection h with h; subst h; exact ⟨Tryz.f40, by kernel_rfl, af40_ok, by kernel_rfl⟩
  · injection h with h; subst h; exact ⟨Tryz.f41, by kernel_rfl, af41_ok, by kernel_rfl⟩
  · injection h with h; subst h; exact ⟨Tryz.f42, by kernel_rfl, af42_ok, by kernel_rfl⟩
  · injection h with h; subst h; exact ⟨Tryz.f43, by kernel_rfl, af43_ok, by kernel_rfl⟩
  · injection h with h; subst h; exact ⟨Tryz.f44, by kernel_rfl, af44_ok, by kernel_rfl⟩
  · injection h with h; subst h; exact ⟨Tryz.f45, by kernel_rfl, af45_ok, by kernel_rfl⟩
  · injection h with h; subst h; exact ⟨Tryz.f46, by kernel_rfl, af46_ok, by kernel_rfl⟩
  · injection h with h; subst h; exact ⟨Tryz.f47, by kernel_rfl, af47_ok, by kernel_rfl⟩
  · injection h with h; subst h; exact ⟨Tryz.f48, by kernel_rfl, af48_ok, by kernel_rfl⟩
  · injection h with h; subst h; exact ⟨Tryz.f49, by kernel_rfl, af49_ok, by kernel_rfl⟩
  · injection h with h; subst h; exact ⟨Tryz.f50, by kernel_rfl, af50_ok, by kernel_rfl⟩
  · injection h with h; subst h; exact ⟨Tryz.f51, by kernel_rfl, af51_ok, by kernel_rfl⟩
  · injection h with h; subst h; exact ⟨Tryz.f52, by kernel_rfl, af52_ok, by kernel_rfl⟩
  · injection h with h; subst h; exact ⟨Tryz.f53, by kernel_rfl, af53_ok, by kernel_rfl⟩
  · injection h with h; subst h; exact ⟨Tryz.f54, by kernel_rfl, af54_ok, by kernel_rfl⟩
  · injection h with h; subst h; exact ⟨Tryz.f55, by kernel_rfl, af55_ok, by kernel_rfl⟩
  · injection h with h; subst h; exact ⟨Tryz.f56, by kernel_rfl, af56_ok, by kernel_rfl⟩
  · injection h with h; subst h; exact ⟨Tryz.f57, by kernel_rfl, af57_ok, by kernel_rfl⟩
  · injection h with h; subst h; exact ⟨Tryz.f58, by kernel_rfl, af58_ok, by kernel_rfl⟩
  · injection h with h; subst h; exact ⟨Tryz.f59, by kernel_rfl, af59_ok, by kernel_rfl⟩
  · injection h with h; subst h; exact ⟨Tryz.f60, by kernel_rfl, af60_ok, by kernel_rfl⟩
  · injection h with h; subst h; exact ⟨Tryz.f61, by kernel_rfl, af61_ok, by kernel_rfl⟩
  · injection h with h; subst h; exact ⟨Tryz.f62, by kernel_rfl, af62_ok, by kernel_rfl⟩
  · injection h with h; subst h; exact ⟨Tryz.f63, by kernel_rfl, af63_ok, by kernel_rfl⟩
  · injection h with h; subst h; exact ⟨Tryz.f64, by kernel_rfl, af64_ok, by kernel_rfl⟩
  · injection h with h; subst h; exact ⟨Tryz.f65, by kernel_rfl, af65_ok, by kernel_rfl⟩
  · injection h with h; subst h; exact ⟨Tryz.f66, by kernel_rfl, af66_ok, by kernel_rfl⟩
  · injection h with h; subst h; exact ⟨Tryz.f67, by kernel_rfl, af67_ok, by kernel_rfl⟩
  · injection h with h; subst h; exact ⟨Tryz.f68, by kernel_rfl, af68_ok, by kernel_rfl⟩
  · injection h with h; subst h; exact ⟨Tryz.f69, by kernel_rfl, af69_ok, by kernel_rfl⟩
  · injection h with h; subst h; exact ⟨Tryz.f70, by kernel_rfl, af70_ok, by kernel_rfl⟩
  · injection h with h; subst h; exact ⟨Tryz.f71, by kernel_rfl, af71_ok, by kernel_rfl⟩
  · injection h with h; subst h; exact ⟨Tryz.f72, by kernel_rfl, af72_ok, by kernel_rfl⟩
  · injection h with h; subst h; exact ⟨Tryz.f73, by kernel_rfl, af73_ok, by kernel_rfl⟩
  · injection h with h; subst h; exact ⟨Tryz.f74, by kernel_rfl, af74_ok, by kernel_rfl⟩
  · injection h with h; subst h; exact ⟨Tryz.f75, by kernel_rfl, af75_ok, by kernel_rfl⟩
  · injection h with h; subst h; exact ⟨Tryz.f76, by kernel_rfl, af76_ok, by kernel_rfl⟩
  · injection h with h; subst h; exact ⟨Tryz.f77, by kernel_rfl, af77_ok, by kernel_rfl⟩
  · injection h with h; subst h; exact ⟨Tryz.f78, by kernel_rfl, af78_ok, by kernel_rfl⟩
  · injection h with h; subst h; exact ⟨Tryz.f79, by kernel_rfl, af79_ok, by kernel_rfl⟩
  · injection h with h; subst h; exact ⟨Tryz.f80, by kernel_rfl, af80_ok, by kernel_rfl⟩
  · injection h with h; subst h; exact ⟨Tryz.f81, by kernel_rfl, af81_ok, by kernel_rfl⟩
  · injection h with h; subst h; exact ⟨Tryz.f82, by kernel_rfl, af82_ok, by kernel_rfl⟩
  · injection h with h; subst h; exact ⟨Tryz.f83, by kernel_rfl, af83_ok, by kernel_rfl⟩
  · injection h with h; subst h; exact ⟨Tryz.f84, by kernel_rfl, af84_ok, by kernel_rfl⟩
  · injection h with h; subst h; exact ⟨Tryz.f85, by kernel_rfl, af85_ok, by kernel_rfl⟩
  · injection h with h; subst h; exact ⟨Tryz.f86, by kernel_rfl, af86_ok, by kernel_rfl⟩
  · injection h with h; subst h; exact ⟨Tryz.f87, by kernel_rfl, af87_ok, by kernel_rfl⟩
  · injection h with h; subst h; exact ⟨Tryz.f88, by kernel_rfl, af88_ok, by kernel_rfl⟩
  · injection h with h; subst h; exact ⟨Tryz.f89, by kernel_rfl, af89_ok, by kernel_rfl⟩
  · injection h with h; subst h; exact ⟨Tryz.f90, by kernel_rfl, af90_ok, by kernel_rfl⟩
  · injection h with h; subst h; exact ⟨Tryz.f91, by kernel_rfl, af91_ok, by kernel_rfl⟩
  · injection h with h; subst h; exact ⟨Tryz.f92, by kernel_rfl, af92_ok, by kernel_rfl⟩
  · injection h with h; subst h; exact ⟨Tryz.f93, by kernel_rfl, af93_ok, by kernel_rfl⟩
  · injection h with h; subst h; exact ⟨Tryz.f94, by kernel_rfl, af94_ok, by kernel_rfl⟩
  · injection h with h; subst h; exact ⟨Tryz.f95, by kernel_rfl, af95_ok, by kernel_rfl⟩
  · injection h with h; subst h; exact ⟨Tryz.f96, by kernel_rfl, af96_ok, by kernel_rfl⟩
  · injection h with h; subst h; exact ⟨Tryz.f97, by kernel_rfl, af97_ok, by kernel_rfl⟩
  · injection h with h; subst h; exact ⟨Tryz.f98, by kernel_rfl, af98_ok, by kernel_rfl⟩
  · injection h with h; subst h; exact ⟨Tryz.f99, by kernel_rfl, af99_ok, by kernel_rfl⟩
  · injection h with h; subst h; exact ⟨Tryz.f100, by kernel_rfl, af100_ok, by kernel_rfl⟩
  · injection h with h; subst h; exact ⟨Tryz.f101, by kernel_rfl, af101_ok, by kernel_rfl⟩
  · injection h with h; subst h; exact ⟨Tryz.f102, by kernel_rfl, af102_ok, by kernel_rfl⟩
  · injection h with h; subst h; exact ⟨Tryz.f103, by kernel_rfl, af103_ok, by kernel_rfl⟩
  · injection h with h; subst h; exact ⟨Tryz.f104, by kernel_rfl, af104_ok, by kernel_rfl⟩
  · injection h with h; subst h; exact ⟨Tryz.f105, by kernel_rfl, af105_ok, by kernel_rfl⟩
  · injection h with h; subst h; exact ⟨Tryz.f106, by kernel_rfl, af106_ok, by kernel_rfl⟩
  · injection h with h; subst h; exact ⟨Tryz.f107, by kernel_rfl, af107_ok, by kernel_rfl⟩
  · injection h with h; subst h; exact ⟨Tryz.f108, by kernel_rfl, af108_ok, by kernel_rfl⟩
  · injection h with h; subst h; exact ⟨Tryz.f109, by kernel_rfl, af109_ok, by kernel_rfl⟩
  · injection h with h; subst h; exact ⟨Tryz.f110, by kernel_rfl, af110_ok, by kernel_rfl⟩
  · injection h with h; subst h; exact ⟨Tryz.f111, by kernel_rfl, af111_ok, by kernel_rfl⟩
  · injection h with h; subst h; exact ⟨Tryz.f112, by kernel_rfl, af112_ok, by kernel_rfl⟩
  · injection h with h; subst h; exact ⟨Tryz.f113, by kernel_rfl, af113_ok, by kernel_rfl⟩
  · injection h with h; subst h; exact ⟨Tryz.f114, by kernel_rfl, af114_ok, by kernel_rfl⟩
  · injection h with h; subst h; exact ⟨Tryz.f115, by kernel_rfl, af115_ok, by kernel_rfl⟩
  · injection h with h; subst h; exact ⟨Tryz.f116, by kernel_rfl, af116_ok, by kernel_rfl⟩
  · injection h with h; subst h; exact ⟨Tryz.f117, by kernel_rfl, af117_ok, by kernel_rfl⟩
  · injection h with h; subst h; exact ⟨Tryz.f118, by kernel_rfl, af118_ok, by kernel_rfl⟩
  · injection h with h; subst h; exact ⟨Tryz.f119, by kernel_rfl, af119_ok, by kernel_rfl⟩
  · injection h with h; subst h; exact ⟨Tryz.f120, by kernel_rfl, af120_ok, by kernel_rfl⟩
  · injection h with h; subst h; exact ⟨Tryz.f121, by kernel_rfl, af121_ok, by kernel_rfl⟩
  · injection h with h; subst h; exact ⟨Tryz.f122, by kernel_rfl, af122_ok, by kernel_rfl⟩
  · injection h with h; subst h; exact ⟨Tryz.f123, by kernel_rfl, af123_ok, by kernel_rfl⟩
  · injection h with h; subst h; exact ⟨Tryz.f124, by kernel_rfl, af124_ok, by kernel_rfl⟩
  · injection h with h; subst h; exact ⟨Tryz.f125, by kernel_rfl, af125_ok, by kernel_rfl⟩
  · injection h with h; subst h; exact ⟨Tryz.f126, by kernel_rfl, af126_ok, by kernel_rfl⟩
  · injection h with h; subst h; exact ⟨Tryz.f127, by kernel_rfl, af127_ok, by kernel_rfl⟩
  · injection h with h; subst h; exact ⟨Tryz.f128, by kernel_rfl, af128_ok, by kernel_rfl⟩
  · injection h with h; subst h; exact ⟨Tryz.f129, by kernel_rfl, af129_ok, by kernel_rfl⟩
  · injection h with h; subst h; exact ⟨Tryz.f130, by kernel_rfl, af130_ok, by kernel_rfl⟩
  · injection h with h; subst h; exact ⟨Tryz.f131, by kernel_rfl, af131_ok, by kernel_rfl⟩
  · injection h with h; subst h; exact ⟨Tryz.f132, by kernel_rfl, af132_ok, by kernel_rfl⟩
  · injection h with h; subst h; exact ⟨Tryz.f133, by kernel_rfl, af133_ok, by kernel_rfl⟩
  · injection h with h; subst h; exact ⟨Tryz.f134, by kernel_rfl, af134_ok, by kernel_rfl⟩
  · injection h with h; subst h; exact ⟨Tryz.f135, by kernel_rfl, af135_ok, by kernel_rfl⟩
  · injection h with h; subst h; exact ⟨Tryz.f136, by kernel_rfl, af136_ok, by kernel_rfl⟩
  · injection h with h; subst h; exact ⟨Tryz.f137, by kernel_rfl, af137_ok, by kernel_rfl⟩
  · injection h with h; subst h; exact ⟨Tryz.f138, by kernel_rfl, af138_ok, by kernel_rfl⟩
  · injection h with h; subst h; exact ⟨Tryz.f139, by kernel_rfl, af139_ok, by kernel_rfl⟩
  · injection h with h; subst h; exact ⟨Tryz.f140, by kernel_rfl, af140_ok, by kernel_rfl⟩
  · injection h with h; subst h; exact ⟨Tryz.f141, by kernel_rfl, af141_ok, by kernel_rfl⟩
  · injection h with h; subst h; exact ⟨Tryz.f142, by kernel_rfl, af142_ok, by kernel_rfl⟩
  · injection h with h; subst h; exact ⟨Tryz.f144, by kernel_rfl, af144_ok, by kernel_rfl⟩
  · injection h with h; subst h; exact ⟨Tryz.f145, by kernel_rfl, af145_ok, by kernel_rfl⟩
  · injection h with h; subst h; exact ⟨Tryz.f146, by kernel_rfl, af146_ok, by kernel_rfl⟩
  · injection h with h; subst h; exact ⟨Tryz.f147, by kernel_rfl, af147_ok, by kernel_rfl⟩
  · injection h with h; subst h; exact ⟨Tryz.f148, by kernel_rfl, af148_ok, by kernel_rfl⟩
  · injection h with h; subst h; exact ⟨Tryz.f149, by kernel_rfl, af149_ok, by kernel_rfl⟩
  · cases h
end Go.Proofs.YtkmmfenknekcbaaGreat
