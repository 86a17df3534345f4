/- The compiled code of this seat's functions, printed by a program; each is what the compiler's function makes of the model's code (kernel_rfl). -/
import Derived.Test.YtcjdjhpnpdldmaaAeComp
import Derived.Test.YtcjdjhpnpdldmaaProg
set_option linter.unusedSimpArgs false
set_option linter.unusedVariables false
set_option maxRecDepth 100000
namespace Go.Proofs.Ytcjdjhpnpdldmaa
open Go.Ae
def eqT (t : TypeId) : Bool := t == 24
/-- gosem.cut.init -/
noncomputable def af2 : AFun := { np := 0, nt := 1, res := [], code :=
(.rg [⟨(some 0), .call (.k (.fn 1 [])) [], none⟩]) }
theorem af2_ok : cFun Try.prog eqT Try.f2 = some af2 := by kernel_rfl
/-- dossier/dossierlaw2.ValLists -/
noncomputable def af3 : AFun := { np := 2, nt := 49, res := [.t 4], code :=
(.seq (.rg [⟨(some 3), .box (.t 1), none⟩,
  ⟨(some 4), .mv (.k (.d (.bool false))), none⟩])
(.seq (.seq (.rg [⟨(some 7), .mv (.t 0), none⟩,
  ⟨(some 8), .lenq false (.t 7), none⟩,
  ⟨(some 9), .bin .geq (.t 8) (.k (.d (.int .i64 8))), none⟩])
(.cond (.t 9)
  (.seq (.rg [⟨(some 4), .mv (.k (.d (.bool true))), none⟩])
  .ret)
  .skip))
(.seq (.rg [⟨(some 10), .mv (.t 0), none⟩,
  ⟨(some 11), .build [.int .i64 0, .bool false, .int .i64 0, .int .i64 0, .str [], .sl []] [(0, 1, (.k (.d (.int .i64 4)))), (5, 1, (.t 10))], none⟩,
  ⟨(some 5), .new [.d (.int .i64 0), .d (.bool false), .d (.int .i64 0), .d (.int .i64 0), .d (.str []), .nils], none⟩,
  ⟨none, .st 6 (.t 5) (.t 11), none⟩])
(.seq (.rd [⟨(some 12), .mkrow 26 6 [], none⟩,
  ⟨(some 13), .mv (.t 0), none⟩,
  ⟨(some 14), .app 26 6 72 (.t 12) (.t 13), none⟩,
  ⟨(some 15), .ld (some 6) (.t 3), none⟩,
  ⟨(some 16), .mkrow 26 6 [(.t 15)], none⟩,
  ⟨(some 17), .app 26 6 72 (.t 14) (.t 16), none⟩,
  ⟨(some 18), .build [.int .i64 0, .bool false, .int .i64 0, .int .i64 0, .str [], .sl []] [(0, 1, (.k (.d (.int .i64 4)))), (5, 1, (.t 17))], none⟩,
  ⟨(some 6), .new [.d (.int .i64 0), .d (.bool false), .d (.int .i64 0), .d (.int .i64 0), .d (.str []), .nils], none⟩,
  ⟨none, .st 6 (.t 6) (.t 18), none⟩] [(0, 3), (2, 3), (0, 4), (2, 4), (0, 5), (3, 5), (0, 7), (2, 7), (3, 7), (4, 7), (5, 7)])
(.seq (.seq (.rg [⟨(some 19), .ld (some 6) (.t 5), none⟩,
  ⟨(some 20), .ld (some 6) (.t 6), none⟩,
  ⟨(some 21), .mkrow 26 6 [(.t 19), (.t 20)], none⟩,
  ⟨(some 22), .call (.k (.fn 4 [])) [(.t 21)], none⟩,
  ⟨(some 23), .un .not (.t 22), none⟩])
(.cond (.t 23)
  (.seq (.rg [⟨(some 4), .mv (.k (.d (.bool true))), none⟩])
  .ret)
  .skip))
(.seq (.rd [⟨(some 24), .ld (some 6) (.t 5), none⟩,
  ⟨(some 25), .ld (some 6) (.t 6), none⟩,
  ⟨(some 26), .call (.k (.fn 5 [])) [(.t 24), (.t 25)], none⟩,
  ⟨(some 27), .bin .eql (.t 26) (.k (.d (.int .i64 (-1)))), none⟩,
  ⟨(some 28), .mv (.t 27), none⟩,
  ⟨(some 29), .ld (some 6) (.t 6), some (28, true)⟩,
  ⟨(some 30), .ld (some 6) (.t 5), some (28, true)⟩,
  ⟨(some 31), .call (.k (.fn 5 [])) [(.t 29), (.t 30)], some (28, true)⟩,
  ⟨(some 32), .bin .eql (.t 31) (.k (.d (.int .i64 1))), some (28, true)⟩,
  ⟨(some 33), .pick (.t 28) (.t 32) (.k (.d (.bool false))), none⟩,
  ⟨(some 34), .mv (.t 33), none⟩,
  ⟨(some 35), .ld (some 6) (.t 5), some (34, true)⟩,
  ⟨(some 36), .ld (some 6) (.t 6), some (34, true)⟩,
  ⟨(some 37), .call (.k (.fn 6 [])) [(.t 35), (.t 36)], some (34, true)⟩,
  ⟨(some 38), .un .not (.t 37), some (34, true)⟩,
  ⟨(some 39), .pick (.t 34) (.t 38) (.k (.d (.bool false))), none⟩,
  ⟨(some 40), .mv (.t 39), none⟩,
  ⟨(some 41), .ld (some 6) (.t 5), some (40, true)⟩,
  ⟨(some 42), .ld (some 6) (.t 5), some (40, true)⟩,
  ⟨(some 43), .call (.k (.fn 7 [])) [(.t 42)], some (40, true)⟩,
  ⟨(some 44), .call (.k (.fn 6 [])) [(.t 41), (.t 43)], some (40, true)⟩,
  ⟨(some 45), .pick (.t 40) (.t 44) (.k (.d (.bool false))), none⟩,
  ⟨(some 46), .mv (.t 45), none⟩,
  ⟨(some 47), .call (.k (.fn 8 [])) [], some (46, true)⟩,
  ⟨(some 48), .pick (.t 46) (.t 47) (.k (.d (.bool false))), none⟩,
  ⟨(some 4), .mv (.t 48), none⟩] [(2, 5), (2, 6), (0, 7), (1, 7), (2, 7), (2, 11), (7, 11), (2, 12), (7, 12), (0, 13), (1, 13), (2, 13), (5, 13), (6, 13), (7, 13), (2, 17), (7, 17), (13, 17), (2, 18), (7, 18), (13, 18), (0, 19), (1, 19), (2, 19), (5, 19), (6, 19), (7, 19), (11, 19), (12, 19), (13, 19), (17, 19), (0, 20), (1, 20), (2, 20), (5, 20), (6, 20), (7, 20), (11, 20), (12, 20), (13, 20), (18, 20), (0, 23), (1, 23), (2, 23), (5, 23), (6, 23), (7, 23), (11, 23), (12, 23), (13, 23), (17, 23), (18, 23), (19, 23), (20, 23)])
.ret)))))) }
theorem af3_ok : cFun Try.prog eqT Try.f3 = some af3 := by kernel_rfl
/-- dossier/dossierlaw2.may -/
noncomputable def af4 : AFun := { np := 1, nt := 24, res := [.t 2], code :=
(.seq (.rg [⟨(some 2), .mv (.k (.d (.bool false))), none⟩])
(.seq (.seq (.rg [⟨(some 3), .mv (.k (.d (.int .i64 0))), none⟩])
(.block 0
  (.loop
    (.seq (.seq (.rg [⟨(some 4), .mv (.t 3), none⟩,
      ⟨(some 5), .mv (.t 0), none⟩,
      ⟨(some 6), .lenq false (.t 5), none⟩,
      ⟨(some 7), .bin .lss (.t 4) (.t 6), none⟩])
    (.cond (.t 7)
      .skip
      (.exit 0)))
    (.seq (.block 1
      (.seq (.rg [⟨(some 10), .mv (.t 0), none⟩,
        ⟨(some 11), .mv (.t 3), none⟩,
        ⟨(some 12), .iad 6 (.t 10) (.t 11), none⟩,
        ⟨(some 13), .ld (some 6) (.t 12), none⟩,
        ⟨(some 14), .call (.k (.fn 9 [])) [(.t 13)], none⟩,
        ⟨(some 15), .bin .geq (.t 14) (.k (.d (.int .i64 500))), none⟩,
        ⟨(some 16), .mv (.t 15), none⟩,
        ⟨(some 17), .mv (.t 0), some (16, false)⟩,
        ⟨(some 18), .mv (.t 3), some (16, false)⟩,
        ⟨(some 19), .iad 6 (.t 17) (.t 18), some (16, false)⟩,
        ⟨(some 20), .ld (some 6) (.t 19), some (16, false)⟩,
        ⟨(some 21), .call (.k (.fn 10 [])) [(.t 20)], some (16, false)⟩,
        ⟨(some 22), .un .not (.t 21), some (16, false)⟩,
        ⟨(some 23), .pick (.t 16) (.k (.d (.bool true))) (.t 22), none⟩])
      (.cond (.t 23)
        (.seq (.rg [⟨(some 2), .mv (.k (.d (.bool false))), none⟩])
        .ret)
        .skip)))
    (.rg [⟨(some 8), .mv (.t 3), none⟩,
      ⟨(some 9), .bin .add (.t 8) (.k (.d (.int .i64 1))), none⟩,
      ⟨(some 3), .mv (.t 9), none⟩]))))))
(.seq (.rg [⟨(some 2), .mv (.k (.d (.bool true))), none⟩])
.ret))) }
theorem af4_ok : cFun Try.prog eqT Try.f4 = some af4 := by kernel_rfl
/-- dossier/val.Cmp -/
noncomputable def af5 : AFun := { np := 2, nt := 45, res := [.t 4], code :=
(.seq (.rg [⟨(some 2), .box (.t 0), none⟩,
  ⟨(some 3), .box (.t 1), none⟩,
  ⟨(some 4), .mv (.k (.d (.int .i64 0))), none⟩])
(.seq (.seq (.rg [⟨(some 5), .fad (.t 2) 0, none⟩,
  ⟨(some 6), .ld none (.t 5), none⟩,
  ⟨(some 7), .fad (.t 3) 0, none⟩,
  ⟨(some 8), .ld none (.t 7), none⟩,
  ⟨(some 9), .bin .neq (.t 6) (.t 8), none⟩])
(.cond (.t 9)
  (.seq (.rg [⟨(some 10), .fad (.t 2) 0, none⟩,
    ⟨(some 11), .ld none (.t 10), none⟩,
    ⟨(some 12), .fad (.t 3) 0, none⟩,
    ⟨(some 13), .ld none (.t 12), none⟩,
    ⟨(some 14), .call (.k (.fn 11 [])) [(.t 11), (.t 13)], none⟩,
    ⟨(some 4), .mv (.t 14), none⟩])
  .ret)
  .skip))
(.seq (.seq (.rg [⟨(some 15), .fad (.t 2) 0, none⟩,
  ⟨(some 16), .ld none (.t 15), none⟩])
(.block 0
  (.seq (.rg [⟨(some 18), .bin .eql (.t 16) (.k (.d (.int .i64 1))), none⟩,
    ⟨(some 17), .mv (.t 18), none⟩])
  (.cond (.t 17)
    (.seq (.rd [⟨(some 19), .fad (.t 2) 1, none⟩,
      ⟨(some 20), .ld none (.t 19), none⟩,
      ⟨(some 21), .call (.k (.fn 12 [])) [(.t 20)], none⟩,
      ⟨(some 22), .fad (.t 3) 1, none⟩,
      ⟨(some 23), .ld none (.t 22), none⟩,
      ⟨(some 24), .call (.k (.fn 12 [])) [(.t 23)], none⟩,
      ⟨(some 25), .bin .sub (.t 21) (.t 24), none⟩,
      ⟨(some 4), .mv (.t 25), none⟩] [(2, 4), (1, 5)])
    .ret)
    (.seq (.rg [⟨(some 27), .bin .eql (.t 16) (.k (.d (.int .i64 2))), none⟩,
      ⟨(some 26), .mv (.t 27), none⟩])
    (.cond (.t 26)
      (.seq (.rg [⟨(some 28), .fad (.t 2) 2, none⟩,
        ⟨(some 29), .ld (some 2) (.t 28), none⟩,
        ⟨(some 30), .fad (.t 3) 2, none⟩,
        ⟨(some 31), .ld (some 2) (.t 30), none⟩,
        ⟨(some 32), .call (.k (.fn 13 [])) [(.t 29), (.t 31)], none⟩,
        ⟨(some 4), .mv (.t 32), none⟩])
      .ret)
      (.seq (.rg [⟨(some 34), .bin .eql (.t 16) (.k (.d (.int .i64 3))), none⟩,
        ⟨(some 33), .mv (.t 34), none⟩])
      (.cond (.t 33)
        (.seq (.rg [⟨(some 35), .fad (.t 2) 4, none⟩,
          ⟨(some 36), .ld none (.t 35), none⟩,
          ⟨(some 37), .fad (.t 3) 4, none⟩,
          ⟨(some 38), .ld none (.t 37), none⟩,
          ⟨(some 39), .call (.k (.fn 14 [])) [(.t 36), (.t 38)], none⟩,
          ⟨(some 4), .mv (.t 39), none⟩])
        .ret)
        .skip))))))))
(.seq (.rg [⟨(some 40), .fad (.t 2) 5, none⟩,
  ⟨(some 41), .ld none (.t 40), none⟩,
  ⟨(some 42), .fad (.t 3) 5, none⟩,
  ⟨(some 43), .ld none (.t 42), none⟩,
  ⟨(some 44), .call (.k (.fn 15 [])) [(.t 41), (.t 43), (.k (.fn 5 []))], none⟩,
  ⟨(some 4), .mv (.t 44), none⟩])
.ret)))) }
theorem af5_ok : cFun Try.prog eqT Try.f5 = some af5 := by kernel_rfl
/-- dossier/val.Equal -/
noncomputable def af6 : AFun := { np := 2, nt := 9, res := [.t 4], code :=
(.seq (.rg [⟨(some 2), .box (.t 0), none⟩,
  ⟨(some 3), .box (.t 1), none⟩,
  ⟨(some 4), .mv (.k (.d (.bool false))), none⟩])
(.seq (.rg [⟨(some 5), .ld (some 6) (.t 2), none⟩,
  ⟨(some 6), .ld (some 6) (.t 3), none⟩,
  ⟨(some 7), .call (.k (.fn 5 [])) [(.t 5), (.t 6)], none⟩,
  ⟨(some 8), .bin .eql (.t 7) (.k (.d (.int .i64 0))), none⟩,
  ⟨(some 4), .mv (.t 8), none⟩])
.ret)) }
theorem af6_ok : cFun Try.prog eqT Try.f6 = some af6 := by kernel_rfl
/-- dossier/val.Copy -/
noncomputable def af7 : AFun := { np := 1, nt := 25, res := [.c 2 (some 6)], code :=
(.seq (.rg [⟨(some 1), .box (.t 0), none⟩,
  ⟨(some 2), .new [.d (.int .i64 0), .d (.bool false), .d (.int .i64 0), .d (.int .i64 0), .d (.str []), .nils], none⟩])
(.seq (.rg [⟨(some 5), .fad (.t 1) 5, none⟩,
  ⟨(some 6), .ld none (.t 5), none⟩,
  ⟨(some 7), .call (.k (.fn 16 [])) [(.t 6)], none⟩,
  ⟨(some 8), .fad (.t 1) 5, none⟩,
  ⟨none, .st 1 (.t 8) (.t 7), none⟩])
(.seq (.seq (.rg [⟨(some 9), .fad (.t 1) 5, none⟩,
  ⟨(some 10), .ld none (.t 9), none⟩,
  ⟨(some 11), .lenq false (.t 10), none⟩,
  ⟨(some 12), .mv (.k (.d (.int .i64 0))), none⟩])
(.block 0
  (.loop
    (.seq (.rg [⟨(some 13), .bin .lss (.t 12) (.t 11), none⟩])
    (.seq (.cond (.t 13)
      .skip
      (.exit 0))
    (.seq (.block 1
      (.seq (.rg [⟨(some 14), .mv (.t 12), none⟩,
        ⟨(some 15), .iad 6 (.t 10) (.t 12), none⟩,
        ⟨(some 16), .ld (some 6) (.t 15), none⟩,
        ⟨(some 4), .new [.d (.int .i64 0), .d (.bool false), .d (.int .i64 0), .d (.int .i64 0), .d (.str []), .nils], none⟩,
        ⟨(some 3), .mv (.t 14), none⟩,
        ⟨none, .st 6 (.t 4) (.t 16), none⟩])
      (.rd [⟨(some 17), .fad (.t 1) 5, none⟩,
        ⟨(some 18), .ld none (.t 17), none⟩,
        ⟨(some 19), .mv (.t 3), none⟩,
        ⟨(some 20), .ld (some 6) (.t 4), none⟩,
        ⟨(some 21), .call (.k (.fn 7 [])) [(.t 20)], none⟩,
        ⟨(some 22), .iad 6 (.t 18) (.t 19), none⟩,
        ⟨none, .st 6 (.t 22) (.t 21), none⟩] [(1, 4)])))
    (.rg [⟨(some 23), .bin .add (.t 12) (.k (.d (.int .i64 1))), none⟩,
      ⟨(some 12), .mv (.t 23), none⟩])))))))
(.seq (.rg [⟨(some 24), .ld (some 6) (.t 1), none⟩,
  ⟨none, .st 6 (.t 2) (.t 24), none⟩])
.ret)))) }
theorem af7_ok : cFun Try.prog eqT Try.f7 = some af7 := by kernel_rfl
/-- dossier/dossierlaw2.known -/
noncomputable def af8 : AFun := { np := 0, nt := 21, res := [.t 0], code :=
(.seq (.rg [⟨(some 0), .mv (.k (.d (.bool false))), none⟩])
(.seq (.rg [⟨(some 2), .call (.k (.fn 18 [])) [], none⟩,
  ⟨(some 3), .build [.int .i64 0, .bool false, .int .i64 0, .int .i64 0, .str [], .sl []] [], none⟩,
  ⟨(some 4), .call (.k (.fn 17 [])) [(.t 2), (.t 3)], none⟩,
  ⟨(some 1), .new [.d (.int .i64 0), .d (.bool false), .d (.int .i64 0), .d (.int .i64 0), .d (.str []), .nils], none⟩,
  ⟨none, .st 6 (.t 1) (.t 4), none⟩])
(.seq (.rg [⟨(some 5), .fad (.t 1) 0, none⟩,
  ⟨(some 6), .ld none (.t 5), none⟩,
  ⟨(some 7), .bin .eql (.t 6) (.k (.d (.int .i64 1))), none⟩,
  ⟨(some 8), .mv (.t 7), none⟩,
  ⟨(some 9), .fad (.t 1) 1, some (8, true)⟩,
  ⟨(some 10), .ld none (.t 9), some (8, true)⟩,
  ⟨(some 11), .un .not (.t 10), some (8, true)⟩,
  ⟨(some 12), .pick (.t 8) (.t 11) (.k (.d (.bool false))), none⟩,
  ⟨(some 13), .mv (.t 12), none⟩,
  ⟨(some 14), .call (.k (.fn 20 [])) [], some (13, true)⟩,
  ⟨(some 15), .call (.k (.fn 19 [])) [(.t 14)], some (13, true)⟩,
  ⟨(some 16), .pick (.t 13) (.t 15) (.k (.d (.bool false))), none⟩,
  ⟨(some 17), .mv (.t 16), none⟩,
  ⟨(some 18), .call (.k (.fn 20 [])) [], some (17, true)⟩,
  ⟨(some 19), .call (.k (.fn 21 [])) [(.t 18)], some (17, true)⟩,
  ⟨(some 20), .pick (.t 17) (.t 19) (.k (.d (.bool false))), none⟩,
  ⟨(some 0), .mv (.t 20), none⟩])
.ret))) }
theorem af8_ok : cFun Try.prog eqT Try.f8 = some af8 := by kernel_rfl
/-- dossier/dossierlaw2.size -/
noncomputable def af9 : AFun := { np := 1, nt := 33, res := [.t 2], code :=
(.seq (.rg [⟨(some 1), .box (.t 0), none⟩,
  ⟨(some 2), .mv (.k (.d (.int .i64 0))), none⟩])
(.seq (.rg [⟨(some 5), .fad (.t 1) 4, none⟩,
  ⟨(some 6), .ld none (.t 5), none⟩,
  ⟨(some 7), .lenq true (.t 6), none⟩,
  ⟨(some 8), .bin .add (.k (.d (.int .i64 1))) (.t 7), none⟩,
  ⟨(some 9), .fad (.t 1) 5, none⟩,
  ⟨(some 10), .ld none (.t 9), none⟩,
  ⟨(some 11), .lenq false (.t 10), none⟩,
  ⟨(some 12), .bin .add (.t 8) (.t 11), none⟩,
  ⟨(some 3), .mv (.t 12), none⟩])
(.seq (.seq (.rg [⟨(some 4), .mv (.k (.d (.int .i64 0))), none⟩])
(.block 0
  (.loop
    (.seq (.seq (.rg [⟨(some 13), .mv (.t 4), none⟩,
      ⟨(some 14), .fad (.t 1) 5, none⟩,
      ⟨(some 15), .ld none (.t 14), none⟩,
      ⟨(some 16), .lenq false (.t 15), none⟩,
      ⟨(some 17), .bin .lss (.t 13) (.t 16), none⟩,
      ⟨(some 18), .mv (.t 17), none⟩,
      ⟨(some 19), .mv (.t 3), some (18, true)⟩,
      ⟨(some 20), .bin .lss (.t 19) (.k (.d (.int .i64 500))), some (18, true)⟩,
      ⟨(some 21), .pick (.t 18) (.t 20) (.k (.d (.bool false))), none⟩])
    (.cond (.t 21)
      .skip
      (.exit 0)))
    (.seq (.block 1
      (.rg [⟨(some 24), .mv (.t 3), none⟩,
        ⟨(some 25), .fad (.t 1) 5, none⟩,
        ⟨(some 26), .ld none (.t 25), none⟩,
        ⟨(some 27), .mv (.t 4), none⟩,
        ⟨(some 28), .iad 6 (.t 26) (.t 27), none⟩,
        ⟨(some 29), .ld (some 6) (.t 28), none⟩,
        ⟨(some 30), .call (.k (.fn 9 [])) [(.t 29)], none⟩,
        ⟨(some 31), .bin .add (.t 24) (.t 30), none⟩,
        ⟨(some 3), .mv (.t 31), none⟩]))
    (.rg [⟨(some 22), .mv (.t 4), none⟩,
      ⟨(some 23), .bin .add (.t 22) (.k (.d (.int .i64 1))), none⟩,
      ⟨(some 4), .mv (.t 23), none⟩]))))))
(.seq (.rg [⟨(some 32), .mv (.t 3), none⟩,
  ⟨(some 2), .mv (.t 32), none⟩])
.ret)))) }
theorem af9_ok : cFun Try.prog eqT Try.f9 = some af9 := by kernel_rfl
/-- dossier/dossierref2.Is -/
noncomputable def af10 : AFun := { np := 1, nt := 5, res := [.t 2], code :=
(.seq (.rg [⟨(some 1), .box (.t 0), none⟩,
  ⟨(some 2), .mv (.k (.d (.bool false))), none⟩])
(.seq (.rg [⟨(some 3), .ld (some 6) (.t 1), none⟩,
  ⟨(some 4), .call (.k (.fn 22 [])) [(.t 3), (.k (.d (.int .i64 0)))], none⟩,
  ⟨(some 2), .mv (.t 4), none⟩])
.ret)) }
theorem af10_ok : cFun Try.prog eqT Try.f10 = some af10 := by kernel_rfl
/-- cmp.Compare[int] -/
noncomputable def af11 : AFun := { np := 2, nt := 20, res := [.t 4], code :=
(.seq (.rg [⟨(some 4), .mv (.k (.d (.int .i64 0))), none⟩])
(.seq (.rg [⟨(some 7), .mv (.t 0), none⟩,
  ⟨(some 8), .call (.k (.fn 23 [])) [(.t 7)], none⟩,
  ⟨(some 5), .mv (.t 8), none⟩])
(.seq (.rg [⟨(some 9), .mv (.t 1), none⟩,
  ⟨(some 10), .call (.k (.fn 23 [])) [(.t 9)], none⟩,
  ⟨(some 6), .mv (.t 10), none⟩])
(.seq (.seq (.rg [⟨(some 11), .mv (.t 5), none⟩])
(.cond (.t 11)
  (.seq (.seq (.rg [⟨(some 12), .mv (.t 6), none⟩])
  (.cond (.t 12)
    (.seq (.rg [⟨(some 4), .mv (.k (.d (.int .i64 0))), none⟩])
    .ret)
    .skip))
  (.seq (.rg [⟨(some 4), .mv (.k (.d (.int .i64 (-1)))), none⟩])
  .ret))
  .skip))
(.seq (.seq (.rg [⟨(some 13), .mv (.t 6), none⟩])
(.cond (.t 13)
  (.seq (.rg [⟨(some 4), .mv (.k (.d (.int .i64 1))), none⟩])
  .ret)
  .skip))
(.seq (.seq (.rg [⟨(some 14), .mv (.t 0), none⟩,
  ⟨(some 15), .mv (.t 1), none⟩,
  ⟨(some 16), .bin .lss (.t 14) (.t 15), none⟩])
(.cond (.t 16)
  (.seq (.rg [⟨(some 4), .mv (.k (.d (.int .i64 (-1)))), none⟩])
  .ret)
  .skip))
(.seq (.seq (.rg [⟨(some 17), .mv (.t 0), none⟩,
  ⟨(some 18), .mv (.t 1), none⟩,
  ⟨(some 19), .bin .gtr (.t 17) (.t 18), none⟩])
(.cond (.t 19)
  (.seq (.rg [⟨(some 4), .mv (.k (.d (.int .i64 1))), none⟩])
  .ret)
  .skip))
(.seq (.rg [⟨(some 4), .mv (.k (.d (.int .i64 0))), none⟩])
.ret)))))))) }
theorem af11_ok : cFun Try.prog eqT Try.f11 = some af11 := by kernel_rfl
/-- dossier/val.number -/
noncomputable def af12 : AFun := { np := 1, nt := 4, res := [.t 2], code :=
(.seq (.rg [⟨(some 2), .mv (.k (.d (.int .i64 0))), none⟩])
(.seq (.seq (.rg [⟨(some 3), .mv (.t 0), none⟩])
(.cond (.t 3)
  (.seq (.rg [⟨(some 2), .mv (.k (.d (.int .i64 1))), none⟩])
  .ret)
  .skip))
(.seq (.rg [⟨(some 2), .mv (.k (.d (.int .i64 0))), none⟩])
.ret))) }
theorem af12_ok : cFun Try.prog eqT Try.f12 = some af12 := by kernel_rfl
/-- dossier/dec.Cmp -/
noncomputable def af13 : AFun := { np := 2, nt := 10, res := [.t 4], code :=
(.seq (.rg [⟨(some 2), .box (.t 0), none⟩,
  ⟨(some 3), .box (.t 1), none⟩,
  ⟨(some 4), .mv (.k (.d (.int .i64 0))), none⟩])
(.seq (.rd [⟨(some 5), .ld (some 2) (.t 2), none⟩,
  ⟨(some 6), .call (.k (.fn 24 [])) [(.t 5), (.k (.d (.int .i64 4)))], none⟩,
  ⟨(some 7), .ld (some 2) (.t 3), none⟩,
  ⟨(some 8), .call (.k (.fn 24 [])) [(.t 7), (.k (.d (.int .i64 4)))], none⟩,
  ⟨(some 9), .call (.k (.fn 11 [])) [(.t 6), (.t 8)], none⟩,
  ⟨(some 4), .mv (.t 9), none⟩] [(1, 2), (0, 3), (0, 4), (2, 4)])
.ret)) }
theorem af13_ok : cFun Try.prog eqT Try.f13 = some af13 := by kernel_rfl
/-- cmp.Compare[string] -/
noncomputable def af14 : AFun := { np := 2, nt := 20, res := [.t 4], code :=
(.seq (.rg [⟨(some 4), .mv (.k (.d (.int .i64 0))), none⟩])
(.seq (.rg [⟨(some 7), .mv (.t 0), none⟩,
  ⟨(some 8), .call (.k (.fn 25 [])) [(.t 7)], none⟩,
  ⟨(some 5), .mv (.t 8), none⟩])
(.seq (.rg [⟨(some 9), .mv (.t 1), none⟩,
  ⟨(some 10), .call (.k (.fn 25 [])) [(.t 9)], none⟩,
  ⟨(some 6), .mv (.t 10), none⟩])
(.seq (.seq (.rg [⟨(some 11), .mv (.t 5), none⟩])
(.cond (.t 11)
  (.seq (.seq (.rg [⟨(some 12), .mv (.t 6), none⟩])
  (.cond (.t 12)
    (.seq (.rg [⟨(some 4), .mv (.k (.d (.int .i64 0))), none⟩])
    .ret)
    .skip))
  (.seq (.rg [⟨(some 4), .mv (.k (.d (.int .i64 (-1)))), none⟩])
  .ret))
  .skip))
(.seq (.seq (.rg [⟨(some 13), .mv (.t 6), none⟩])
(.cond (.t 13)
  (.seq (.rg [⟨(some 4), .mv (.k (.d (.int .i64 1))), none⟩])
  .ret)
  .skip))
(.seq (.seq (.rg [⟨(some 14), .mv (.t 0), none⟩,
  ⟨(some 15), .mv (.t 1), none⟩,
  ⟨(some 16), .bin .lss (.t 14) (.t 15), none⟩])
(.cond (.t 16)
  (.seq (.rg [⟨(some 4), .mv (.k (.d (.int .i64 (-1)))), none⟩])
  .ret)
  .skip))
(.seq (.seq (.rg [⟨(some 17), .mv (.t 0), none⟩,
  ⟨(some 18), .mv (.t 1), none⟩,
  ⟨(some 19), .bin .gtr (.t 17) (.t 18), none⟩])
(.cond (.t 19)
  (.seq (.rg [⟨(some 4), .mv (.k (.d (.int .i64 1))), none⟩])
  .ret)
  .skip))
(.seq (.rg [⟨(some 4), .mv (.k (.d (.int .i64 0))), none⟩])
.ret)))))))) }
theorem af14_ok : cFun Try.prog eqT Try.f14 = some af14 := by kernel_rfl
/-- slices.CompareFunc[[]dossier/api.Val,[]dossier/api.Val,dossier/api.Val,dossier/api.Val] -/
noncomputable def af15 : AFun := { np := 3, nt := 39, res := [.t 6], code :=
(.seq (.rg [⟨(some 6), .mv (.k (.d (.int .i64 0))), none⟩])
(.seq (.seq (.rg [⟨(some 11), .mv (.t 0), none⟩,
  ⟨(some 12), .lenq false (.t 11), none⟩,
  ⟨(some 13), .mv (.k (.d (.int .i64 0))), none⟩])
(.block 0
  (.loop
    (.seq (.rg [⟨(some 14), .bin .lss (.t 13) (.t 12), none⟩])
    (.seq (.cond (.t 14)
      .skip
      (.exit 0))
    (.seq (.block 1
      (.seq (.rg [⟨(some 15), .mv (.t 13), none⟩,
        ⟨(some 16), .iad 6 (.t 11) (.t 13), none⟩,
        ⟨(some 17), .ld (some 6) (.t 16), none⟩,
        ⟨(some 8), .new [.d (.int .i64 0), .d (.bool false), .d (.int .i64 0), .d (.int .i64 0), .d (.str []), .nils], none⟩,
        ⟨(some 7), .mv (.t 15), none⟩,
        ⟨none, .st 6 (.t 8) (.t 17), none⟩])
      (.seq (.seq (.rg [⟨(some 18), .mv (.t 7), none⟩,
        ⟨(some 19), .mv (.t 1), none⟩,
        ⟨(some 20), .lenq false (.t 19), none⟩,
        ⟨(some 21), .bin .geq (.t 18) (.t 20), none⟩])
      (.cond (.t 21)
        (.seq (.rg [⟨(some 6), .mv (.k (.d (.int .i64 1))), none⟩])
        .ret)
        .skip))
      (.seq (.rg [⟨(some 22), .mv (.t 1), none⟩,
        ⟨(some 23), .mv (.t 7), none⟩,
        ⟨(some 24), .iad 6 (.t 22) (.t 23), none⟩,
        ⟨(some 25), .ld (some 6) (.t 24), none⟩,
        ⟨(some 9), .new [.d (.int .i64 0), .d (.bool false), .d (.int .i64 0), .d (.int .i64 0), .d (.str []), .nils], none⟩,
        ⟨none, .st 6 (.t 9) (.t 25), none⟩])
      (.seq (.rg [⟨(some 26), .mv (.t 2), none⟩,
        ⟨(some 27), .ld (some 6) (.t 8), none⟩,
        ⟨(some 28), .ld (some 6) (.t 9), none⟩,
        ⟨(some 29), .call (.t 26) [(.t 27), (.t 28)], none⟩,
        ⟨(some 10), .mv (.t 29), none⟩])
      (.seq (.rg [⟨(some 30), .mv (.t 10), none⟩,
        ⟨(some 31), .bin .neq (.t 30) (.k (.d (.int .i64 0))), none⟩])
      (.cond (.t 31)
        (.seq (.rg [⟨(some 32), .mv (.t 10), none⟩,
          ⟨(some 6), .mv (.t 32), none⟩])
        .ret)
        .skip)))))))
    (.rg [⟨(some 33), .bin .add (.t 13) (.k (.d (.int .i64 1))), none⟩,
      ⟨(some 13), .mv (.t 33), none⟩])))))))
(.seq (.seq (.rg [⟨(some 34), .mv (.t 0), none⟩,
  ⟨(some 35), .lenq false (.t 34), none⟩,
  ⟨(some 36), .mv (.t 1), none⟩,
  ⟨(some 37), .lenq false (.t 36), none⟩,
  ⟨(some 38), .bin .lss (.t 35) (.t 37), none⟩])
(.cond (.t 38)
  (.seq (.rg [⟨(some 6), .mv (.k (.d (.int .i64 (-1)))), none⟩])
  .ret)
  .skip))
(.seq (.rg [⟨(some 6), .mv (.k (.d (.int .i64 0))), none⟩])
.ret)))) }
theorem af15_ok : cFun Try.prog eqT Try.f15 = some af15 := by kernel_rfl
/-- slices.Clone[[]dossier/api.Val,dossier/api.Val] -/
noncomputable def af16 : AFun := { np := 1, nt := 8, res := [.t 2], code :=
(.seq (.rg [⟨(some 2), .mv (.k (.nils)), none⟩])
(.seq (.seq (.rg [⟨(some 3), .mv (.t 0), none⟩,
  ⟨(some 4), .eqn false (.t 3), none⟩])
(.cond (.t 4)
  (.seq (.rg [⟨(some 2), .mv (.k (.nils)), none⟩])
  .ret)
  .skip))
(.seq (.rg [⟨(some 5), .mkrow 26 6 [], none⟩,
  ⟨(some 6), .mv (.t 0), none⟩,
  ⟨(some 7), .app 26 6 72 (.t 5) (.t 6), none⟩,
  ⟨(some 2), .mv (.t 7), none⟩])
.ret))) }
theorem af16_ok : cFun Try.prog eqT Try.f16 = some af16 := by kernel_rfl
/-- dossier/val.And -/
noncomputable def af17 : AFun := { np := 2, nt := 22, res := [.c 4 (some 6)], code :=
(.seq (.rg [⟨(some 2), .box (.t 0), none⟩,
  ⟨(some 3), .box (.t 1), none⟩,
  ⟨(some 4), .new [.d (.int .i64 0), .d (.bool false), .d (.int .i64 0), .d (.int .i64 0), .d (.str []), .nils], none⟩])
(.seq (.block 0
  (.seq (.rg [⟨(some 6), .ld (some 6) (.t 2), none⟩,
    ⟨(some 7), .call (.k (.fn 26 [])) [(.t 6)], none⟩,
    ⟨(some 8), .mv (.t 7), none⟩,
    ⟨(some 9), .ld (some 6) (.t 3), some (8, false)⟩,
    ⟨(some 10), .call (.k (.fn 26 [])) [(.t 9)], some (8, false)⟩,
    ⟨(some 11), .pick (.t 8) (.k (.d (.bool true))) (.t 10), none⟩,
    ⟨(some 5), .mv (.t 11), none⟩])
  (.cond (.t 5)
    (.seq (.rg [⟨(some 12), .call (.k (.fn 27 [])) [(.k (.d (.bool false)))], none⟩,
      ⟨none, .st 6 (.t 4) (.t 12), none⟩])
    .ret)
    (.seq (.rg [⟨(some 14), .ld (some 6) (.t 2), none⟩,
      ⟨(some 15), .call (.k (.fn 19 [])) [(.t 14)], none⟩,
      ⟨(some 16), .mv (.t 15), none⟩,
      ⟨(some 17), .ld (some 6) (.t 3), some (16, true)⟩,
      ⟨(some 18), .call (.k (.fn 19 [])) [(.t 17)], some (16, true)⟩,
      ⟨(some 19), .pick (.t 16) (.t 18) (.k (.d (.bool false))), none⟩,
      ⟨(some 13), .mv (.t 19), none⟩])
    (.cond (.t 13)
      (.seq (.rg [⟨(some 20), .call (.k (.fn 27 [])) [(.k (.d (.bool true)))], none⟩,
        ⟨none, .st 6 (.t 4) (.t 20), none⟩])
      .ret)
      .skip)))))
(.seq (.rg [⟨(some 21), .build [.int .i64 0, .bool false, .int .i64 0, .int .i64 0, .str [], .sl []] [], none⟩,
  ⟨none, .st 6 (.t 4) (.t 21), none⟩])
.ret))) }
theorem af17_ok : cFun Try.prog eqT Try.f17 = some af17 := by kernel_rfl
/-- dossier/dossierlaw2.no -/
noncomputable def af18 : AFun := { np := 0, nt := 2, res := [.c 0 (some 6)], code :=
(.seq (.rg [⟨(some 0), .new [.d (.int .i64 0), .d (.bool false), .d (.int .i64 0), .d (.int .i64 0), .d (.str []), .nils], none⟩])
(.seq (.rg [⟨(some 1), .build [.int .i64 0, .bool false, .int .i64 0, .int .i64 0, .str [], .sl []] [(0, 1, (.k (.d (.int .i64 1))))], none⟩,
  ⟨none, .st 6 (.t 0) (.t 1), none⟩])
.ret)) }
theorem af18_ok : cFun Try.prog eqT Try.f18 = some af18 := by kernel_rfl
/-- dossier/val.Truth -/
noncomputable def af19 : AFun := { np := 1, nt := 10, res := [.t 2], code :=
(.seq (.rg [⟨(some 1), .box (.t 0), none⟩,
  ⟨(some 2), .mv (.k (.d (.bool false))), none⟩])
(.seq (.rg [⟨(some 3), .fad (.t 1) 0, none⟩,
  ⟨(some 4), .ld none (.t 3), none⟩,
  ⟨(some 5), .bin .eql (.t 4) (.k (.d (.int .i64 1))), none⟩,
  ⟨(some 6), .mv (.t 5), none⟩,
  ⟨(some 7), .fad (.t 1) 1, some (6, true)⟩,
  ⟨(some 8), .ld none (.t 7), some (6, true)⟩,
  ⟨(some 9), .pick (.t 6) (.t 8) (.k (.d (.bool false))), none⟩,
  ⟨(some 2), .mv (.t 9), none⟩])
.ret)) }
theorem af19_ok : cFun Try.prog eqT Try.f19 = some af19 := by kernel_rfl
/-- dossier/dossierlaw2.yes -/
noncomputable def af20 : AFun := { np := 0, nt := 2, res := [.c 0 (some 6)], code :=
(.seq (.rg [⟨(some 0), .new [.d (.int .i64 0), .d (.bool false), .d (.int .i64 0), .d (.int .i64 0), .d (.str []), .nils], none⟩])
(.seq (.rg [⟨(some 1), .build [.int .i64 0, .bool false, .int .i64 0, .int .i64 0, .str [], .sl []] [(0, 1, (.k (.d (.int .i64 1)))), (1, 1, (.k (.d (.bool true))))], none⟩,
  ⟨none, .st 6 (.t 0) (.t 1), none⟩])
.ret)) }
theorem af20_ok : cFun Try.prog eqT Try.f20 = some af20 := by kernel_rfl
/-- dossier/val.Is -/
noncomputable def af21 : AFun := { np := 1, nt := 5, res := [.t 2], code :=
(.seq (.rg [⟨(some 1), .box (.t 0), none⟩,
  ⟨(some 2), .mv (.k (.d (.bool false))), none⟩])
(.seq (.rg [⟨(some 3), .ld (some 6) (.t 1), none⟩,
  ⟨(some 4), .call (.k (.fn 28 [])) [(.t 3), (.k (.d (.int .i64 0)))], none⟩,
  ⟨(some 2), .mv (.t 4), none⟩])
.ret)) }
theorem af21_ok : cFun Try.prog eqT Try.f21 = some af21 := by kernel_rfl
/-- dossier/dossierref2.is -/
noncomputable def af22 : AFun := { np := 2, nt := 86, res := [.t 4], code :=
(.seq (.rg [⟨(some 2), .box (.t 0), none⟩,
  ⟨(some 4), .mv (.k (.d (.bool false))), none⟩])
(.seq (.seq (.rg [⟨(some 6), .fad (.t 2) 0, none⟩,
  ⟨(some 7), .ld none (.t 6), none⟩,
  ⟨(some 8), .bin .neq (.t 7) (.k (.d (.int .i64 1))), none⟩,
  ⟨(some 9), .mv (.t 8), none⟩,
  ⟨(some 10), .fad (.t 2) 1, some (9, true)⟩,
  ⟨(some 11), .ld none (.t 10), some (9, true)⟩,
  ⟨(some 12), .pick (.t 9) (.t 11) (.k (.d (.bool false))), none⟩,
  ⟨(some 13), .mv (.t 12), none⟩,
  ⟨(some 14), .fad (.t 2) 0, some (13, false)⟩,
  ⟨(some 15), .ld none (.t 14), some (13, false)⟩,
  ⟨(some 16), .bin .neq (.t 15) (.k (.d (.int .i64 2))), some (13, false)⟩,
  ⟨(some 17), .mv (.t 16), some (13, false)⟩,
  ⟨(some 18), .fad (.t 2) 2, some (17, true)⟩,
  ⟨(some 19), .ld (some 2) (.t 18), some (17, true)⟩,
  ⟨(some 20), .build [.int .i64 0, .int .i64 0] [], some (17, true)⟩,
  ⟨(some 21), .eqs 2 true (.t 19) (.t 20), some (17, true)⟩,
  ⟨(some 22), .pick (.t 17) (.t 21) (.k (.d (.bool false))), some (13, false)⟩,
  ⟨(some 23), .pick (.t 13) (.k (.d (.bool true))) (.t 22), none⟩,
  ⟨(some 24), .mv (.t 23), none⟩,
  ⟨(some 25), .fad (.t 2) 0, some (24, false)⟩,
  ⟨(some 26), .ld none (.t 25), some (24, false)⟩,
  ⟨(some 27), .bin .neq (.t 26) (.k (.d (.int .i64 3))), some (24, false)⟩,
  ⟨(some 28), .mv (.t 27), some (24, false)⟩,
  ⟨(some 29), .fad (.t 2) 4, some (28, true)⟩,
  ⟨(some 30), .ld none (.t 29), some (28, true)⟩,
  ⟨(some 31), .bin .neq (.t 30) (.k (.d (.str []))), some (28, true)⟩,
  ⟨(some 32), .pick (.t 28) (.t 31) (.k (.d (.bool false))), some (24, false)⟩,
  ⟨(some 33), .pick (.t 24) (.k (.d (.bool true))) (.t 32), none⟩,
  ⟨(some 34), .mv (.t 33), none⟩,
  ⟨(some 35), .fad (.t 2) 0, some (34, false)⟩,
  ⟨(some 36), .ld none (.t 35), some (34, false)⟩,
  ⟨(some 37), .bin .neq (.t 36) (.k (.d (.int .i64 4))), some (34, false)⟩,
  ⟨(some 38), .mv (.t 37), some (34, false)⟩,
  ⟨(some 39), .fad (.t 2) 5, some (38, true)⟩,
  ⟨(some 40), .ld none (.t 39), some (38, true)⟩,
  ⟨(some 41), .lenq false (.t 40), some (38, true)⟩,
  ⟨(some 42), .bin .gtr (.t 41) (.k (.d (.int .i64 0))), some (38, true)⟩,
  ⟨(some 43), .pick (.t 38) (.t 42) (.k (.d (.bool false))), some (34, false)⟩,
  ⟨(some 44), .pick (.t 34) (.k (.d (.bool true))) (.t 43), none⟩])
(.cond (.t 44)
  (.seq (.rg [⟨(some 4), .mv (.k (.d (.bool false))), none⟩])
  .ret)
  .skip))
(.seq (.seq (.rg [⟨(some 45), .fad (.t 2) 0, none⟩,
  ⟨(some 46), .ld none (.t 45), none⟩])
(.block 0
  (.seq (.seq (.rg [⟨(some 48), .bin .eql (.t 46) (.k (.d (.int .i64 0))), none⟩,
    ⟨(some 47), .mv (.t 48), none⟩])
  (.cond (.t 47)
    .skip
    (.rg [⟨(some 49), .bin .eql (.t 46) (.k (.d (.int .i64 1))), none⟩,
      ⟨(some 47), .mv (.t 49), none⟩])))
  (.cond (.t 47)
    (.seq (.rg [⟨(some 4), .mv (.k (.d (.bool true))), none⟩])
    .ret)
    (.seq (.rg [⟨(some 51), .bin .eql (.t 46) (.k (.d (.int .i64 2))), none⟩,
      ⟨(some 50), .mv (.t 51), none⟩])
    (.cond (.t 50)
      (.seq (.rg [⟨(some 52), .fad (.t 2) 2, none⟩,
        ⟨(some 53), .ld (some 2) (.t 52), none⟩,
        ⟨(some 54), .call (.k (.fn 29 [])) [(.t 53)], none⟩,
        ⟨(some 4), .mv (.t 54), none⟩])
      .ret)
      (.seq (.rg [⟨(some 56), .bin .eql (.t 46) (.k (.d (.int .i64 3))), none⟩,
        ⟨(some 55), .mv (.t 56), none⟩])
      (.cond (.t 55)
        (.seq (.rg [⟨(some 57), .fad (.t 2) 4, none⟩,
          ⟨(some 58), .ld none (.t 57), none⟩,
          ⟨(some 59), .call (.k (.fn 30 [])) [(.t 58)], none⟩,
          ⟨(some 4), .mv (.t 59), none⟩])
        .ret)
        (.seq (.rg [⟨(some 61), .bin .eql (.t 46) (.k (.d (.int .i64 4))), none⟩,
          ⟨(some 60), .mv (.t 61), none⟩])
        (.cond (.t 60)
          (.seq (.seq (.rg [⟨(some 62), .mv (.t 1), none⟩,
            ⟨(some 63), .bin .geq (.t 62) (.k (.d (.int .i64 2))), none⟩,
            ⟨(some 64), .mv (.t 63), none⟩,
            ⟨(some 65), .fad (.t 2) 5, some (64, false)⟩,
            ⟨(some 66), .ld none (.t 65), some (64, false)⟩,
            ⟨(some 67), .lenq false (.t 66), some (64, false)⟩,
            ⟨(some 68), .bin .gtr (.t 67) (.k (.d (.int .i64 8))), some (64, false)⟩,
            ⟨(some 69), .pick (.t 64) (.k (.d (.bool true))) (.t 68), none⟩])
          (.cond (.t 69)
            (.seq (.rg [⟨(some 4), .mv (.k (.d (.bool false))), none⟩])
            .ret)
            .skip))
          (.seq (.seq (.rg [⟨(some 5), .mv (.k (.d (.int .i64 0))), none⟩])
          (.block 1
            (.loop
              (.seq (.seq (.rg [⟨(some 70), .mv (.t 5), none⟩,
                ⟨(some 71), .fad (.t 2) 5, none⟩,
                ⟨(some 72), .ld none (.t 71), none⟩,
                ⟨(some 73), .lenq false (.t 72), none⟩,
                ⟨(some 74), .bin .lss (.t 70) (.t 73), none⟩])
              (.cond (.t 74)
                .skip
                (.exit 1)))
              (.seq (.block 2
                (.seq (.rg [⟨(some 77), .fad (.t 2) 5, none⟩,
                  ⟨(some 78), .ld none (.t 77), none⟩,
                  ⟨(some 79), .mv (.t 5), none⟩,
                  ⟨(some 80), .iad 6 (.t 78) (.t 79), none⟩,
                  ⟨(some 81), .ld (some 6) (.t 80), none⟩,
                  ⟨(some 82), .mv (.t 1), none⟩,
                  ⟨(some 83), .bin .add (.t 82) (.k (.d (.int .i64 1))), none⟩,
                  ⟨(some 84), .call (.k (.fn 22 [])) [(.t 81), (.t 83)], none⟩,
                  ⟨(some 85), .un .not (.t 84), none⟩])
                (.cond (.t 85)
                  (.seq (.rg [⟨(some 4), .mv (.k (.d (.bool false))), none⟩])
                  .ret)
                  .skip)))
              (.rg [⟨(some 75), .mv (.t 5), none⟩,
                ⟨(some 76), .bin .add (.t 75) (.k (.d (.int .i64 1))), none⟩,
                ⟨(some 5), .mv (.t 76), none⟩]))))))
          (.seq (.rg [⟨(some 4), .mv (.k (.d (.bool true))), none⟩])
          .ret)))
          .skip))))))))))
(.seq (.rg [⟨(some 4), .mv (.k (.d (.bool false))), none⟩])
.ret)))) }
theorem af22_ok : cFun Try.prog eqT Try.f22 = some af22 := by kernel_rfl
/-- cmp.isNaN[int] -/
noncomputable def af23 : AFun := { np := 1, nt := 6, res := [.t 2], code :=
(.seq (.rg [⟨(some 2), .mv (.k (.d (.bool false))), none⟩])
(.seq (.rg [⟨(some 3), .mv (.t 0), none⟩,
  ⟨(some 4), .mv (.t 0), none⟩,
  ⟨(some 5), .bin .neq (.t 3) (.t 4), none⟩,
  ⟨(some 2), .mv (.t 5), none⟩])
.ret)) }
theorem af23_ok : cFun Try.prog eqT Try.f23 = some af23 := by kernel_rfl
/-- dossier/dec.scaled -/
noncomputable def af24 : AFun := { np := 2, nt := 13, res := [.t 4], code :=
(.seq (.rg [⟨(some 2), .box (.t 0), none⟩,
  ⟨(some 4), .mv (.k (.d (.int .i64 0))), none⟩])
(.seq (.rd [⟨(some 5), .fad (.t 2) 0, none⟩,
  ⟨(some 6), .ld none (.t 5), none⟩,
  ⟨(some 7), .mv (.t 1), none⟩,
  ⟨(some 8), .fad (.t 2) 1, none⟩,
  ⟨(some 9), .ld none (.t 8), none⟩,
  ⟨(some 10), .bin .sub (.t 7) (.t 9), none⟩,
  ⟨(some 11), .call (.k (.fn 31 [])) [(.t 10)], none⟩,
  ⟨(some 12), .bin .mul (.t 6) (.t 11), none⟩,
  ⟨(some 4), .mv (.t 12), none⟩] [(1, 6), (4, 6)])
.ret)) }
theorem af24_ok : cFun Try.prog eqT Try.f24 = some af24 := by kernel_rfl
/-- cmp.isNaN[string] -/
noncomputable def af25 : AFun := { np := 1, nt := 6, res := [.t 2], code :=
(.seq (.rg [⟨(some 2), .mv (.k (.d (.bool false))), none⟩])
(.seq (.rg [⟨(some 3), .mv (.t 0), none⟩,
  ⟨(some 4), .mv (.t 0), none⟩,
  ⟨(some 5), .bin .neq (.t 3) (.t 4), none⟩,
  ⟨(some 2), .mv (.t 5), none⟩])
.ret)) }
theorem af25_ok : cFun Try.prog eqT Try.f25 = some af25 := by kernel_rfl
/-- dossier/val.falsehood -/
noncomputable def af26 : AFun := { np := 1, nt := 11, res := [.t 2], code :=
(.seq (.rg [⟨(some 1), .box (.t 0), none⟩,
  ⟨(some 2), .mv (.k (.d (.bool false))), none⟩])
(.seq (.rg [⟨(some 3), .fad (.t 1) 0, none⟩,
  ⟨(some 4), .ld none (.t 3), none⟩,
  ⟨(some 5), .bin .eql (.t 4) (.k (.d (.int .i64 1))), none⟩,
  ⟨(some 6), .mv (.t 5), none⟩,
  ⟨(some 7), .fad (.t 1) 1, some (6, true)⟩,
  ⟨(some 8), .ld none (.t 7), some (6, true)⟩,
  ⟨(some 9), .un .not (.t 8), some (6, true)⟩,
  ⟨(some 10), .pick (.t 6) (.t 9) (.k (.d (.bool false))), none⟩,
  ⟨(some 2), .mv (.t 10), none⟩])
.ret)) }
theorem af26_ok : cFun Try.prog eqT Try.f26 = some af26 := by kernel_rfl
/-- dossier/val.truth -/
noncomputable def af27 : AFun := { np := 1, nt := 5, res := [.c 2 (some 6)], code :=
(.seq (.rg [⟨(some 2), .new [.d (.int .i64 0), .d (.bool false), .d (.int .i64 0), .d (.int .i64 0), .d (.str []), .nils], none⟩])
(.seq (.rg [⟨(some 3), .mv (.t 0), none⟩,
  ⟨(some 4), .build [.int .i64 0, .bool false, .int .i64 0, .int .i64 0, .str [], .sl []] [(0, 1, (.k (.d (.int .i64 1)))), (1, 1, (.t 3))], none⟩,
  ⟨none, .st 6 (.t 2) (.t 4), none⟩])
.ret)) }
theorem af27_ok : cFun Try.prog eqT Try.f27 = some af27 := by kernel_rfl
/-- dossier/val.may -/
noncomputable def af28 : AFun := { np := 2, nt := 70, res := [.t 4], code :=
(.seq (.rg [⟨(some 2), .box (.t 0), none⟩,
  ⟨(some 3), .box (.t 1), none⟩,
  ⟨(some 4), .mv (.k (.d (.bool false))), none⟩])
(.seq (.rg [⟨(some 7), .ld (some 6) (.t 2), none⟩,
  ⟨(some 8), .call (.k (.fn 32 [])) [(.t 7)], none⟩,
  ⟨(some 5), .new [.d (.int .i64 0), .d (.bool false), .d (.int .i64 0), .d (.int .i64 0), .d (.str []), .nils], none⟩,
  ⟨none, .st 6 (.t 5) (.t 8), none⟩])
(.seq (.seq (.rg [⟨(some 9), .fad (.t 5) 1, none⟩,
  ⟨(some 10), .ld none (.t 9), none⟩,
  ⟨(some 11), .fad (.t 2) 1, none⟩,
  ⟨(some 12), .ld none (.t 11), none⟩,
  ⟨(some 13), .eqb true (.t 10) (.t 12), none⟩,
  ⟨(some 14), .mv (.t 13), none⟩,
  ⟨(some 15), .fad (.t 5) 2, some (14, false)⟩,
  ⟨(some 16), .ld (some 2) (.t 15), some (14, false)⟩,
  ⟨(some 17), .fad (.t 2) 2, some (14, false)⟩,
  ⟨(some 18), .ld (some 2) (.t 17), some (14, false)⟩,
  ⟨(some 19), .eqs 2 true (.t 16) (.t 18), some (14, false)⟩,
  ⟨(some 20), .pick (.t 14) (.k (.d (.bool true))) (.t 19), none⟩,
  ⟨(some 21), .mv (.t 20), none⟩,
  ⟨(some 22), .fad (.t 5) 4, some (21, false)⟩,
  ⟨(some 23), .ld none (.t 22), some (21, false)⟩,
  ⟨(some 24), .fad (.t 2) 4, some (21, false)⟩,
  ⟨(some 25), .ld none (.t 24), some (21, false)⟩,
  ⟨(some 26), .bin .neq (.t 23) (.t 25), some (21, false)⟩,
  ⟨(some 27), .pick (.t 21) (.k (.d (.bool true))) (.t 26), none⟩,
  ⟨(some 28), .mv (.t 27), none⟩,
  ⟨(some 29), .fad (.t 5) 5, some (28, false)⟩,
  ⟨(some 30), .ld none (.t 29), some (28, false)⟩,
  ⟨(some 31), .lenq false (.t 30), some (28, false)⟩,
  ⟨(some 32), .fad (.t 2) 5, some (28, false)⟩,
  ⟨(some 33), .ld none (.t 32), some (28, false)⟩,
  ⟨(some 34), .lenq false (.t 33), some (28, false)⟩,
  ⟨(some 35), .bin .neq (.t 31) (.t 34), some (28, false)⟩,
  ⟨(some 36), .pick (.t 28) (.k (.d (.bool true))) (.t 35), none⟩])
(.cond (.t 36)
  (.seq (.rg [⟨(some 4), .mv (.k (.d (.bool false))), none⟩])
  .ret)
  .skip))
(.seq (.seq (.rg [⟨(some 37), .fad (.t 2) 0, none⟩,
  ⟨(some 38), .ld none (.t 37), none⟩])
(.block 0
  (.seq (.seq (.rg [⟨(some 40), .bin .eql (.t 38) (.k (.d (.int .i64 0))), none⟩,
    ⟨(some 39), .mv (.t 40), none⟩])
  (.cond (.t 39)
    .skip
    (.rg [⟨(some 41), .bin .eql (.t 38) (.k (.d (.int .i64 1))), none⟩,
      ⟨(some 39), .mv (.t 41), none⟩])))
  (.cond (.t 39)
    (.seq (.rg [⟨(some 4), .mv (.k (.d (.bool true))), none⟩])
    .ret)
    (.seq (.rg [⟨(some 43), .bin .eql (.t 38) (.k (.d (.int .i64 2))), none⟩,
      ⟨(some 42), .mv (.t 43), none⟩])
    (.cond (.t 42)
      (.seq (.rg [⟨(some 44), .fad (.t 2) 2, none⟩,
        ⟨(some 45), .ld (some 2) (.t 44), none⟩,
        ⟨(some 46), .call (.k (.fn 33 [])) [(.t 45)], none⟩,
        ⟨(some 4), .mv (.t 46), none⟩])
      .ret)
      (.seq (.rg [⟨(some 48), .bin .eql (.t 38) (.k (.d (.int .i64 3))), none⟩,
        ⟨(some 47), .mv (.t 48), none⟩])
      (.cond (.t 47)
        (.seq (.rg [⟨(some 49), .fad (.t 2) 4, none⟩,
          ⟨(some 50), .ld none (.t 49), none⟩,
          ⟨(some 51), .call (.k (.fn 34 [])) [(.t 50)], none⟩,
          ⟨(some 4), .mv (.t 51), none⟩])
        .ret)
        (.seq (.rg [⟨(some 53), .bin .eql (.t 38) (.k (.d (.int .i64 4))), none⟩,
          ⟨(some 52), .mv (.t 53), none⟩])
        (.cond (.t 52)
          (.seq (.rg [⟨(some 54), .fnv 35 [(.t 3)], none⟩,
            ⟨(some 6), .mv (.t 54), none⟩])
          (.seq (.rg [⟨(some 55), .ld none (.t 3), none⟩,
            ⟨(some 56), .bin .lss (.t 55) (.k (.d (.int .i64 2))), none⟩,
            ⟨(some 57), .mv (.t 56), none⟩,
            ⟨(some 58), .fad (.t 2) 5, some (57, true)⟩,
            ⟨(some 59), .ld none (.t 58), some (57, true)⟩,
            ⟨(some 60), .lenq false (.t 59), some (57, true)⟩,
            ⟨(some 61), .bin .leq (.t 60) (.k (.d (.int .i64 8))), some (57, true)⟩,
            ⟨(some 62), .pick (.t 57) (.t 61) (.k (.d (.bool false))), none⟩,
            ⟨(some 63), .mv (.t 62), none⟩,
            ⟨(some 64), .fad (.t 2) 5, some (63, true)⟩,
            ⟨(some 65), .ld none (.t 64), some (63, true)⟩,
            ⟨(some 66), .mv (.t 6), some (63, true)⟩,
            ⟨(some 67), .call (.k (.fn 36 [])) [(.t 65), (.t 66)], some (63, true)⟩,
            ⟨(some 68), .un .not (.t 67), some (63, true)⟩,
            ⟨(some 69), .pick (.t 63) (.t 68) (.k (.d (.bool false))), none⟩,
            ⟨(some 4), .mv (.t 69), none⟩])
          .ret))
          .skip))))))))))
(.seq (.rg [⟨(some 4), .mv (.k (.d (.bool false))), none⟩])
.ret))))) }
theorem af28_ok : cFun Try.prog eqT Try.f28 = some af28 := by kernel_rfl
/-- dossier/dossierref1.Is -/
noncomputable def af29 : AFun := { np := 1, nt := 32, res := [.t 2], code :=
(.seq (.rg [⟨(some 1), .box (.t 0), none⟩,
  ⟨(some 2), .mv (.k (.d (.bool false))), none⟩])
(.seq (.rg [⟨(some 3), .fad (.t 1) 0, none⟩,
  ⟨(some 4), .ld none (.t 3), none⟩,
  ⟨(some 5), .bin .geq (.t 4) (.k (.d (.int .i64 (-1000000000)))), none⟩,
  ⟨(some 6), .mv (.t 5), none⟩,
  ⟨(some 7), .fad (.t 1) 0, some (6, true)⟩,
  ⟨(some 8), .ld none (.t 7), some (6, true)⟩,
  ⟨(some 9), .bin .leq (.t 8) (.k (.d (.int .i64 1000000000))), some (6, true)⟩,
  ⟨(some 10), .pick (.t 6) (.t 9) (.k (.d (.bool false))), none⟩,
  ⟨(some 11), .mv (.t 10), none⟩,
  ⟨(some 12), .fad (.t 1) 1, some (11, true)⟩,
  ⟨(some 13), .ld none (.t 12), some (11, true)⟩,
  ⟨(some 14), .bin .geq (.t 13) (.k (.d (.int .i64 0))), some (11, true)⟩,
  ⟨(some 15), .pick (.t 11) (.t 14) (.k (.d (.bool false))), none⟩,
  ⟨(some 16), .mv (.t 15), none⟩,
  ⟨(some 17), .fad (.t 1) 1, some (16, true)⟩,
  ⟨(some 18), .ld none (.t 17), some (16, true)⟩,
  ⟨(some 19), .bin .leq (.t 18) (.k (.d (.int .i64 4))), some (16, true)⟩,
  ⟨(some 20), .pick (.t 16) (.t 19) (.k (.d (.bool false))), none⟩,
  ⟨(some 21), .mv (.t 20), none⟩,
  ⟨(some 22), .fad (.t 1) 1, some (21, true)⟩,
  ⟨(some 23), .ld none (.t 22), some (21, true)⟩,
  ⟨(some 24), .bin .eql (.t 23) (.k (.d (.int .i64 0))), some (21, true)⟩,
  ⟨(some 25), .mv (.t 24), some (21, true)⟩,
  ⟨(some 26), .fad (.t 1) 0, some (25, false)⟩,
  ⟨(some 27), .ld none (.t 26), some (25, false)⟩,
  ⟨(some 28), .bin .rem (.t 27) (.k (.d (.int .i64 10))), some (25, false)⟩,
  ⟨(some 29), .bin .neq (.t 28) (.k (.d (.int .i64 0))), some (25, false)⟩,
  ⟨(some 30), .pick (.t 25) (.k (.d (.bool true))) (.t 29), some (21, true)⟩,
  ⟨(some 31), .pick (.t 21) (.t 30) (.k (.d (.bool false))), none⟩,
  ⟨(some 2), .mv (.t 31), none⟩])
.ret)) }
theorem af29_ok : cFun Try.prog eqT Try.f29 = some af29 := by kernel_rfl
/-- dossier/dossierref2.text -/
noncomputable def af30 : AFun := { np := 1, nt := 29, res := [.t 2], code :=
(.seq (.rg [⟨(some 2), .mv (.k (.d (.bool false))), none⟩])
(.seq (.seq (.rg [⟨(some 3), .mv (.k (.d (.int .i64 0))), none⟩])
(.block 0
  (.loop
    (.seq (.seq (.rg [⟨(some 4), .mv (.t 3), none⟩,
      ⟨(some 5), .mv (.t 0), none⟩,
      ⟨(some 6), .lenq true (.t 5), none⟩,
      ⟨(some 7), .bin .lss (.t 4) (.t 6), none⟩])
    (.cond (.t 7)
      .skip
      (.exit 0)))
    (.seq (.block 1
      (.seq (.rg [⟨(some 10), .mv (.t 0), none⟩,
        ⟨(some 11), .mv (.t 3), none⟩,
        ⟨(some 12), .ixs (.t 10) (.t 11), none⟩,
        ⟨(some 13), .bin .lss (.t 12) (.k (.d (.int .u8 32))), none⟩,
        ⟨(some 14), .mv (.t 13), none⟩,
        ⟨(some 15), .mv (.t 0), some (14, false)⟩,
        ⟨(some 16), .mv (.t 3), some (14, false)⟩,
        ⟨(some 17), .ixs (.t 15) (.t 16), some (14, false)⟩,
        ⟨(some 18), .bin .gtr (.t 17) (.k (.d (.int .u8 126))), some (14, false)⟩,
        ⟨(some 19), .pick (.t 14) (.k (.d (.bool true))) (.t 18), none⟩,
        ⟨(some 20), .mv (.t 19), none⟩,
        ⟨(some 21), .mv (.t 0), some (20, false)⟩,
        ⟨(some 22), .mv (.t 3), some (20, false)⟩,
        ⟨(some 23), .ixs (.t 21) (.t 22), some (20, false)⟩,
        ⟨(some 24), .bin .eql (.t 23) (.k (.d (.int .u8 34))), some (20, false)⟩,
        ⟨(some 25), .pick (.t 20) (.k (.d (.bool true))) (.t 24), none⟩])
      (.cond (.t 25)
        (.seq (.rg [⟨(some 2), .mv (.k (.d (.bool false))), none⟩])
        .ret)
        .skip)))
    (.rg [⟨(some 8), .mv (.t 3), none⟩,
      ⟨(some 9), .bin .add (.t 8) (.k (.d (.int .i64 1))), none⟩,
      ⟨(some 3), .mv (.t 9), none⟩]))))))
(.seq (.rg [⟨(some 26), .mv (.t 0), none⟩,
  ⟨(some 27), .lenq true (.t 26), none⟩,
  ⟨(some 28), .bin .leq (.t 27) (.k (.d (.int .i64 16))), none⟩,
  ⟨(some 2), .mv (.t 28), none⟩])
.ret))) }
theorem af30_ok : cFun Try.prog eqT Try.f30 = some af30 := by kernel_rfl
/-- dossier/dec.power -/
noncomputable def af31 : AFun := { np := 1, nt := 11, res := [.t 2], code :=
(.seq (.rg [⟨(some 2), .mv (.k (.d (.int .i64 0))), none⟩])
(.seq (.rg [⟨(some 3), .mv (.k (.d (.int .i64 1))), none⟩])
(.seq (.seq (.rg [⟨(some 4), .mv (.t 0), none⟩,
  ⟨(some 5), .mv (.k (.d (.int .i64 0))), none⟩])
(.block 0
  (.loop
    (.seq (.rg [⟨(some 6), .bin .lss (.t 5) (.t 4), none⟩])
    (.seq (.cond (.t 6)
      .skip
      (.exit 0))
    (.seq (.block 1
      (.rg [⟨(some 7), .mv (.t 3), none⟩,
        ⟨(some 8), .bin .mul (.t 7) (.k (.d (.int .i64 10))), none⟩,
        ⟨(some 3), .mv (.t 8), none⟩]))
    (.rg [⟨(some 9), .bin .add (.t 5) (.k (.d (.int .i64 1))), none⟩,
      ⟨(some 5), .mv (.t 9), none⟩])))))))
(.seq (.rg [⟨(some 10), .mv (.t 3), none⟩,
  ⟨(some 2), .mv (.t 10), none⟩])
.ret)))) }
theorem af31_ok : cFun Try.prog eqT Try.f31 = some af31 := by kernel_rfl
/-- dossier/val.named -/
noncomputable def af32 : AFun := { np := 1, nt := 30, res := [.c 2 (some 6)], code :=
(.seq (.rg [⟨(some 1), .box (.t 0), none⟩,
  ⟨(some 2), .new [.d (.int .i64 0), .d (.bool false), .d (.int .i64 0), .d (.int .i64 0), .d (.str []), .nils], none⟩])
(.seq (.rg [⟨(some 4), .fad (.t 1) 0, none⟩,
  ⟨(some 5), .ld none (.t 4), none⟩,
  ⟨(some 6), .build [.int .i64 0, .bool false, .int .i64 0, .int .i64 0, .str [], .sl []] [(0, 1, (.t 5))], none⟩,
  ⟨(some 3), .new [.d (.int .i64 0), .d (.bool false), .d (.int .i64 0), .d (.int .i64 0), .d (.str []), .nils], none⟩,
  ⟨none, .st 6 (.t 3) (.t 6), none⟩])
(.seq (.seq (.rg [⟨(some 7), .fad (.t 1) 0, none⟩,
  ⟨(some 8), .ld none (.t 7), none⟩])
(.block 0
  (.seq (.rg [⟨(some 10), .bin .eql (.t 8) (.k (.d (.int .i64 1))), none⟩,
    ⟨(some 9), .mv (.t 10), none⟩])
  (.cond (.t 9)
    (.rg [⟨(some 11), .fad (.t 1) 1, none⟩,
      ⟨(some 12), .ld none (.t 11), none⟩,
      ⟨(some 13), .fad (.t 3) 1, none⟩,
      ⟨none, .st 1 (.t 13) (.t 12), none⟩])
    (.seq (.rg [⟨(some 15), .bin .eql (.t 8) (.k (.d (.int .i64 2))), none⟩,
      ⟨(some 14), .mv (.t 15), none⟩])
    (.cond (.t 14)
      (.rg [⟨(some 16), .fad (.t 1) 2, none⟩,
        ⟨(some 17), .ld (some 2) (.t 16), none⟩,
        ⟨(some 18), .fad (.t 3) 2, none⟩,
        ⟨none, .st 2 (.t 18) (.t 17), none⟩])
      (.seq (.rg [⟨(some 20), .bin .eql (.t 8) (.k (.d (.int .i64 3))), none⟩,
        ⟨(some 19), .mv (.t 20), none⟩])
      (.cond (.t 19)
        (.rg [⟨(some 21), .fad (.t 1) 4, none⟩,
          ⟨(some 22), .ld none (.t 21), none⟩,
          ⟨(some 23), .fad (.t 3) 4, none⟩,
          ⟨none, .st 1 (.t 23) (.t 22), none⟩])
        (.seq (.rg [⟨(some 25), .bin .eql (.t 8) (.k (.d (.int .i64 4))), none⟩,
          ⟨(some 24), .mv (.t 25), none⟩])
        (.cond (.t 24)
          (.rg [⟨(some 26), .fad (.t 1) 5, none⟩,
            ⟨(some 27), .ld none (.t 26), none⟩,
            ⟨(some 28), .fad (.t 3) 5, none⟩,
            ⟨none, .st 1 (.t 28) (.t 27), none⟩])
          .skip))))))))))
(.seq (.rg [⟨(some 29), .ld (some 6) (.t 3), none⟩,
  ⟨none, .st 6 (.t 2) (.t 29), none⟩])
.ret)))) }
theorem af32_ok : cFun Try.prog eqT Try.f32 = some af32 := by kernel_rfl
/-- dossier/dec.Is -/
noncomputable def af33 : AFun := { np := 1, nt := 32, res := [.t 2], code :=
(.seq (.rg [⟨(some 1), .box (.t 0), none⟩,
  ⟨(some 2), .mv (.k (.d (.bool false))), none⟩])
(.seq (.rg [⟨(some 3), .fad (.t 1) 0, none⟩,
  ⟨(some 4), .ld none (.t 3), none⟩,
  ⟨(some 5), .bin .geq (.t 4) (.k (.d (.int .i64 (-1000000000)))), none⟩,
  ⟨(some 6), .mv (.t 5), none⟩,
  ⟨(some 7), .fad (.t 1) 0, some (6, true)⟩,
  ⟨(some 8), .ld none (.t 7), some (6, true)⟩,
  ⟨(some 9), .bin .leq (.t 8) (.k (.d (.int .i64 1000000000))), some (6, true)⟩,
  ⟨(some 10), .pick (.t 6) (.t 9) (.k (.d (.bool false))), none⟩,
  ⟨(some 11), .mv (.t 10), none⟩,
  ⟨(some 12), .fad (.t 1) 1, some (11, true)⟩,
  ⟨(some 13), .ld none (.t 12), some (11, true)⟩,
  ⟨(some 14), .bin .geq (.t 13) (.k (.d (.int .i64 0))), some (11, true)⟩,
  ⟨(some 15), .pick (.t 11) (.t 14) (.k (.d (.bool false))), none⟩,
  ⟨(some 16), .mv (.t 15), none⟩,
  ⟨(some 17), .fad (.t 1) 1, some (16, true)⟩,
  ⟨(some 18), .ld none (.t 17), some (16, true)⟩,
  ⟨(some 19), .bin .leq (.t 18) (.k (.d (.int .i64 4))), some (16, true)⟩,
  ⟨(some 20), .pick (.t 16) (.t 19) (.k (.d (.bool false))), none⟩,
  ⟨(some 21), .mv (.t 20), none⟩,
  ⟨(some 22), .fad (.t 1) 1, some (21, true)⟩,
  ⟨(some 23), .ld none (.t 22), some (21, true)⟩,
  ⟨(some 24), .bin .eql (.t 23) (.k (.d (.int .i64 0))), some (21, true)⟩,
  ⟨(some 25), .mv (.t 24), some (21, true)⟩,
  ⟨(some 26), .fad (.t 1) 0, some (25, false)⟩,
  ⟨(some 27), .ld none (.t 26), some (25, false)⟩,
  ⟨(some 28), .bin .rem (.t 27) (.k (.d (.int .i64 10))), some (25, false)⟩,
  ⟨(some 29), .bin .neq (.t 28) (.k (.d (.int .i64 0))), some (25, false)⟩,
  ⟨(some 30), .pick (.t 25) (.k (.d (.bool true))) (.t 29), some (21, true)⟩,
  ⟨(some 31), .pick (.t 21) (.t 30) (.k (.d (.bool false))), none⟩,
  ⟨(some 2), .mv (.t 31), none⟩])
.ret)) }
theorem af33_ok : cFun Try.prog eqT Try.f33 = some af33 := by kernel_rfl
/-- dossier/val.isText -/
noncomputable def af34 : AFun := { np := 1, nt := 13, res := [.t 2], code :=
(.seq (.rg [⟨(some 2), .mv (.k (.d (.bool false))), none⟩])
(.seq (.rg [⟨(some 3), .mv (.k (.fn 37 [])), none⟩])
(.seq (.rg [⟨(some 4), .mv (.t 0), none⟩,
  ⟨(some 5), .lenq true (.t 4), none⟩,
  ⟨(some 6), .bin .leq (.t 5) (.k (.d (.int .i64 16))), none⟩,
  ⟨(some 7), .mv (.t 6), none⟩,
  ⟨(some 8), .mv (.t 0), some (7, true)⟩,
  ⟨(some 9), .mv (.t 3), some (7, true)⟩,
  ⟨(some 10), .call (.k (.fn 38 [])) [(.t 8), (.t 9)], some (7, true)⟩,
  ⟨(some 11), .bin .lss (.t 10) (.k (.d (.int .i64 0))), some (7, true)⟩,
  ⟨(some 12), .pick (.t 7) (.t 11) (.k (.d (.bool false))), none⟩,
  ⟨(some 2), .mv (.t 12), none⟩])
.ret))) }
theorem af34_ok : cFun Try.prog eqT Try.f34 = some af34 := by kernel_rfl
/-- dossier/val.may$1 -/
noncomputable def af35 : AFun := { np := 2, nt := 9, res := [.t 3], code :=
(.seq (.rg [⟨(some 2), .box (.t 0), none⟩,
  ⟨(some 3), .mv (.k (.d (.bool false))), none⟩])
(.seq (.rg [⟨(some 4), .ld (some 6) (.t 2), none⟩,
  ⟨(some 5), .ld none (.t 1), none⟩,
  ⟨(some 6), .bin .add (.t 5) (.k (.d (.int .i64 1))), none⟩,
  ⟨(some 7), .call (.k (.fn 28 [])) [(.t 4), (.t 6)], none⟩,
  ⟨(some 8), .un .not (.t 7), none⟩,
  ⟨(some 3), .mv (.t 8), none⟩])
.ret)) }
theorem af35_ok : cFun Try.prog eqT Try.f35 = some af35 := by kernel_rfl
/-- slices.ContainsFunc[[]dossier/api.Val,dossier/api.Val] -/
noncomputable def af36 : AFun := { np := 2, nt := 9, res := [.t 4], code :=
(.seq (.rg [⟨(some 4), .mv (.k (.d (.bool false))), none⟩])
(.seq (.rg [⟨(some 5), .mv (.t 0), none⟩,
  ⟨(some 6), .mv (.t 1), none⟩,
  ⟨(some 7), .call (.k (.fn 39 [])) [(.t 5), (.t 6)], none⟩,
  ⟨(some 8), .bin .geq (.t 7) (.k (.d (.int .i64 0))), none⟩,
  ⟨(some 4), .mv (.t 8), none⟩])
.ret)) }
theorem af36_ok : cFun Try.prog eqT Try.f36 = some af36 := by kernel_rfl
/-- dossier/val.isText$1 -/
noncomputable def af37 : AFun := { np := 1, nt := 13, res := [.t 2], code :=
(.seq (.rg [⟨(some 2), .mv (.k (.d (.bool false))), none⟩])
(.seq (.rg [⟨(some 3), .mv (.t 0), none⟩,
  ⟨(some 4), .bin .lss (.t 3) (.k (.d (.int .i32 32))), none⟩,
  ⟨(some 5), .mv (.t 4), none⟩,
  ⟨(some 6), .mv (.t 0), some (5, false)⟩,
  ⟨(some 7), .bin .gtr (.t 6) (.k (.d (.int .i32 126))), some (5, false)⟩,
  ⟨(some 8), .pick (.t 5) (.k (.d (.bool true))) (.t 7), none⟩,
  ⟨(some 9), .mv (.t 8), none⟩,
  ⟨(some 10), .mv (.t 0), some (9, false)⟩,
  ⟨(some 11), .bin .eql (.t 10) (.k (.d (.int .i32 34))), some (9, false)⟩,
  ⟨(some 12), .pick (.t 9) (.k (.d (.bool true))) (.t 11), none⟩,
  ⟨(some 2), .mv (.t 12), none⟩])
.ret)) }
theorem af37_ok : cFun Try.prog eqT Try.f37 = some af37 := by kernel_rfl
/-- strings.IndexFunc -/
noncomputable def af38 : AFun := { np := 2, nt := 8, res := [.t 4], code :=
(.seq (.rg [⟨(some 4), .mv (.k (.d (.int .i64 0))), none⟩])
(.seq (.rg [⟨(some 5), .mv (.t 0), none⟩,
  ⟨(some 6), .mv (.t 1), none⟩,
  ⟨(some 7), .call (.k (.fn 40 [])) [(.t 5), (.t 6), (.k (.d (.bool true)))], none⟩,
  ⟨(some 4), .mv (.t 7), none⟩])
.ret)) }
theorem af38_ok : cFun Try.prog eqT Try.f38 = some af38 := by kernel_rfl
/-- slices.IndexFunc[[]dossier/api.Val,dossier/api.Val] -/
noncomputable def af39 : AFun := { np := 2, nt := 19, res := [.t 4], code :=
(.seq (.rg [⟨(some 4), .mv (.k (.d (.int .i64 0))), none⟩])
(.seq (.seq (.rg [⟨(some 6), .mv (.t 0), none⟩,
  ⟨(some 7), .lenq false (.t 6), none⟩,
  ⟨(some 8), .mv (.k (.d (.int .i64 0))), none⟩])
(.block 0
  (.loop
    (.seq (.rg [⟨(some 9), .bin .lss (.t 8) (.t 7), none⟩])
    (.seq (.cond (.t 9)
      .skip
      (.exit 0))
    (.seq (.block 1
      (.seq (.rg [⟨(some 10), .mv (.t 8), none⟩,
        ⟨(some 5), .mv (.t 10), none⟩])
      (.seq (.rg [⟨(some 11), .mv (.t 1), none⟩,
        ⟨(some 12), .mv (.t 0), none⟩,
        ⟨(some 13), .mv (.t 5), none⟩,
        ⟨(some 14), .iad 6 (.t 12) (.t 13), none⟩,
        ⟨(some 15), .ld (some 6) (.t 14), none⟩,
        ⟨(some 16), .call (.t 11) [(.t 15)], none⟩])
      (.cond (.t 16)
        (.seq (.rg [⟨(some 17), .mv (.t 5), none⟩,
          ⟨(some 4), .mv (.t 17), none⟩])
        .ret)
        .skip))))
    (.rg [⟨(some 18), .bin .add (.t 8) (.k (.d (.int .i64 1))), none⟩,
      ⟨(some 8), .mv (.t 18), none⟩])))))))
(.seq (.rg [⟨(some 4), .mv (.k (.d (.int .i64 (-1)))), none⟩])
.ret))) }
theorem af39_ok : cFun Try.prog eqT Try.f39 = some af39 := by kernel_rfl
noncomputable def fnT : FuncId → Option AFun
  | 2 => some af2
  | 3 => some af3
  | 4 => some af4
  | 5 => some af5
  | 6 => some af6
  | 7 => some af7
  | 8 => some af8
  | 9 => some af9
  | 10 => some af10
  | 11 => some af11
  | 12 => some af12
  | 13 => some af13
  | 14 => some af14
  | 15 => some af15
  | 16 => some af16
  | 17 => some af17
  | 18 => some af18
  | 19 => some af19
  | 20 => some af20
  | 21 => some af21
  | 22 => some af22
  | 23 => some af23
  | 24 => some af24
  | 25 => some af25
  | 26 => some af26
  | 27 => some af27
  | 28 => some af28
  | 29 => some af29
  | 30 => some af30
  | 31 => some af31
  | 32 => some af32
  | 33 => some af33
  | 34 => some af34
  | 35 => some af35
  | 36 => some af36
  | 37 => some af37
  | 38 => some af38
  | 39 => some af39
  | _ => none
theorem fnT2 : fnT 2 = some af2 := rfl
theorem fnT3 : fnT 3 = some af3 := rfl
theorem fnT4 : fnT 4 = some af4 := rfl
theorem fnT5 : fnT 5 = some af5 := rfl
theorem fnT6 : fnT 6 = some af6 := rfl
theorem fnT7 : fnT 7 = some af7 := rfl
theorem fnT8 : fnT 8 = some af8 := rfl
theorem fnT9 : fnT 9 = some af9 := rfl
theorem fnT10 : fnT 10 = some af10 := rfl
theorem fnT11 : fnT 11 = some af11 := rfl
theorem fnT12 : fnT 12 = some af12 := rfl
theorem fnT13 : fnT 13 = some af13 := rfl
theorem fnT14 : fnT 14 = some af14 := rfl
theorem fnT15 : fnT 15 = some af15 := rfl
theorem fnT16 : fnT 16 = some af16 := rfl
theorem fnT17 : fnT 17 = some af17 := rfl
theorem fnT18 : fnT 18 = some af18 := rfl
theorem fnT19 : fnT 19 = some af19 := rfl
theorem fnT20 : fnT 20 = some af20 := rfl
theorem fnT21 : fnT 21 = some af21 := rfl
theorem fnT22 : fnT 22 = some af22 := rfl
theorem fnT23 : fnT 23 = some af23 := rfl
theorem fnT24 : fnT 24 = some af24 := rfl
theorem fnT25 : fnT 25 = some af25 := rfl
theorem fnT26 : fnT 26 = some af26 := rfl
theorem fnT27 : fnT 27 = some af27 := rfl
theorem fnT28 : fnT 28 = some af28 := rfl
theorem fnT29 : fnT 29 = some af29 := rfl
theorem fnT30 : fnT 30 = some af30 := rfl
theorem fnT31 : fnT 31 = some af31 := rfl
theorem fnT32 : fnT 32 = some af32 := rfl
theorem fnT33 : fnT 33 = some af33 := rfl
theorem fnT34 : fnT 34 = some af34 := rfl
theorem fnT35 : fnT 35 = some af35 := rfl
theorem fnT36 : fnT 36 = some af36 := rfl
theorem fnT37 : fnT 37 = some af37 := rfl
theorem fnT38 : fnT 38 = some af38 := rfl
theorem fnT39 : fnT 39 = some af39 := rfl
theorem fnT_ok : ∀ f af, fnT f = some af → ∃ fn, Try.prog.funcs[f]? = some fn ∧ cFun Try.prog eqT fn = some af ∧ (fn.name == "runtime.NumGoroutine") = false := by
  intro f af h
  unfold fnT at h
  split at h
  · injection h with h; subst h; exact ⟨Try.f2, by kernel_rfl, af2_ok, by kernel_rfl⟩
  · injection h with h; subst h; exact ⟨Try.f3, by kernel_rfl, af3_ok, by kernel_rfl⟩
  · injection h with h; subst h; exact ⟨Try.f4, by kernel_rfl, af4_ok, by kernel_rfl⟩
  · injection h with h; subst h; exact ⟨Try.f5, by kernel_rfl, af5_ok, by kernel_rfl⟩
  · injection h with h; subst h; exact ⟨Try.f6, by kernel_rfl, af6_ok, by kernel_rfl⟩
  · injection h with h; subst h; exact ⟨Try.f7, by kernel_rfl, af7_ok, by kernel_rfl⟩
  · injection h with h; subst h; exact ⟨Try.f8, by kernel_rfl, af8_ok, by kernel_rfl⟩
  · injection h with h; subst h; exact ⟨Try.f9, by kernel_rfl, af9_ok, by kernel_rfl⟩
  · injection h with h; subst h; exact ⟨Try.f10, by kernel_rfl, af10_ok, by kernel_rfl⟩
  · injection h with h; subst h; exact ⟨Try.f11, by kernel_rfl, af11_ok, by kernel_rfl⟩
  · injection h with h; subst h; exact ⟨Try.f12, by kernel_rfl, af12_ok, by kernel_rfl⟩
  · injection h with h; subst h; exact ⟨Try.f13, by kernel_rfl, af13_ok, by kernel_rfl⟩
  · injection h with h; subst h; exact ⟨Try.f14, by kernel_rfl, af14_ok, by kernel_rfl⟩
  · injection h with h; subst h; exact ⟨Try.f15, by kernel_rfl, af15_ok, by kernel_rfl⟩
  · injection h with h; subst h; exact ⟨Try.f16, by kernel_rfl, af16_ok, by kernel_rfl⟩
  · injection h with h; subst h; exact ⟨Try.f17, by kernel_rfl, af17_ok, by kernel_rfl⟩
  · injection h with h; subst h; exact ⟨Try.f18, by kernel_rfl, af18_ok, by kernel_rfl⟩
  · injection h with h; subst h; exact ⟨Try.f19, by kernel_rfl, af19_ok, by kernel_rfl⟩
  · injection h with h; subst h; exact ⟨Try.f20, by kernel_rfl, af20_ok, by kernel_rfl⟩
  · injection h with h; subst h; exact ⟨Try.f21, by kernel_rfl, af21_ok, by kernel_rfl⟩
  · injection h with h; subst h; exact ⟨Try.f22, by kernel_rfl, af22_ok, by kernel_rfl⟩
  · injection h with h; subst h; exact ⟨Try.f23, by kernel_rfl, af23_ok, by kernel_rfl⟩
  · injection h with h; subst h; exact ⟨Try.f24, by kernel_rfl, af24_ok, by kernel_rfl⟩
  · injection h with h; subst h; exact ⟨Try.f25, by kernel_rfl, af25_ok, by kernel_rfl⟩
  · injection h with h; subst h; exact ⟨Try.f26, by kernel_rfl, af26_ok, by kernel_rfl⟩
  · injection h with h; subst h; exact ⟨Try.f27, by kernel_rfl, af27_ok, by kernel_rfl⟩
  · injection h with h; subst h; exact ⟨Try.f28, by kernel_rfl, af28_ok, by kernel_rfl⟩
  · injection h with h; subst h; exact ⟨Try.f29, by kernel_rfl, af29_ok, by kernel_rfl⟩
  · injection h with h; subst h; exact ⟨Try.f30, by kernel_rfl, af30_ok, by kernel_rfl⟩
  · injection h with h; subst h; exact ⟨Try.f31, by kernel_rfl, af31_ok, by kernel_rfl⟩
  · injection h with h; subst h; exact ⟨Try.f32, by kernel_rfl, af32_ok, by kernel_rfl⟩
  · injection h with h; subst h; exact ⟨Try.f33, by kernel_rfl, af33_ok, by kernel_rfl⟩
  · injection h with h; subst h; exact ⟨Try.f34, by kernel_rfl, af34_ok, by kernel_rfl⟩
  · injection h with h; subst h; exact ⟨Try.f35, by kernel_rfl, af35_ok, by kernel_rfl⟩
  · injection h with h; subst h; exact ⟨Try.f36, by kernel_rfl, af36_ok, by kernel_rfl⟩
  · injection h with h; subst h; exact ⟨Try.f37, by kernel_rfl, af37_ok, by kernel_rfl⟩
  · injection h with h; subst h; exact ⟨Try.f38, by kernel_rfl, af38_ok, by kernel_rfl⟩
  · injection h with h; subst h; exact ⟨Try.f39, by kernel_rfl, af39_ok, by kernel_rfl⟩
  · cases h
end Go.Proofs.Ytcjdjhpnpdldmaa
