/-
  HOW THE EVALUATOR IS RUN BY 'simp': its equations, each at all its arguments.
-/
import Derived.Test.YtkmmfenknekcbaaGreatAe
set_option linter.unusedSimpArgs false
set_option linter.unusedVariables false
namespace Go.Ae
variable {cl : FuncId → Fun} {K : Kt} {st : St}
def rgnC (cl : FuncId → Fun) (i : Nat) (st : St) (d : Option Nat) (l : List AOper) (e : Eff) : Option St := rgn cl (i + 1) (st.eff d e) l
@[simp] theorem rgnC_eq (i : Nat) (d : Option Nat) (l : List AOper) (e : Eff) : rgnC cl i st d l e = rgn cl (i + 1) (st.eff d e) l := rfl
@[simp] theorem rgn_nil (i : Nat) : rgn cl i st [] = some st := rfl
@[simp] theorem rgn_cons (i : Nat) (o : AOper) (l : List AOper) : rgn cl i st (o :: l) = (estepZ cl i st o).bind (rgnC cl i st o.dst l) := rfl
def rgFC (cl : FuncId → Fun) (i : Nat) (st : St) (o : AOper) (l : List AOper) (e : Eff) : Option (St × List Foot) := (rgF cl (i + 1) (st.eff o.dst e) l).bind fun r => some (r.1, foot st o e :: r.2)
@[simp] theorem rgFC_eq (i : Nat) (o : AOper) (l : List AOper) (e : Eff) : rgFC cl i st o l e = (rgF cl (i + 1) (st.eff o.dst e) l).bind fun r => some (r.1, foot st o e :: r.2) := rfl
@[simp] theorem rgF_nil (i : Nat) : rgF cl i st [] = some (st, []) := rfl
@[simp] theorem rgF_cons (i : Nat) (o : AOper) (l : List AOper) : rgF cl i st (o :: l) = (estep cl i st o).bind (rgFC cl i st o l) := rfl
@[simp] theorem evW_skip : evW cl .skip K st = K .normal st := rfl
@[simp] theorem evW_rg (ops : List AOper) : evW cl (.rg ops) K st = (region cl st ops).bind (K .normal) := rfl
@[simp] theorem evW_rd (ops : List AOper) (chk : List (Nat × Nat)) : evW cl (.rd ops chk) K st = (regionD cl st ops chk).bind (K .normal) := rfl
@[simp] theorem evW_seq (a b : ACode) : evW cl (.seq a b) K st = evW cl a (thenK (evW cl b K) K) st := rfl
noncomputable def condK (cl : FuncId → Fun) (a b : ACode) (K : Kt) (st : St) : AV → Option Res
  | .d (.bool t) => if t then evW cl a K st else evW cl b K st
  | _ => none
@[simp] theorem condK_bool (a b : ACode) (t : Bool) : condK cl a b K st (.d (.bool t)) = if t then evW cl a K st else evW cl b K st := rfl
@[simp] theorem evW_cond (c : Opd) (a b : ACode) : evW cl (.cond c a b) K st = condK cl a b K st (st.val c) := rfl
@[simp] theorem evW_block (id : Nat) (a : ACode) : evW cl (.block id a) K st = evW cl a (blockK id K) st := rfl
@[simp] theorem evW_exit (id : Nat) : evW cl (.exit id) K st = K (.exit id) st := rfl
@[simp] theorem evW_ret : evW cl .ret K st = K .ret st := rfl
@[simp] theorem evW_loop (a : ACode) : evW cl (.loop a) K st = loopW (evW cl a) K st := rfl
@[simp] theorem thenK_normal (k : St → Option Res) : thenK k K .normal st = k st := rfl
@[simp] theorem thenK_exit (k : St → Option Res) (i : Nat) : thenK k K (.exit i) st = K (.exit i) st := rfl
@[simp] theorem thenK_ret (k : St → Option Res) : thenK k K .ret st = K .ret st := rfl
@[simp] theorem blockK_normal (id : Nat) : blockK id K .normal st = K .normal st := rfl
@[simp] theorem blockK_ret (id : Nat) : blockK id K .ret st = K .ret st := rfl
@[simp] theorem blockK_exit (id i : Nat) : blockK id K (.exit i) st = if i = id then K .normal st else K (.exit i) st := rfl
@[simp] theorem finalK_normal (res : List ARes) (n : Nat) : finalK res n .normal st = final res n st := rfl
@[simp] theorem finalK_ret (res : List ARes) (n : Nat) : finalK res n .ret st = final res n st := rfl
attribute [simp] region regionD estepZ ldz frz frz1 chunks estep astep aop wantedA St.eff St.val St.next upd_apply updO updL final init initTm initOb AV.cells AV.cellsD AV.toD AV.rows AV.int? over takeN allD fillD elems binD eqD unD bytesD bnd idsOf mmI
  acall callArgs argsOf obsOf zipObs getRes resOf outOf outsOf AV.outD objs foot reads AV.idL AV.tokL chkF Foot.apart apartL tupD
end Go.Ae
