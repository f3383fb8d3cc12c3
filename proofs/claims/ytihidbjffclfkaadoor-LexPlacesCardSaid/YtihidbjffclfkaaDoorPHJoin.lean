/- Part of the proof: what it uses of HJoin. -/
import Derived.Lib.ConvBytes
import Derived.Test.YtihidbjffclfkaaDoorPHUnq
namespace Go.Proofs.YtihidbjffclfkaaDoor.PLex
open Go.RowKit Go.Maps Go.Proofs.YtihidbjffclfkaaDoorW.PrintWords Go.Proofs.YtihidbjffclfkaaDoorW.PrintLast Go.Proofs.YtihidbjffclfkaaDoorW.PrintMore Go.Proofs.YtihidbjffclfkaaDoor.Lx
set_option linter.unusedVariables false
set_option linter.unusedSimpArgs false
theorem rdT_get (l : List S28) (i : Nat) (h : i < l.length) : rd_T28 l (i : Int) = l[i]'h := by
  unfold rd_T28
  simp [h]
end Go.Proofs.YtihidbjffclfkaaDoor.PLex
