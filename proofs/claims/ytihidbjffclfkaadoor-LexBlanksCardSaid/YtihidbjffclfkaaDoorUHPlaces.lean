/- Part of the proof: what it uses of HPlaces. -/
import Derived.Test.YtihidbjffclfkaaDoorUHEq3
import Derived.Test.YtihidbjffclfkaaDoorUHJoin
import Derived.Test.YtihidbjffclfkaaDoorUHWorks
namespace Go.Proofs.YtihidbjffclfkaaDoor.PLex
open Go.RowKit Go.Maps Go.Proofs.YtihidbjffclfkaaDoorW.PrintWords Go.Proofs.YtihidbjffclfkaaDoorW.PrintLast Go.Proofs.YtihidbjffclfkaaDoorW.PrintMore Go.Proofs.YtihidbjffclfkaaDoor.Lx
set_option linter.unusedVariables false
set_option linter.unusedSimpArgs false
theorem rd_tk (ts : List Tk) (i : Nat) (h : i < ts.length) : rd_T28 (ts.map tk) (i : Int) = tk ts[i] := by
  rw [rdT_get _ i (by simpa using h), List.getElem_map]
end Go.Proofs.YtihidbjffclfkaaDoor.PLex
