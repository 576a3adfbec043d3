/- What the texts of numbers and texts lean on. -/
import Derived.Test.YtnkcgoaafpnbjaaDoorProg
import Derived.Below
import Derived.Deep.Draws
import Derived.Deep.AppendLies
import Derived.Maps.AppendAt
import Derived.OwnWalk
import Derived.Laws.BytesArg
import Derived.Laws.MakeOwn
import Derived.Laws.OwnMore
import Derived.Deep.OwnRows
import Derived.Tactics
import Derived.Lib.ConvBytes
import Derived.Laws.Slices
import Derived.WalkKit
import Derived.KernelRfl
import Derived.RowKit3
import Derived.Deep.LoopGhost
import Derived.Deep.QuietTactic
import Derived.BigQuiet
import Derived.WideLaws
import Derived.Deep.DeepCutAuto
import Derived.Deep.CutBlock
import Derived.Deep.RegionHeld3
import Derived.Laws.Rows
import Derived.Lib.AppendStr
import Derived.ArgAppend
import Derived.Laws.IdiomCopy
import Derived.OrdersHeld
import Derived.Laws.BitsLemmas
import Derived.RowKit
import Derived.Test.YtnkcgoaafpnbjaaDoorWWords
import Derived.Test.YtnkcgoaafpnbjaaDoorWLast
import Derived.Test.YtnkcgoaafpnbjaaDoorWTab
import Derived.Test.YtnkcgoaafpnbjaaDoorWFour
import Derived.Test.YtnkcgoaafpnbjaaDoorWQPut
import Derived.Test.YtnkcgoaafpnbjaaDoorWApart
import Derived.Test.YtnkcgoaafpnbjaaDoorWArr
import Derived.Test.YtnkcgoaafpnbjaaDoorWZeros
import Derived.Test.YtnkcgoaafpnbjaaDoorWFoot
import Derived.Test.YtnkcgoaafpnbjaaDoorWKept
import Derived.Test.YtnkcgoaafpnbjaaDoorWShare
import Derived.Test.YtnkcgoaafpnbjaaDoorWN
import Derived.Test.YtnkcgoaafpnbjaaDoorWFootNe
import Derived.Test.YtnkcgoaafpnbjaaDoorWAt
import Derived.Test.YtnkcgoaafpnbjaaDoorWEqStruct
import Derived.Test.YtnkcgoaafpnbjaaDoorWRepsOne
import Derived.Test.YtnkcgoaafpnbjaaDoorWInv
import Derived.Test.YtnkcgoaafpnbjaaDoorWInvWords
import Derived.Test.YtnkcgoaafpnbjaaDoorWGuard
import Derived.Test.YtnkcgoaafpnbjaaDoorWNEv
import Derived.Test.YtnkcgoaafpnbjaaDoorWMore
namespace Go.Proofs.YtnkcgoaafpnbjaaDoor.Q
open Go.RowKit Go.Proofs.YtnkcgoaafpnbjaaDoorW.PrintWords Go.Proofs.YtnkcgoaafpnbjaaDoorW.PrintLast Go.Proofs.YtnkcgoaafpnbjaaDoorW.PrintMore
attribute [local go_sem] max2_int min2_int max_two min_two max_three min_three max_four min_four
set_option linter.unusedVariables false
set_option linter.unusedSimpArgs false

def errW : Option Int → Value
  | none => .nilIface
  | some c => .iface 0 (.int .i64 c)
theorem errW_none : errW none = .nilIface := rfl
theorem errW_some (c : Int) : errW (some c) = .iface 0 (.int .i64 c) := rfl

theorem info2 : (Tryd.prog.info? 2).map (fun i => (i.zero, i.size, i.bytes)) = some (some (.int .i64 0), 1, 8) := by kernel_rfl
theorem info5 : (Tryd.prog.info? 5).map (fun i => (i.zero, i.size, i.bytes)) = some (some (.int .u8 0), 1, 1) := by kernel_rfl
theorem info9 : (Tryd.prog.info? 9).map (fun i => (i.zero, i.size, i.bytes)) = some (some (.string ⟨#[]⟩), 1, 16) := by kernel_rfl
-- the values' own types


end Go.Proofs.YtnkcgoaafpnbjaaDoor.Q
