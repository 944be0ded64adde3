/- For the rows of the six laws: the table of powers of ten; a world for the witness. -/
import Derived.Test.YtkkffccdkbijkaaDoorCards
import Derived.Test.YtkkffccdkbijkaaDoorTie
import Derived.Test.YtkkffccdkbijkaaDoorHG2
import Derived.WalkKit
import Derived.ProofKit
import Derived.OpenShut
import Derived.ShutString
import Derived.ChangeOld
import Derived.Below
import Derived.Shelf.Vars
import Derived.SizedLaws
import Derived.Lib.SmallJoins
import Derived.Deep.DeepHandedRow
import Derived.Deep.DeepLaidRun
import Derived.Lib.LaidTab
import Derived.Stop.LaidErr
namespace Go.Proofs.YtkkffccdkbijkaaDoor.R
open Go.ChangeShapes Go.WideShapes Go.ChangeAt Go.RowKit Go.Joins Go.Deep
open Go.Proofs.YtkkffccdkbijkaaDoor.H
set_option linter.unusedVariables false

theorem own : ownKnob Tryd.prog.godebug = none := by kernel_rfl
theorem laidOut : laidOutB Tryd.prog = true := by kernel_rfl
theorem cells2 : Tryd.prog.cellsOf 32 = 2 := by kernel_rfl
theorem gTab : Tryd.prog.globalNamed "internal/strconv.uint64pow10" = some 1 := by kernel_rfl
theorem gTabType : (Tryd.prog.globals[1]?).map (·.type) = some 130 := by kernel_rfl
theorem cellsU : Tryd.prog.cellsOf 103 = 1 := by kernel_rfl
theorem cellsT : Tryd.prog.cellsOf 130 = 20 := by kernel_rfl
theorem gok {W : World} {r : List (String × DataW Unit)} {x y : String × DataW Unit} (h : laidMet Tryd.prog (x :: y :: ("internal/strconv.uint64pow10", Rows.laid_internal_strconv_uint64pow10) :: r) W) : GOK W :=
  ⟨Lib.tabIs_of_head (rest := r) (zs := Lib.pow10Tab) gTab gTabType Tryd.underlying130 Tryd.underlying103 cellsU cellsT h.tail.tail⟩

/-- A WORLD FOR THE WITNESS: the settled one, the tables and the two errors holding what their texts lay. -/
noncomputable def lay (w : World) (b : Nat) (cs : Array Value) : World := { w with heap := w.heap.modify b fun
    | .cells _ t frozen => .cells cs t frozen
    | o => o }
def cellsOfData {H : Type} : DataW H → Array Value
  | .agg l => (l.map fun | .lit (.int k n) => Value.int k n | _ => .bool false).toArray
  | _ => #[]
noncomputable def low : Nat := (World.holding Tryd.prog default ⟨#[], #[], []⟩).heap.size
noncomputable def laidWorld (os : Os) : World :=
  lay (lay (lay (lay (lay (World.holding Tryd.prog os ⟨#[.cells #[.string ⟨#[118, 97, 108, 117, 101, 32, 111, 117, 116, 32, 111, 102, 32, 114, 97, 110, 103, 101]⟩] 150, .cells #[.string ⟨#[105, 110, 118, 97, 108, 105, 100, 32, 115, 121, 110, 116, 97, 120]⟩] 150], #[], []⟩)
    4 (cellsOfData (Rows.laid_math_bits_deBruijn32tab (H := Unit)))) 5 (cellsOfData (Rows.laid_math_bits_deBruijn64tab (H := Unit)))) 1 (cellsOfData (Rows.laid_internal_strconv_uint64pow10 (H := Unit))))
    3 #[.iface 148 (.pointer (some ⟨low, 0, none⟩))]) 2 #[.iface 148 (.pointer (some ⟨low + 1, 0, none⟩))]
end Go.Proofs.YtkkffccdkbijkaaDoor.R
