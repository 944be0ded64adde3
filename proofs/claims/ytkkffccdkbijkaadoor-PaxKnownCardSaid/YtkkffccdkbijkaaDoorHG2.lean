/- What is known of the package-level variables. -/
import Derived.Below
import Derived.WalkKit
import Derived.Lib.AppendIntMem
import Derived.Test.YtkkffccdkbijkaaDoorProg
namespace Go.Proofs.YtkkffccdkbijkaaDoor.H
open Go.RowKit
/-- The table of the powers of ten lies as its text lays it. -/
structure GOK (w : World) : Prop where
  tab : Lib.TabIs Tryd.prog w "internal/strconv.uint64pow10" .u64 Lib.pow10Tab
theorem GOK.below {w W : World} (h : GOK w) (hb : Below w.heap.size w W) : GOK W := ⟨Lib.tabBelow_of_tabIs h.tab W hb⟩
end Go.Proofs.YtkkffccdkbijkaaDoor.H
