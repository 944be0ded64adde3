/- What is known of the package-level variables. -/
import Derived.Below
import Derived.WalkKit
import Derived.Test.YtlinghjgnomflaaDoorProg
namespace Go.Proofs.YtlinghjgnomflaaDoor.H
open Go.RowKit
/-- internal/bytealg.MaxLen holds some number. -/
structure GOK (w : World) : Prop where
  maxLen : ∃ m, w.cell? ⟨1, 0, none⟩ = some (.int .i64 m)
theorem GOK.below {w W : World} (h : GOK w) (hb : Below w.heap.size w W) : GOK W := by
  obtain ⟨m, h⟩ := h.maxLen
  exact ⟨m, (hb.cell (p := ⟨_, 0, none⟩) (World.block_lt_of_cell? w _ h)).trans h⟩
end Go.Proofs.YtlinghjgnomflaaDoor.H
