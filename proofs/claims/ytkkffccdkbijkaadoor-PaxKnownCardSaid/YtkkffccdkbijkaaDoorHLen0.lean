/- Some numbers. -/
import Derived.Test.YtkkffccdkbijkaaDoorHAwakeP
namespace Go.Proofs.YtkkffccdkbijkaaDoor.H
theorem ten17 : (10 : Nat) ^ 17 = 100000000000000000 := by decide
end Go.Proofs.YtkkffccdkbijkaaDoor.H
