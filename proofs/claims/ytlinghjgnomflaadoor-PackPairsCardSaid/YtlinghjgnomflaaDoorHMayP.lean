/- What is wrong with an item: a plain definition. -/
import Derived.Test.YtlinghjgnomflaaDoorHLeadP
namespace Go.Proofs.YtlinghjgnomflaaDoor.H
/-- What is wrong with an item: path, kind, mode, time, the body's length, the link. -/
def mayErr (p : ByteArray) (k m t : Int) (n : Nat) (l : ByteArray) : Int :=
  if (check p).2 ≠ 0 then (check p).2
  else if k = 1 then (if t < 0 ∨ 1099511627776 < t ∨ m < 0 ∨ 4095 < m then 1 else if l.toList ≠ [] then 110 else if 65536 < n then 2 else 0)
  else if k = 2 then (if t < 0 ∨ 1099511627776 < t ∨ m < 0 ∨ 4095 < m then 1 else if 0 < n ∨ l.toList ≠ [] then 110 else 0)
  else if k = 3 then (if t < 0 ∨ 0 < t ∨ m < 0 ∨ 0 < m then 1 else if 0 < n then 110 else (check l).2)
  else if k = 4 then (if t < 0 ∨ 1099511627776 < t ∨ m < 0 ∨ 0 < m then 1 else if 0 < n then 110 else leadErr p l)
  else 1
end Go.Proofs.YtlinghjgnomflaaDoor.H
