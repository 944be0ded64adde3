/- Where a soft link leads, as far as its error goes: plain definitions and laws. -/
import Derived.Test.YtlinghjgnomflaaDoorHPcs
import Derived.Lib.SplitLaws
import Derived.Lib.CountLaws
import Derived.Lib.Join
namespace Go.Proofs.YtlinghjgnomflaaDoor.H
open Go.Lib

def slash : ByteArray := ⟨#[47]⟩

/-- How deep one stands behind pieces; none: out of the root. -/
def leadD : Nat → List (Nat × ByteArray) → Option Nat
  | d, [] => some d
  | d, x :: l => if x.2.size = 0 ∨ x.2.toList = [46] then leadD d l
    else if x.2.toList = [46, 46] then (if d = 0 then none else leadD (d - 1) l) else leadD (d + 1) l
/-- What is wrong with a soft link. -/
def leadErr (a b : ByteArray) : Int :=
  if (check a).2 ≠ 0 then (check a).2 else if b.size = 0 then 80 else if 400 < b.size then 2 else if 0 ≤ ixb b 0 then 82
  else if b.toList.head? = some 47 then 83 else if (leadD ((pcs a 0).length - 1) (pcs b 0)).isNone then 83 else 0

theorem leadD_append (d : Nat) (l r : List (Nat × ByteArray)) : leadD d (l ++ r) = (leadD d l).bind fun d' => leadD d' r := by
  induction l generalizing d with
  | nil => rfl
  | cons x l ih =>
    simp only [List.cons_append, leadD]
    repeat' split
    all_goals first | exact ih _ | rfl

theorem leadD_le (l : List (Nat × ByteArray)) : ∀ (d d' : Nat), leadD d l = some d' → d' ≤ d + l.length := by
  induction l with
  | nil => intro d d' h; simp [leadD] at h; omega
  | cons x l ih =>
    intro d d' h
    simp only [leadD] at h
    split at h
    · have := ih _ _ h; simp; omega
    · split at h
      · split at h
        · cases h
        · have := ih _ _ h; simp; omega
      · have := ih _ _ h; simp; omega

theorem extract_extract_end (s : ByteArray) (i k : Nat) : (s.extract i s.size).extract k (s.extract i s.size).size = s.extract (i + k) s.size := by
  rw [extract_eq _ k, extract_eq s (i + k), extract_to_end]
  congr 1
  congr 1
  rw [List.drop_drop, List.take_of_length_le, List.take_of_length_le]
  all_goals first | (simp; done) | (simp; omega)

theorem indexB_slash (s : ByteArray) (i : Nat) : indexB (s.extract i s.size) slash = nxt s i := by
  unfold nxt ixb
  rw [one _ slash rfl]
  rfl

theorem count_pcs (s : ByteArray) (n : Nat) : ∀ i, s.size - i ≤ n → i ≤ s.size → countB (s.extract i s.size) slash + 1 = (pcs s i).length := by
  induction n with
  | zero =>
    intro i hn hi
    have h : nxt s i < 0 := by
      rcases Int.lt_or_le (nxt s i) 0 with h | h
      · exact h
      · have := nxt_lt s i h; omega
    have hg := nxt_ge s i
    rw [pcs_last s i h, countB_miss _ _ (by rw [indexB_slash]; omega)]; rfl
  | succ n ih =>
    intro i hn hi
    rcases Int.lt_or_le (nxt s i) 0 with h | h
    · have hg := nxt_ge s i
      rw [pcs_last s i h, countB_miss _ _ (by rw [indexB_slash]; omega)]; rfl
    · have hl := nxt_lt s i h
      have hx : indexB (s.extract i s.size) slash = ((nxt s i).toNat : Int) := by rw [indexB_slash]; omega
      rw [pcs_more s i h, countB_hit _ _ _ (by decide) hx, List.length_cons]
      show 1 + countB ((s.extract i s.size).extract ((nxt s i).toNat + 1) (s.extract i s.size).size) slash + 1 = _
      rw [extract_extract_end, ← ih (i + (nxt s i).toNat + 1) (by omega) (by omega), ← Nat.add_assoc]
      omega

theorem count_whole (s : ByteArray) : countB s slash = (pcs s 0).length - 1 := by
  have := count_pcs s s.size 0 (by omega) (by omega)
  rw [show s.extract 0 s.size = s from by rw [ByteArray.extract_zero_size]] at this
  omega

theorem splitB_sizes (sep : ByteArray) : ∀ (k : Nat) (s : ByteArray), ∀ x ∈ splitB sep 0 k s, x.size ≤ s.size
  | 0, s, x, hx => by simp [splitB] at hx; subst hx; omega
  | k + 1, s, x, hx => by
    unfold splitB at hx
    split at hx
    · simp at hx; subst hx; omega
    · rcases List.mem_cons.1 hx with rfl | hx
      · simp; omega
      · have := splitB_sizes sep k _ x hx
        simp at this; omega

theorem join_le (sep : List UInt8) (m : Nat) : ∀ (l : List (List UInt8)), (∀ x ∈ l, x.length ≤ m) → (join l sep).length ≤ l.length * (m + sep.length)
  | [], _ => by simp [join_nil]
  | x :: r, h => by
    rw [join_cons, List.length_append]
    have hx := h x (by simp)
    have hr : (joinTail sep r).length ≤ r.length * (m + sep.length) := by
      clear hx
      induction r with
      | nil => simp [joinTail]
      | cons y r ih =>
        have hy := h y (by simp)
        have := ih (fun z hz => h z (by rcases List.mem_cons.1 hz with rfl | hz <;> simp [*]))
        simp only [joinTail, List.map_cons, List.flatten_cons, List.length_append, List.length_cons] at this ⊢
        rw [Nat.add_mul]; omega
    simp only [List.length_cons, Nat.add_mul]
    omega
/-- The parts that strings.Split makes. -/
def parts0 (a : ByteArray) : List ByteArray := splitB slash 0 (countB a slash) a
theorem parts0_length (a : ByteArray) : (parts0 a).length = countB a slash + 1 := splitB_all slash (by decide) 0 _ a rfl
theorem parts0_pcs (a : ByteArray) : (parts0 a).length - 1 = (pcs a 0).length - 1 := by rw [parts0_length, count_whole]; omega
theorem parts0_le (a : ByteArray) : (parts0 a).length ≤ a.size + 1 := by
  have := pcs_length a a.size 0 (by omega) (by omega)
  rw [parts0_length, count_whole]; omega
end Go.Proofs.YtlinghjgnomflaaDoor.H
