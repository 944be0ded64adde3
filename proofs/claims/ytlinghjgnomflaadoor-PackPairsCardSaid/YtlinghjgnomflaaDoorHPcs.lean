/- The pieces of a text between strokes, and what is wrong with one: plain definitions and laws. -/
import Derived.Lib.IndexLaws
import Derived.Lib.IndexBytes
namespace Go.Proofs.YtlinghjgnomflaaDoor.H
open Go.Lib

/-- Where a byte stands first; -1: nowhere. -/
def ixb (s : ByteArray) (c : UInt8) : Int := indexByte s.data.toList c
/-- Where the next stroke stands, counted from 'at'; -1: nowhere. -/
def nxt (s : ByteArray) (i : Nat) : Int := ixb (s.extract i s.size) 47

theorem indexByte_lt (l : List UInt8) (c : UInt8) (h : 0 ≤ indexByte l c) : indexByte l c < l.length := by
  obtain ⟨o, ho⟩ : ∃ o : Nat, indexByte l c = o := ⟨(indexByte l c).toNat, by omega⟩
  obtain ⟨h1, _⟩ := indexByte_some ho
  have := (List.getElem?_eq_some_iff.1 h1).1
  omega

theorem nxt_ge (s : ByteArray) (i : Nat) : -1 ≤ nxt s i := indexByte_ge _ _
theorem nxt_lt (s : ByteArray) (i : Nat) (h : 0 ≤ nxt s i) : i + (nxt s i).toNat < s.size := by
  have := indexByte_lt _ _ h
  unfold nxt ixb at *
  rw [extract_to_end] at *
  simp only [List.length_drop, ← size_eq] at this
  omega

/-- The pieces from a place on, each with the place where it begins. -/
def pcs (s : ByteArray) (i : Nat) : List (Nat × ByteArray) :=
  if h : 0 ≤ nxt s i then (i, s.extract i (i + (nxt s i).toNat)) :: pcs s (i + (nxt s i).toNat + 1)
  else [(i, s.extract i s.size)]
termination_by s.size - i
decreasing_by have := nxt_lt s i h; omega

theorem pcs_last (s : ByteArray) (i : Nat) (h : nxt s i < 0) : pcs s i = [(i, s.extract i s.size)] := by
  rw [pcs, dif_neg (by omega)]
theorem pcs_more (s : ByteArray) (i : Nat) (h : 0 ≤ nxt s i) : pcs s i = (i, s.extract i (i + (nxt s i).toNat)) :: pcs s (i + (nxt s i).toNat + 1) := by
  rw [pcs, dif_pos h]

theorem pcs_length (s : ByteArray) (n : Nat) : ∀ i, s.size - i ≤ n → i ≤ s.size → (pcs s i).length ≤ s.size - i + 1 := by
  induction n with
  | zero =>
    intro i hn hi
    have : nxt s i < 0 := by
      rcases Int.lt_or_le (nxt s i) 0 with h | h
      · exact h
      · have := nxt_lt s i h; omega
    rw [pcs_last s i this]; simp
  | succ n ih =>
    intro i hn hi
    rcases Int.lt_or_le (nxt s i) 0 with h | h
    · rw [pcs_last s i h]; simp
    · have hl := nxt_lt s i h
      rw [pcs_more s i h, List.length_cons]
      have := ih (i + (nxt s i).toNat + 1) (by omega) (by omega)
      omega

/-- Each piece lies in the text. -/
theorem pcs_in (s : ByteArray) (n : Nat) : ∀ i, s.size - i ≤ n → i ≤ s.size → ∀ x ∈ pcs s i, i ≤ x.1 ∧ x.1 + x.2.size ≤ s.size := by
  induction n with
  | zero =>
    intro i hn hi x hx
    have : nxt s i < 0 := by
      rcases Int.lt_or_le (nxt s i) 0 with h | h
      · exact h
      · have := nxt_lt s i h; omega
    rw [pcs_last s i this] at hx; simp at hx; subst hx; simp; omega
  | succ n ih =>
    intro i hn hi x hx
    rcases Int.lt_or_le (nxt s i) 0 with h | h
    · rw [pcs_last s i h] at hx; simp at hx; subst hx; simp; omega
    · have hl := nxt_lt s i h
      rw [pcs_more s i h] at hx
      rcases List.mem_cons.1 hx with rfl | hx
      · simp; omega
      · have := ih (i + (nxt s i).toNat + 1) (by omega) (by omega) x hx
        omega

/-- What is wrong with a piece: where in it, and the error. -/
def partErr (t : ByteArray) : Int × Int :=
  if t.size = 0 then (0, 80) else if 120 < t.size then (0, 2) else if t.toList = [46] ∨ t.toList = [46, 46] then (0, 81)
  else if 0 ≤ ixb t 0 then (ixb t 0, 82) else (0, 0)
def ckList : List (Nat × ByteArray) → Int × Int
  | [] => (0, 0)
  | x :: l => if (partErr x.2).2 = 0 then ckList l else ((x.1 : Int) + (partErr x.2).1, (partErr x.2).2)
/-- What is wrong with a path. -/
def check (s : ByteArray) : Int × Int := if 400 < s.size then (0, 2) else ckList (pcs s 0)

theorem ckList_ok : ∀ l : List (Nat × ByteArray), (∀ x ∈ l, (partErr x.2).2 = 0) → ckList l = (0, 0)
  | [], _ => rfl
  | x :: l, h => by rw [ckList, if_pos (h x (by simp)), ckList_ok l fun y hy => h y (by simp [hy])]
theorem ckList_hit : ∀ (l : List (Nat × ByteArray)) (x : Nat × ByteArray) (r : List (Nat × ByteArray)), (∀ y ∈ l, (partErr y.2).2 = 0) → (partErr x.2).2 ≠ 0 →
    ckList (l ++ [x] ++ r) = ((x.1 : Int) + (partErr x.2).1, (partErr x.2).2)
  | [], x, r, _, h => by simp [ckList, h]
  | y :: l, x, r, ha, h => by
    have e := ckList_hit l x r (fun z hz => ha z (by simp [hz])) h
    rw [List.append_assoc] at e ⊢
    rw [List.cons_append, ckList, if_pos (ha y (by simp)), e]
end Go.Proofs.YtlinghjgnomflaaDoor.H
