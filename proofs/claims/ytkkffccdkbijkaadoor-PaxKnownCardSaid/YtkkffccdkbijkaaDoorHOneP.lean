/- What pax.one tells of a row of bytes, in plain Lean; the call's contract by it. -/
import Derived.Test.YtkkffccdkbijkaaDoorHOne
namespace Go.Proofs.YtkkffccdkbijkaaDoor.H
open Go.RowKit Go.Lib Go.Proofs.YtkkffccdkbijkaaDoorW.PrintWords
set_option linter.unusedVariables false
set_option linter.unusedSimpArgs false

/-- How many digits stand at the front, so many looked at. -/
def digN : Nat → List Int → Nat
  | 0, _ => 0
  | _, [] => 0
  | f + 1, x :: l => if 48 ≤ x ∧ x ≤ 57 then digN f l + 1 else 0
theorem digN_spec : ∀ (f : Nat) (l : List Int), digN f l ≤ f ∧ digN f l ≤ l.length ∧ (∀ j, j < digN f l → isD (l[j]?.getD 0)) ∧ (digN f l = l.length ∨ digN f l = f ∨ ¬ isD (l[digN f l]?.getD 0))
  | 0, l => by simp [digN]
  | f + 1, [] => by simp [digN]
  | f + 1, x :: l => by
    obtain ⟨a, b, c, d⟩ := digN_spec f l
    unfold digN
    by_cases h : 48 ≤ x ∧ x ≤ 57
    · rw [if_pos h]
      refine ⟨by omega, by simp; omega, fun j hj => ?_, ?_⟩
      · cases j with
        | zero => simpa [isD] using h
        | succ j => simpa using c j (by omega)
      · rcases d with d | d | d
        · left; simp; omega
        · right; left; omega
        · right; right; simpa using d
    · rw [if_neg h]
      refine ⟨by omega, by omega, fun j hj => absurd hj (by omega), .inr (.inr ?_)⟩
      simpa [isD] using h
theorem isDig (l : List Int) : IsDig l (digN 5 l) := digN_spec 5 l

def numFrom (a : Nat) (l : List Int) : Nat := l.foldl (fun a x => a * 10 + (x - 48).toNat) a
theorem numFrom_ge : ∀ (l : List Int) (a : Nat), a ≤ numFrom a l
  | [], a => Nat.le_refl _
  | x :: l, a => by
    have := numFrom_ge l (a * 10 + (x - 48).toNat)
    show a ≤ numFrom (a * 10 + (x - 48).toNat) l
    omega
theorem decFrom_num : ∀ (l : List Int) (a : Nat), (∀ x ∈ l, isD x) → Lib.decFrom a (l.map fun n => UInt8.ofNat n.toNat) = some (numFrom a l)
  | [], a, _ => rfl
  | x :: l, a, h => by
    obtain ⟨h0, h1⟩ := h x (by simp)
    have hv : (UInt8.ofNat x.toNat).toNat = x.toNat := by rw [UInt8.toNat_ofNat']; omega
    have hd : Lib.digitVal (UInt8.ofNat x.toNat) = some (x - 48).toNat := by
      unfold Lib.digitVal
      rw [hv, if_pos (by omega)]
      congr 1; omega
    rw [List.map_cons, Lib.decFrom, hd]
    exact decFrom_num l _ fun y hy => h y (by simp [hy])
theorem atoi_num (l : List Int) (h1 : l ≠ []) (h : ∀ x ∈ l, isD x) : Lib.atoi (strOfNums l).data.toList = some ((numFrom 0 l : Nat) : Int) := by
  cases l with
  | nil => exact absurd rfl h1
  | cons x l =>
    obtain ⟨h0, h2⟩ := h x (by simp)
    have hv : (UInt8.ofNat x.toNat).toNat = x.toNat := by rw [UInt8.toNat_ofNat']; omega
    have e := decFrom_num (x :: l) 0 h
    rw [List.map_cons] at e
    unfold strOfNums
    simp only [List.map_cons]
    unfold Lib.atoi
    dsimp only
    rw [if_neg, if_neg]
    · unfold Lib.decNat
      simp only [List.isEmpty_cons, Bool.false_eq_true, if_false, e]
      rfl
    · intro hh; have := congrArg UInt8.toNat (eq_of_beq hh); rw [hv] at this; simp at this; omega
    · intro hh; have := congrArg UInt8.toNat (eq_of_beq hh); rw [hv] at this; simp at this; omega

/-- What stands at the front of a row of bytes: a record (key, value, length), or what is wrong. -/
def oneOf (l : List Int) : Except Int (ByteArray × ByteArray × Nat) :=
  let d := digN 5 l
  if d = 0 ∨ d = 5 ∨ l[0]?.getD 0 = 48 ∨ d = l.length ∨ l[d]?.getD 0 ≠ 32 then .error 90
  else
    let n := numFrom 0 (l.take d)
    if l.length < n ∨ l[n - 1]?.getD 0 ≠ 10 then .error 90
    else if ix61 ((l.take (n - 1)).drop (d + 1)) < 0 then .error 90
    else
      let g := (ix61 ((l.take (n - 1)).drop (d + 1))).toNat
      if fitsErr (keyOf l d (n - 1) g) (valOf l d (n - 1) g) ≠ 0 then .error (fitsErr (keyOf l d (n - 1) g) (valOf l d (n - 1) g))
      else if recSize (keyOf l d (n - 1) g) (valOf l d (n - 1) g) ≠ n then .error 90
      else .ok (keyOf l d (n - 1) g, valOf l d (n - 1) g, n)

def OneEnd (p : Nat) (l : List Int) (w : World) (e : Ending) (w' : World) : Prop :=
  (match oneOf l with
    | .error c => e = .panicked [{ v := thrown p c, recovered := false }]
    | .ok (k, v, n) => e = .returned (.tuple #[.agg #[.string k, .string v], .int .i64 ((p : Int) + (n : Int))])) ∧ Below w.heap.size w w'

theorem one_calls (ad : Addr) (p : Nat) (l : List Int) (c : Nat) (hcap : p + l.length ≤ c) (hL : p + l.length ≤ 140737488355328) (hpos : 1 ≤ l.length) (w : World) (hlt : ad.block < w.heap.size)
    (hc : ∀ j, j < l.length → w.cell? ((ad.add p).add j) = some (.int .u8 (l[j]?.getD 0))) (hG : GOK w) :
    Calls Tryd.prog 32 #[.slice (some ad) (p + l.length) c, .int .i64 p] w (OneEnd p l w) := by
  have hd := isDig l
  unfold OneEnd oneOf
  obtain ⟨d, hde⟩ : ∃ d, digN 5 l = d := ⟨_, rfl⟩
  rw [hde] at hd ⊢
  simp only []
  obtain ⟨hd5, hdl, hdig, hend⟩ := id hd
  by_cases b0 : d = 0
  · simp only [b0, true_or, if_true]; exact one_b0 ad p l c d hcap hL hpos hd w hlt hc b0
  by_cases b1 : d = 5
  · simp only [b1, true_or, or_true, if_true]; exact one_b1 ad p l c d hcap hL hpos hd w hlt hc b1
  have h1 : 1 ≤ d := by omega
  have h4 : d ≤ 4 := by omega
  by_cases b2 : l[0]?.getD 0 = 48
  · rw [if_pos (.inr (.inr (.inl b2)))]; exact one_b2 ad p l c d hcap hL hpos hd w hlt hc h1 h4 b2
  by_cases b3 : d = l.length
  · rw [if_pos (.inr (.inr (.inr (.inl b3))))]; exact one_b3 ad p l c d hcap hL hpos hd w hlt hc h1 h4 b2 b3
  have hdn : d < l.length := by omega
  by_cases b4 : l[d]?.getD 0 = 32
  rotate_left
  · rw [if_pos (.inr (.inr (.inr (.inr b4))))]; exact one_b4 ad p l c d hcap hL hpos hd w hlt hc h1 h4 b2 hdn b4
  rw [if_neg (by simp only [not_or, Decidable.not_not]; exact ⟨b0, b1, b2, b3, b4⟩)]
  have hin : ∀ x ∈ l.take d, isD x := by
    intro x hx
    obtain ⟨j, hj, rfl⟩ := List.getElem_of_mem hx
    have hjd : j < d := by rw [List.length_take] at hj; omega
    have := hdig j hjd
    rwa [List.getElem?_eq_getElem (by omega), Option.getD_some, ← List.getElem_take (h := hj)] at this
  have hat := atoi_num (l.take d) (by intro e; have := congrArg List.length e; rw [List.length_take, List.length_nil] at this; omega) hin
  have hn1 : 1 ≤ numFrom 0 (l.take d) := by
    obtain ⟨x, t, ht⟩ : ∃ x t, l = x :: t := by cases l with | nil => simp at hpos | cons x t => exact ⟨x, t, rfl⟩
    subst ht
    obtain ⟨d, rfl⟩ : ∃ k, d = k + 1 := ⟨d - 1, by omega⟩
    have hx : isD x := hin x (by simp)
    have hx2 : x ≠ 48 := by simpa using b2
    unfold isD at hx
    rw [List.take_succ_cons]
    have := numFrom_ge (t.take d) (0 * 10 + (x - 48).toNat)
    show 1 ≤ numFrom (0 * 10 + (x - 48).toNat) (t.take d)
    omega
  generalize numFrom 0 (l.take d) = n at hat hn1 ⊢
  obtain ⟨m, rfl⟩ : ∃ m, n = m + 1 := ⟨n - 1, by omega⟩
  rw [Nat.add_sub_cancel]
  have hat' : Lib.atoi (strOfNums (l.take d)).data.toList = some ((m : Int) + 1) := by rw [hat]; rfl
  by_cases c1 : l.length < m + 1
  · rw [if_pos (.inl c1)]; exact one_c1 ad p l c d hcap hL hpos hd w hlt hc h1 h4 b2 hdn b4 m hat' (by omega)
  have hm : m < l.length := by omega
  by_cases c2 : l[m]?.getD 0 = 10
  rotate_left
  · rw [if_pos (.inr c2)]; exact one_c2 ad p l c d hcap hL hpos hd w hlt hc h1 h4 b2 hdn b4 m hat' hm c2
  rw [if_neg (by simp only [not_or, Decidable.not_not]; exact ⟨c1, c2⟩)]
  have hdm : d + 1 ≤ m := by
    rcases Nat.lt_or_ge m d with h | h
    · have := hdig m h; unfold isD at this; omega
    · rcases Nat.lt_or_ge d m with h2 | h2
      · exact h2
      · obtain rfl : m = d := by omega
        omega
  by_cases c3 : ix61 ((l.take m).drop (d + 1)) < 0
  · rw [if_pos c3]; exact one_c3 ad p l c d hcap hL hpos hd w hlt hc h1 h4 b2 hdn b4 m hat' hm c2 hdm c3
  rw [if_neg c3]
  have hg : ix61 ((l.take m).drop (d + 1)) = ((ix61 ((l.take m).drop (d + 1))).toNat : Int) := by omega
  have hgl : (ix61 ((l.take m).drop (d + 1))).toNat < m - (d + 1) := by
    have := ixb_room 61 (Lib.bytesOf ((l.take m).drop (d + 1))) (.inr trivial)
    rw [Lib.bytesOf_length, mid_len hm] at this
    unfold ix61 at c3 ⊢
    omega
  generalize (ix61 ((l.take m).drop (d + 1))).toNat = g at hg hgl ⊢
  by_cases c4 : fitsErr (keyOf l d m g) (valOf l d m g) = 0
  rotate_left
  · rw [if_pos c4]; exact one_c4 ad p l c d hcap hL hpos hd w hlt hc h1 h4 b2 hdn b4 m hat' hm c2 hdm g hg hgl c4
  rw [if_neg (by simpa using c4)]
  by_cases c5 : recSize (keyOf l d m g) (valOf l d m g) = m + 1
  rotate_left
  · rw [if_pos c5]; exact one_c5 ad p l c d hcap hL hpos hd w hlt hc h1 h4 b2 hdn b4 m hat' hm c2 hdm g hg hgl hG c4 c5
  rw [if_neg (by simpa using c5)]
  exact one_ok ad p l c d hcap hL hpos hd w hlt hc h1 h4 b2 hdn b4 m hat' hm c2 hdm g hg hgl hG c4 c5
end Go.Proofs.YtkkffccdkbijkaaDoor.H
