/- tree.May: what its call does. -/
import Derived.Test.YtlinghjgnomflaaDoorHLead
import Derived.Laws.EntriesVeiled
import Derived.Outline
namespace Go.Proofs.YtlinghjgnomflaaDoor.H
open Go.RowKit Go.Shelf

set_option maxHeartbeats 400000 in
theorem of_1 (w : World) : Calls Tryd.prog 30 #[.int .u8 1] w fun e w' => e = .returned (.tuple #[.agg #[.int .i64 4095, .int .i64 1099511627776, .bool true, .bool false, .func (.func 44) #[] #[]], .bool true]) ∧ Below w.heap.size w w' := by
  go_enter Tryd.func30, Tryd.ntmps30
  go_wp2
  exact bodyPost_ret (v := .tuple #[.agg #[.int .i64 4095, .int .i64 1099511627776, .bool true, .bool false, .func (.func 44) #[] #[]], .bool true]) (by simp [results, Tryd.f30, go_sem]) rfl ⟨rfl, (Below.refl _ w).alloc (Nat.le_refl _) _⟩
set_option maxHeartbeats 400000 in
theorem of_2 (w : World) : Calls Tryd.prog 30 #[.int .u8 2] w fun e w' => e = .returned (.tuple #[.agg #[.int .i64 4095, .int .i64 1099511627776, .bool false, .bool false, .func (.func 44) #[] #[]], .bool true]) ∧ Below w.heap.size w w' := by
  go_enter Tryd.func30, Tryd.ntmps30
  go_wp2
  exact bodyPost_ret (v := .tuple #[.agg #[.int .i64 4095, .int .i64 1099511627776, .bool false, .bool false, .func (.func 44) #[] #[]], .bool true]) (by simp [results, Tryd.f30, go_sem]) rfl ⟨rfl, (Below.refl _ w).alloc (Nat.le_refl _) _⟩
set_option maxHeartbeats 400000 in
theorem of_3 (w : World) : Calls Tryd.prog 30 #[.int .u8 3] w fun e w' => e = .returned (.tuple #[.agg #[.int .i64 0, .int .i64 0, .bool false, .bool true, .func (.func 45) #[] #[]], .bool true]) ∧ Below w.heap.size w w' := by
  go_enter Tryd.func30, Tryd.ntmps30
  go_wp2
  exact bodyPost_ret (v := .tuple #[.agg #[.int .i64 0, .int .i64 0, .bool false, .bool true, .func (.func 45) #[] #[]], .bool true]) (by simp [results, Tryd.f30, go_sem]) rfl ⟨rfl, (Below.refl _ w).alloc (Nat.le_refl _) _⟩
set_option maxHeartbeats 400000 in
theorem of_4 (w : World) : Calls Tryd.prog 30 #[.int .u8 4] w fun e w' => e = .returned (.tuple #[.agg #[.int .i64 0, .int .i64 1099511627776, .bool false, .bool true, .func (.func 46) #[] #[]], .bool true]) ∧ Below w.heap.size w w' := by
  go_enter Tryd.func30, Tryd.ntmps30
  go_wp2
  exact bodyPost_ret (v := .tuple #[.agg #[.int .i64 0, .int .i64 1099511627776, .bool false, .bool true, .func (.func 46) #[] #[]], .bool true]) (by simp [results, Tryd.f30, go_sem]) rfl ⟨rfl, (Below.refl _ w).alloc (Nat.le_refl _) _⟩
set_option maxHeartbeats 400000 in
theorem of_other (k : Int) (h1 : (k == 1) = false) (h2 : (k == 2) = false) (h3 : (k == 3) = false) (h4 : (k == 4) = false) (w : World) :
    Calls Tryd.prog 30 #[.int .u8 k] w fun e w' => e = .returned (.tuple #[.agg #[.int .i64 0, .int .i64 0, .bool false, .bool false, .nilFunc], .bool false]) ∧ Below w.heap.size w w' := by
  go_enter Tryd.func30, Tryd.ntmps30
  go_wp2
  exact bodyPost_ret (v := .tuple #[.agg #[.int .i64 0, .int .i64 0, .bool false, .bool false, .nilFunc], .bool false]) (by simp [results, Tryd.f30, go_sem]) rfl ⟨rfl, (Below.refl _ w).alloc (Nat.le_refl _) _⟩

/-- An item as a value. -/
def itemV (p : ByteArray) (k m t : Int) (A : Option Addr) (n c : Nat) (lt : ByteArray) : Value := .agg #[.string p, .int .u8 k, .int .i64 m, .int .i64 t, .slice A n c, .string lt]
theorem plain_calls (p : ByteArray) (k m t : Int) (A : Option Addr) (n c : Nat) (lt : ByteArray) (w : World) :
    Calls Tryd.prog 44 #[itemV p k m t A n c lt] w fun e w' => e = .returned (.int .i64 (if 65536 < n then 2 else 0)) ∧ Below w.heap.size w w' := by
  unfold itemV
  by_cases h : 65536 < n
  · have h' : (65536 : Int) < (n : Int) := by omega
    rw [if_pos h]
    go_enter Tryd.func44, Tryd.ntmps44
    go_wp2
    go_ret
    exact ⟨rfl, (Below.refl _ w).alloc (Nat.le_refl _) _⟩
  · have h' : (n : Int) ≤ 65536 := by omega
    rw [if_neg h]
    go_enter Tryd.func44, Tryd.ntmps44
    go_wp2
    go_ret
    exact ⟨rfl, (Below.refl _ w).alloc (Nat.le_refl _) _⟩
theorem hard_calls (p : ByteArray) (k m t : Int) (A : Option Addr) (n c : Nat) (lt : ByteArray) (w : World) :
    Calls Tryd.prog 45 #[itemV p k m t A n c lt] w fun e w' => e = .returned (.int .i64 (check lt).2) ∧ Below w.heap.size w w' := by
  unfold itemV
  go_enter Tryd.func45, Tryd.ntmps45
  go_wp2_with (go_at_call 29; refine (check_calls _ _).mono ?_; rintro e w1 ⟨rfl, hb1⟩)
  go_ret
  exact ⟨rfl, ((Below.refl _ w).alloc (Nat.le_refl _) _).trans (hb1.mono (by simp))⟩
theorem soft_calls (p : ByteArray) (k m t : Int) (A : Option Addr) (n c : Nat) (lt : ByteArray) (w : World) (hG : GOK w) :
    Calls Tryd.prog 46 #[itemV p k m t A n c lt] w fun e w' => e = .returned (.int .i64 (leadErr p lt)) ∧ Below w.heap.size w w' := by
  unfold itemV
  have hG1 := fun o => Lib.hid (hG.below ((Below.refl _ w).alloc (Nat.le_refl _) o))
  clear hG
  go_enter Tryd.func46, Tryd.ntmps46
  go_wp2_with (go_at_call 59; refine (lead_calls _ _ _ (hG1 _).out).mono ?_; rintro e w1 ⟨⟨r, rfl⟩, hb1⟩)
  go_ret
  exact ⟨rfl, ((Below.refl _ w).alloc (Nat.le_refl _) _).trans (hb1.mono (by simp))⟩
end Go.Proofs.YtlinghjgnomflaaDoor.H
