/- tree.May: what its call does. -/
import Derived.Test.YtlinghjgnomflaaDoorHTree
import Derived.Test.YtlinghjgnomflaaDoorHMayP
import Derived.Deep.Light
namespace Go.Proofs.YtlinghjgnomflaaDoor.H
open Go.RowKit Go.Shelf
set_option linter.unusedSimpArgs false

theorem ret_int {k : IntKind} {a b : Int} (h : a = b) : Ending.returned (.int k a) = .returned (.int k b) := by rw [h]
theorem six {W : World} {b : Nat} {v0 v1 v2 v3 v4 v5 : Value} {t : TypeId} (h : W.heap[b]? = some (.cells #[v0, v1, v2, v3, v4, v5] t (0, 0))) :
    W.cell? ⟨b, 0, none⟩ = some v0 ∧ W.cell? ⟨b, 1, none⟩ = some v1 ∧ W.cell? ⟨b, 2, none⟩ = some v2 ∧ W.cell? ⟨b, 3, none⟩ = some v3 ∧ W.cell? ⟨b, 4, none⟩ = some v4 ∧ W.cell? ⟨b, 5, none⟩ = some v5 := by
  simp [World.cell?, h]

set_option maxRecDepth 100000 in
set_option maxHeartbeats 2000000 in
theorem may_1 (p : ByteArray) (m t : Int) (A : Option Addr) (n c : Nat) (lt : ByteArray) (w : World) :
    Calls Tryd.prog 20 #[itemV p 1 m t A n c lt] w fun e w' => e = .returned (.int .i64 (mayErr p 1 m t n lt)) ∧ Below w.heap.size w w' := by
  obtain ⟨r, hr⟩ : ∃ r, mayErr p 1 m t n lt = r := ⟨_, rfl⟩
  obtain ⟨x, y, hxy⟩ : ∃ x y, check p = (x, y) := ⟨_, _, rfl⟩
  have C1 := fun W => check_calls p W
  rw [hxy] at C1
  dsimp only at C1
  rw [mayErr, hxy] at hr
  have HR := Lib.hid hr
  rw [mayErr, hxy, hr]
  clear hxy hr
  unfold itemV
  go_enter Tryd.func20, Tryd.ntmps20
  go_wp2_with (first
    | (go_at_call 29; refine (C1 _).mono ?_; rintro e w1 ⟨rfl, hb1⟩; have hx1 := (hb1.block w.heap.size (by simp)).trans (World.alloc_heap_new w _); obtain ⟨a0, a1, a2, a3, a4, a5⟩ := six hx1; have hz1 : w.heap.size < w1.heap.size := (Array.getElem?_eq_some_iff.1 hx1).1; have hB1 : Below w.heap.size w w1 := ((Below.refl _ w).alloc (Nat.le_refl _) _).trans (hb1.mono (by simp)))
    | (go_at_call 30; refine (of_1 _).mono ?_; rintro e w2 ⟨rfl, hb2⟩; have hx2 := (hb2.block w.heap.size hz1).trans hx1; obtain ⟨b0, b1, b2, b3, b4, b5⟩ := six hx2; have hz2 : w.heap.size < w2.heap.size := (Array.getElem?_eq_some_iff.1 hx2).1; have hB2 : Below w.heap.size w w2 := hB1.trans (hb2.mono (by omega)))
    | (go_at_call 44; refine (plain_calls _ _ _ _ _ _ _ _ _).mono ?_; rintro e w3 ⟨rfl, hb3⟩; have hB3 : Below w.heap.size w w3 := (hB2.alloc (by omega) _).trans (hb3.mono (by simp; omega))))
  all_goals go_ret
  all_goals have hh := HR.out
  all_goals clear HR C1
  all_goals refine ⟨ret_int ?_, ?_⟩
  all_goals first
    | exact hB3
    | exact hB2.alloc (by omega) _
    | exact hB1
    | skip
  all_goals go_light
  all_goals (try simp only [bne_iff_ne, bne_eq_false_iff_eq, Bool.not_eq_true', Bool.not_eq_false'] at *)
  all_goals (repeat' split at hh)
  all_goals first | exact hh | (exfalso; omega) | (exfalso; simp_all; done)

set_option maxRecDepth 100000 in
set_option maxHeartbeats 2000000 in
theorem may_2 (p : ByteArray) (m t : Int) (A : Option Addr) (n c : Nat) (lt : ByteArray) (w : World) :
    Calls Tryd.prog 20 #[itemV p 2 m t A n c lt] w fun e w' => e = .returned (.int .i64 (mayErr p 2 m t n lt)) ∧ Below w.heap.size w w' := by
  obtain ⟨r, hr⟩ : ∃ r, mayErr p 2 m t n lt = r := ⟨_, rfl⟩
  obtain ⟨x, y, hxy⟩ : ∃ x y, check p = (x, y) := ⟨_, _, rfl⟩
  have C1 := fun W => check_calls p W
  rw [hxy] at C1
  dsimp only at C1
  rw [mayErr, hxy] at hr
  have HR := Lib.hid hr
  rw [mayErr, hxy, hr]
  clear hxy hr
  unfold itemV
  go_enter Tryd.func20, Tryd.ntmps20
  go_wp2_with (first
    | (go_at_call 29; refine (C1 _).mono ?_; rintro e w1 ⟨rfl, hb1⟩; have hx1 := (hb1.block w.heap.size (by simp)).trans (World.alloc_heap_new w _); obtain ⟨a0, a1, a2, a3, a4, a5⟩ := six hx1; have hz1 : w.heap.size < w1.heap.size := (Array.getElem?_eq_some_iff.1 hx1).1; have hB1 : Below w.heap.size w w1 := ((Below.refl _ w).alloc (Nat.le_refl _) _).trans (hb1.mono (by simp)))
    | (go_at_call 30; refine (of_2 _).mono ?_; rintro e w2 ⟨rfl, hb2⟩; have hx2 := (hb2.block w.heap.size hz1).trans hx1; obtain ⟨b0, b1, b2, b3, b4, b5⟩ := six hx2; have hz2 : w.heap.size < w2.heap.size := (Array.getElem?_eq_some_iff.1 hx2).1; have hB2 : Below w.heap.size w w2 := hB1.trans (hb2.mono (by omega)))
    | (go_at_call 44; refine (plain_calls _ _ _ _ _ _ _ _ _).mono ?_; rintro e w3 ⟨rfl, hb3⟩; have hB3 : Below w.heap.size w w3 := (hB2.alloc (by omega) _).trans (hb3.mono (by simp; omega))))
  all_goals go_ret
  all_goals have hh := HR.out
  all_goals clear HR C1
  all_goals refine ⟨ret_int ?_, ?_⟩
  all_goals first
    | exact hB3
    | exact hB2.alloc (by omega) _
    | exact hB1
    | skip
  all_goals go_light
  all_goals (try simp only [bne_iff_ne, bne_eq_false_iff_eq, Bool.not_eq_true', Bool.not_eq_false'] at *)
  all_goals (repeat' split at hh)
  all_goals first | exact hh | (exfalso; omega) | (exfalso; simp_all; done)

set_option maxRecDepth 100000 in
set_option maxHeartbeats 2000000 in
theorem may_3 (p : ByteArray) (m t : Int) (A : Option Addr) (n c : Nat) (lt : ByteArray) (w : World) :
    Calls Tryd.prog 20 #[itemV p 3 m t A n c lt] w fun e w' => e = .returned (.int .i64 (mayErr p 3 m t n lt)) ∧ Below w.heap.size w w' := by
  obtain ⟨r, hr⟩ : ∃ r, mayErr p 3 m t n lt = r := ⟨_, rfl⟩
  obtain ⟨x, y, hxy⟩ : ∃ x y, check p = (x, y) := ⟨_, _, rfl⟩
  have C1 := fun W => check_calls p W
  rw [hxy] at C1
  dsimp only at C1
  rw [mayErr, hxy] at hr
  have HR := Lib.hid hr
  rw [mayErr, hxy, hr]
  clear hxy hr
  unfold itemV
  go_enter Tryd.func20, Tryd.ntmps20
  go_wp2_with (first
    | (go_at_call 29; refine (C1 _).mono ?_; rintro e w1 ⟨rfl, hb1⟩; have hx1 := (hb1.block w.heap.size (by simp)).trans (World.alloc_heap_new w _); obtain ⟨a0, a1, a2, a3, a4, a5⟩ := six hx1; have hz1 : w.heap.size < w1.heap.size := (Array.getElem?_eq_some_iff.1 hx1).1; have hB1 : Below w.heap.size w w1 := ((Below.refl _ w).alloc (Nat.le_refl _) _).trans (hb1.mono (by simp)))
    | (go_at_call 30; refine (of_3 _).mono ?_; rintro e w2 ⟨rfl, hb2⟩; have hx2 := (hb2.block w.heap.size hz1).trans hx1; obtain ⟨b0, b1, b2, b3, b4, b5⟩ := six hx2; have hz2 : w.heap.size < w2.heap.size := (Array.getElem?_eq_some_iff.1 hx2).1; have hB2 : Below w.heap.size w w2 := hB1.trans (hb2.mono (by omega)))
    | (go_at_call 45; refine (hard_calls _ _ _ _ _ _ _ _ _).mono ?_; rintro e w3 ⟨rfl, hb3⟩; have hB3 : Below w.heap.size w w3 := (hB2.alloc (by omega) _).trans (hb3.mono (by simp; omega))))
  all_goals go_ret
  all_goals have hh := HR.out
  all_goals clear HR C1
  all_goals refine ⟨ret_int ?_, ?_⟩
  all_goals first
    | exact hB3
    | exact hB2.alloc (by omega) _
    | exact hB1
    | skip
  all_goals go_light
  all_goals (try simp only [bne_iff_ne, bne_eq_false_iff_eq, Bool.not_eq_true', Bool.not_eq_false'] at *)
  all_goals (repeat' split at hh)
  all_goals first | exact hh | (exfalso; omega) | (exfalso; simp_all; done)

set_option maxRecDepth 100000 in
set_option maxHeartbeats 2000000 in
theorem may_4 (p : ByteArray) (m t : Int) (A : Option Addr) (n c : Nat) (lt : ByteArray) (w : World) (hG : GOK w) :
    Calls Tryd.prog 20 #[itemV p 4 m t A n c lt] w fun e w' => e = .returned (.int .i64 (mayErr p 4 m t n lt)) ∧ Below w.heap.size w w' := by
  have HG := Lib.hid hG
  clear hG
  obtain ⟨r, hr⟩ : ∃ r, mayErr p 4 m t n lt = r := ⟨_, rfl⟩
  obtain ⟨x, y, hxy⟩ : ∃ x y, check p = (x, y) := ⟨_, _, rfl⟩
  have C1 := fun W => check_calls p W
  rw [hxy] at C1
  dsimp only at C1
  rw [mayErr, hxy] at hr
  have HR := Lib.hid hr
  rw [mayErr, hxy, hr]
  clear hxy hr
  unfold itemV
  go_enter Tryd.func20, Tryd.ntmps20
  go_wp2_with (first
    | (go_at_call 29; refine (C1 _).mono ?_; rintro e w1 ⟨rfl, hb1⟩; have hx1 := (hb1.block w.heap.size (by simp)).trans (World.alloc_heap_new w _); obtain ⟨a0, a1, a2, a3, a4, a5⟩ := six hx1; have hz1 : w.heap.size < w1.heap.size := (Array.getElem?_eq_some_iff.1 hx1).1; have hB1 : Below w.heap.size w w1 := ((Below.refl _ w).alloc (Nat.le_refl _) _).trans (hb1.mono (by simp)))
    | (go_at_call 30; refine (of_4 _).mono ?_; rintro e w2 ⟨rfl, hb2⟩; have hx2 := (hb2.block w.heap.size hz1).trans hx1; obtain ⟨b0, b1, b2, b3, b4, b5⟩ := six hx2; have hz2 : w.heap.size < w2.heap.size := (Array.getElem?_eq_some_iff.1 hx2).1; have hB2 : Below w.heap.size w w2 := hB1.trans (hb2.mono (by omega)))
    | (go_at_call 46; refine (soft_calls _ _ _ _ _ _ _ _ _ (HG.out.below (hB2.alloc (by omega) _))).mono ?_; rintro e w3 ⟨rfl, hb3⟩; have hB3 : Below w.heap.size w w3 := (hB2.alloc (by omega) _).trans (hb3.mono (by simp; omega))))
  all_goals go_ret
  all_goals have hh := HR.out
  all_goals clear HR C1
  all_goals refine ⟨ret_int ?_, ?_⟩
  all_goals first
    | exact hB3
    | exact hB2.alloc (by omega) _
    | exact hB1
    | skip
  all_goals go_light
  all_goals (try simp only [bne_iff_ne, bne_eq_false_iff_eq, Bool.not_eq_true', Bool.not_eq_false'] at *)
  all_goals (repeat' split at hh)
  all_goals first | exact hh | (exfalso; omega) | (exfalso; simp_all; done)

set_option maxRecDepth 100000 in
set_option maxHeartbeats 2000000 in
theorem may_other (p : ByteArray) (k m t : Int) (h1 : (k == 1) = false) (h2 : (k == 2) = false) (h3 : (k == 3) = false) (h4 : (k == 4) = false) (A : Option Addr) (n c : Nat) (lt : ByteArray) (w : World) :
    Calls Tryd.prog 20 #[itemV p k m t A n c lt] w fun e w' => e = .returned (.int .i64 (mayErr p k m t n lt)) ∧ Below w.heap.size w w' := by
  obtain ⟨r, hr⟩ : ∃ r, mayErr p k m t n lt = r := ⟨_, rfl⟩
  obtain ⟨x, y, hxy⟩ : ∃ x y, check p = (x, y) := ⟨_, _, rfl⟩
  have C1 := fun W => check_calls p W
  rw [hxy] at C1
  dsimp only at C1
  rw [mayErr, hxy] at hr
  have HR := Lib.hid hr
  rw [mayErr, hxy, hr]
  clear hxy hr
  unfold itemV
  go_enter Tryd.func20, Tryd.ntmps20
  go_wp2_with (first
    | (go_at_call 29; refine (C1 _).mono ?_; rintro e w1 ⟨rfl, hb1⟩; have hx1 := (hb1.block w.heap.size (by simp)).trans (World.alloc_heap_new w _); obtain ⟨a0, a1, a2, a3, a4, a5⟩ := six hx1; have hz1 : w.heap.size < w1.heap.size := (Array.getElem?_eq_some_iff.1 hx1).1; have hB1 : Below w.heap.size w w1 := ((Below.refl _ w).alloc (Nat.le_refl _) _).trans (hb1.mono (by simp)))
    | (go_at_call 30; refine (of_other k h1 h2 h3 h4 _).mono ?_; rintro e w2 ⟨rfl, hb2⟩; have hx2 := (hb2.block w.heap.size hz1).trans hx1; obtain ⟨b0, b1, b2, b3, b4, b5⟩ := six hx2; have hz2 : w.heap.size < w2.heap.size := (Array.getElem?_eq_some_iff.1 hx2).1; have hB2 : Below w.heap.size w w2 := hB1.trans (hb2.mono (by omega))))
  all_goals go_ret
  all_goals have hh := HR.out
  all_goals clear HR C1
  all_goals refine ⟨ret_int ?_, ?_⟩
  all_goals first
    | exact hB2.alloc (by omega) _
    | exact hB1
    | skip
  all_goals go_light
  all_goals (try simp only [bne_iff_ne, bne_eq_false_iff_eq, Bool.not_eq_true', Bool.not_eq_false'] at *)
  all_goals (repeat' split at hh)
  all_goals first | exact hh | (exfalso; omega) | (exfalso; simp_all; done)

/-- tree.May, whatever the item. -/
theorem may_calls (p : ByteArray) (k m t : Int) (A : Option Addr) (n c : Nat) (lt : ByteArray) (w : World) (hG : GOK w) :
    Calls Tryd.prog 20 #[itemV p k m t A n c lt] w fun e w' => e = .returned (.int .i64 (mayErr p k m t n lt)) ∧ Below w.heap.size w w' := by
  by_cases h1 : k = 1
  · subst h1; exact may_1 p m t A n c lt w
  by_cases h2 : k = 2
  · subst h2; exact may_2 p m t A n c lt w
  by_cases h3 : k = 3
  · subst h3; exact may_3 p m t A n c lt w
  by_cases h4 : k = 4
  · subst h4; exact may_4 p m t A n c lt w hG
  exact may_other p k m t (by simpa using h1) (by simpa using h2) (by simpa using h3) (by simpa using h4) A n c lt w
end Go.Proofs.YtlinghjgnomflaaDoor.H
