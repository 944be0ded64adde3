/- pax.Get's deferred closure: what it does of a frame that throws, of one that returns; slices.Clip. -/
import Derived.Test.YtkkffccdkbijkaaDoorProg
import Derived.Test.YtkkffccdkbijkaaDoorWWords
import Derived.WalkLawsBesides
import Derived.WalkSmall
import Derived.WalkKit
import Derived.RegionTactic
import Derived.ChangeAlike
import Derived.BigRegion
import Derived.Defers
import Derived.Recover
import Derived.Lib.Hide
namespace Go.Proofs.YtkkffccdkbijkaaDoor.H
open Go.RowKit Go.Lib Go.Proofs.YtkkffccdkbijkaaDoorW.PrintWords
set_option linter.unusedVariables false
set_option linter.unusedSimpArgs false

theorem catch_idle (p0 p1 p2 : Value) (w : World) :
    CallsD Tryd.prog 31 #[p0, p1, p2] .returning w fun e u' w' => e = .returned (.tuple #[]) ∧ u' = .returning ∧ w' = w := by
  refine callsD_of_wpS Tryd.func31 rfl fun c₀ cs hu => ?_
  apply wpS_seq
  apply wpS_region
  simp [wpOpsS, go_sem, recoverD, hu, Tryd.ntmps31, Exit.thenS]
  apply wpS_seq
  apply wpS_region
  simp [wpOpsS, go_sem, recoverD, hu, Tryd.ntmps31, Exit.thenS]
  refine wpS_cond (t := false) (by simp [Act.eval, Array.replicate]) ?_
  simp only [Bool.false_eq_true, if_false]
  refine wpS_of_wp (wp_skip ?_)
  cases c₀
  simp_all [bodyPostS, results, Tryd.results31]

theorem al_cell {W : World} {a : Addr} {v : Value} (o : Obj) (h : W.cell? a = some v) : (W.alloc o).cell? a = some v := by
  have := (Below.refl W.heap.size W).alloc (Nat.le_refl _) o
  exact (this.cell (World.block_lt_of_cell? W _ h)).trans h
theorem al_frozen {W : World} {a : Addr} {v : Value} (o : Obj) (h : W.cell? a = some v) (hf : W.frozen? a = false) : (W.alloc o).frozen? a = false := by
  have := (Below.refl W.heap.size W).alloc (Nat.le_refl _) o
  exact (this.frozen (World.block_lt_of_cell? W _ h)).trans hf
theorem set3 {W : World} {B : Nat} {v0 v1 v2 x0 x1 x2 : Value} (c0 : W.cell? ⟨B, 0, none⟩ = some v0) (c1 : W.cell? ⟨B + 1, 0, none⟩ = some v1) (c2 : W.cell? ⟨B + 2, 0, none⟩ = some v2) :
    ((((W.setCell ⟨B, 0, none⟩ x0).setCell ⟨B + 1, 0, none⟩ x1).setCell ⟨B + 2, 0, none⟩ x2).drew).cell? ⟨B, 0, none⟩ = some x0 ∧ ((((W.setCell ⟨B, 0, none⟩ x0).setCell ⟨B + 1, 0, none⟩ x1).setCell ⟨B + 2, 0, none⟩ x2).drew).cell? ⟨B + 1, 0, none⟩ = some x1 ∧ ((((W.setCell ⟨B, 0, none⟩ x0).setCell ⟨B + 1, 0, none⟩ x1).setCell ⟨B + 2, 0, none⟩ x2).drew).cell? ⟨B + 2, 0, none⟩ = some x2 := by
  have n01 : (⟨B + 1, 0, none⟩ : Addr) ≠ ⟨B, 0, none⟩ := by intro h; injection h with h; omega
  have n02 : (⟨B + 2, 0, none⟩ : Addr) ≠ ⟨B, 0, none⟩ := by intro h; injection h with h; omega
  have n12 : (⟨B + 2, 0, none⟩ : Addr) ≠ ⟨B + 1, 0, none⟩ := by intro h; injection h with h; omega
  refine ⟨?_, ?_, ?_⟩
  · exact (World.cell?_setCell_other _ _ _ _ n02).trans ((World.cell?_setCell_other _ _ _ _ n01).trans (World.cell?_setCell_same _ _ _ c0))
  · exact (World.cell?_setCell_other _ _ _ _ n12).trans (World.cell?_setCell_same _ _ _ ((World.cell?_setCell_other _ _ _ _ n01.symm).trans c1))
  · exact World.cell?_setCell_same _ _ _ ((World.cell?_setCell_other _ _ _ _ n12.symm).trans ((World.cell?_setCell_other _ _ _ _ n02.symm).trans c2))
theorem broken_is (v : Value) (W : World) : (Instr.typeAssert (.iface 65 v) 20 65 true).run Tryd.prog W = .ok (.tuple #[v, .bool true]) W := by kernel_rfl
set_option maxHeartbeats 4000000 in
set_option maxRecDepth 100000 in
theorem catch_broken (B : Nat) (pl cd : Int) (v0 v1 v2 : Value) (older : List PanicEntry) (w : World) (h0 : w.heap[B]? = some (.cells #[v0] 22 (0, 0))) (h1 : w.heap[B + 1]? = some (.cells #[v1] 3 (0, 0))) (h2 : w.heap[B + 2]? = some (.cells #[v2] 24 (0, 0))) :
    CallsD Tryd.prog 31 #[.pointer (some ⟨B, 0, none⟩), .pointer (some ⟨B + 1, 0, none⟩), .pointer (some ⟨B + 2, 0, none⟩)] (.panicking ({ v := .iface 65 (.agg #[.int .i64 pl, .int .i64 cd]), recovered := false } :: older)) w fun e u' w' =>
      e = .returned (.tuple #[]) ∧ u' = .panicking ({ v := .iface 65 (.agg #[.int .i64 pl, .int .i64 cd]), recovered := true } :: older) ∧
      w'.cell? ⟨B, 0, none⟩ = some (.slice none 0 0) ∧ w'.cell? ⟨B + 1, 0, none⟩ = some (.int .i64 pl) ∧ w'.cell? ⟨B + 2, 0, none⟩ = some (.int .i64 cd) ∧ Below B w w' := by
  refine callsD_of_wpS Tryd.func31 rfl fun c₀ cs hu => ?_
  apply wpS_seq
  apply wpS_region
  simp [wpOpsS, go_sem, recoverD, hu, Tryd.ntmps31, Exit.thenS]
  apply wpS_seq
  apply wpS_region
  simp [wpOpsS, go_sem, recoverD, hu, Tryd.ntmps31, Exit.thenS]
  refine wpS_cond (t := true) (by simp [Act.eval, Array.replicate]) ?_
  simp only [if_true]
  refine wpS_of_wp ?_
  have hta : ∀ W, (Instr.typeAssert (.iface 65 (.agg #[.int .i64 pl, .int .i64 cd])) 20 65 true).run Tryd.prog W = .ok (.tuple #[.agg #[.int .i64 pl, .int .i64 cd], .bool true]) W := fun W => broken_is _ W
  have c0 := (blk_cell h0 0).trans rfl
  have c1 := (blk_cell h1 0).trans rfl
  have c2 := (blk_cell h2 0).trans rfl
  have hfr0 : w.frozen? ⟨B, 0, none⟩ = false := by simp [World.frozen?, h0]
  have hfr1 : w.frozen? ⟨B + 1, 0, none⟩ = false := by simp [World.frozen?, h1]
  have hfr2 : w.frozen? ⟨B + 2, 0, none⟩ = false := by simp [World.frozen?, h2]
  have hs : B + 2 < w.heap.size := blk_lt h2
  have he : ({ tmps := #[.pointer (some ⟨B, 0, none⟩), .pointer (some ⟨B + 1, 0, none⟩), .pointer (some ⟨B + 2, 0, none⟩)] ++ ((((Array.replicate 18 undef).setIfInBounds 3 (.iface 65 (.agg #[.int .i64 pl, .int .i64 cd]))).setIfInBounds 0 (.iface 65 (.agg #[.int .i64 pl, .int .i64 cd]))).setIfInBounds 4 (.iface 65 (.agg #[.int .i64 pl, .int .i64 cd]))).setIfInBounds 5 (.bool true), defers := [] } : Act) = { tmps := #[.pointer (some ⟨B, 0, none⟩), .pointer (some ⟨B + 1, 0, none⟩), .pointer (some ⟨B + 2, 0, none⟩), .iface 65 (.agg #[.int .i64 pl, .int .i64 cd]), undef, undef, .iface 65 (.agg #[.int .i64 pl, .int .i64 cd]), .iface 65 (.agg #[.int .i64 pl, .int .i64 cd]), .bool true, undef, undef, undef, undef, undef, undef, undef, undef, undef, undef, undef, undef], defers := [] } := rfl
  rw [he]
  have d0 : ∀ o, (w.alloc o).cell? ⟨B, 0, none⟩ = some v0 := fun o => al_cell o c0
  have d1 : ∀ o, (w.alloc o).cell? ⟨B + 1, 0, none⟩ = some v1 := fun o => al_cell o c1
  have d2 : ∀ o, (w.alloc o).cell? ⟨B + 2, 0, none⟩ = some v2 := fun o => al_cell o c2
  have e0 : ∀ o, (w.alloc o).frozen? ⟨B, 0, none⟩ = false := fun o => al_frozen o c0 hfr0
  have e1 : ∀ o, (w.alloc o).frozen? ⟨B + 1, 0, none⟩ = false := fun o => al_frozen o c1 hfr1
  have e2 : ∀ o, (w.alloc o).frozen? ⟨B + 2, 0, none⟩ = false := fun o => al_frozen o c2 hfr2
  clear he h0 h1 h2 c0 c1 c2 hfr0 hfr1 hfr2
  have HE := Lib.hid (set3 (x0 := .slice none 0 0) (x1 := .int .i64 pl) (x2 := .int .i64 cd) (d0 (.cells #[.int .i64 pl, .int .i64 cd] 65)) (d1 _) (d2 _))
  have HBW := Lib.hid (((((Below.refl B w).alloc (by omega) (.cells #[.int .i64 pl, .int .i64 cd] 65)).setCell (p := ⟨B, 0, none⟩) (Nat.le_refl B) (.slice none 0 0)).setCell (p := ⟨B + 1, 0, none⟩) (Nat.le_succ B) (.int .i64 pl)).setCell (p := ⟨B + 2, 0, none⟩) (Nat.le_add_right B 2) (.int .i64 cd))
  go_wp2
  go_region
  all_goals exact ⟨rfl, _, rfl, .tuple #[], by simp [results, Tryd.f31, go_sem], rfl, rfl, HE.out.1, HE.out.2.1, HE.out.2.2, HBW.out.trans ⟨rfl, rfl, rfl, Nat.le_refl _, fun _ _ => rfl⟩⟩
end Go.Proofs.YtkkffccdkbijkaaDoor.H
