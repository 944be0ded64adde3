-- PRINTED by print.py (a twelfth state) out of the translation. Not trusted: Lean checks it.
import Derived.Test.YtlinghjgnomflaaDoorQx0
import Derived.Test.YtlinghjgnomflaaDoorQx3
import Derived.Test.YtlinghjgnomflaaDoorQx4
namespace Go.Proofs.YtlinghjgnomflaaDoor.Q
open Go.RowKit Go.Proofs.YtlinghjgnomflaaDoor.H Go.Proofs.YtlinghjgnomflaaDoorW.PrintWords Go.Proofs.YtlinghjgnomflaaDoorW.PrintLast Go.Proofs.YtlinghjgnomflaaDoorW.PrintMore
attribute [local go_sem] max2_int min2_int max_two min_two max_three min_three max_four min_four   -- for this text's walks alone
set_option linter.unusedVariables false
set_option linter.unusedSimpArgs false

/-! ### tabularyref11_May: function 23 -/
mutual
def tabularyref11_May.j0 : Nat → Bool → ByteArray → Int → Int → Int → List Int → ByteArray → Option (Int)
  | 0, _, _, _, _, _, _, _ => none
  | k + 1, x21, x160000, x160001, x160002, x160003, x160004, x160005 => if x21 = true then (some 1) else (if x160003 < 0 then (tabularyref11_May.j1 k true x160000 x160001 x160002 x160003 x160004 x160005) else (if x160003 > 1099511627776 then (tabularyref11_May.j1 k true x160000 x160001 x160002 x160003 x160004 x160005) else (if x160001 = 3 then (tabularyref11_May.j1 k (x160003 != 0) x160000 x160001 x160002 x160003 x160004 x160005) else (tabularyref11_May.j1 k false x160000 x160001 x160002 x160003 x160004 x160005))))
def tabularyref11_May.j1 : Nat → Bool → ByteArray → Int → Int → Int → List Int → ByteArray → Option (Int)
  | 0, _, _, _, _, _, _, _ => none
  | k + 1, x39, x160000, x160001, x160002, x160003, x160004, x160005 => if x39 = true then (some 1) else (if x160002 < 0 then (tabularyref11_May.j2 k true x160000 x160001 x160002 x160003 x160004 x160005) else (if x160002 > 4095 then (tabularyref11_May.j2 k true x160000 x160001 x160002 x160003 x160004 x160005) else ((tabularyref11_link.f x160001).bind fun t162 => (if t162 = true then (tabularyref11_May.j2 k (x160002 != 0) x160000 x160001 x160002 x160003 x160004 x160005) else (tabularyref11_May.j2 k false x160000 x160001 x160002 x160003 x160004 x160005)))))
def tabularyref11_May.j2 : Nat → Bool → ByteArray → Int → Int → Int → List Int → ByteArray → Option (Int)
  | 0, _, _, _, _, _, _, _ => none
  | k + 1, x57, x160000, x160001, x160002, x160003, x160004, x160005 => if x57 = true then (some 1) else (if (x160004.length : Int) > 0 then (if x160001 = 1 then (if x160005.toList = ([] : List UInt8) then (tabularyref11_May.j3 k false x160000 x160001 x160002 x160003 x160004 x160005) else ((tabularyref11_link.f x160001).bind fun t163 => (tabularyref11_May.j3 k (!t163) x160000 x160001 x160002 x160003 x160004 x160005))) else (tabularyref11_May.j3 k true x160000 x160001 x160002 x160003 x160004 x160005)) else (if x160005.toList = ([] : List UInt8) then (tabularyref11_May.j3 k false x160000 x160001 x160002 x160003 x160004 x160005) else ((tabularyref11_link.f x160001).bind fun t164 => (tabularyref11_May.j3 k (!t164) x160000 x160001 x160002 x160003 x160004 x160005))))
def tabularyref11_May.j3 : Nat → Bool → ByteArray → Int → Int → Int → List Int → ByteArray → Option (Int)
  | 0, _, _, _, _, _, _, _ => none
  | k + 1, x77, x160000, x160001, x160002, x160003, x160004, x160005 => if x77 = true then (some 110) else (if (x160004.length : Int) > 65536 then (some 2) else (if x160001 = 3 then ((tabularyref08_Check.f k x160005).bind fun bt165 => (some bt165.2)) else (if x160001 = 4 then ((tabularyref08_Lead.f k x160000 x160005).bind fun bt167 => (some bt167.2)) else (some 0))))
end
def tabularyref11_May.f (k : Nat) (a0_0 : ByteArray) (a0_1 : Int) (a0_2 : Int) (a0_3 : Int) (l0_4 : List Int) (a0_5 : ByteArray) : Option (Int) := (tabularyref08_Check.f k a0_0).bind fun bt160 => (if bt160.2 = 0 then (if a0_1 < 1 then (tabularyref11_May.j0 k true a0_0 a0_1 a0_2 a0_3 l0_4 a0_5) else (tabularyref11_May.j0 k (decide (a0_1 > 4)) a0_0 a0_1 a0_2 a0_3 l0_4 a0_5)) else (some bt160.2))
theorem tabularyref11_May.mono_l : ∀ k, (∀ y0 y1 y2 y3 y4 y5 y6, LeO (tabularyref11_May.j0 k y0 y1 y2 y3 y4 y5 y6) (tabularyref11_May.j0 (k + 1) y0 y1 y2 y3 y4 y5 y6)) ∧ (∀ y0 y1 y2 y3 y4 y5 y6, LeO (tabularyref11_May.j1 k y0 y1 y2 y3 y4 y5 y6) (tabularyref11_May.j1 (k + 1) y0 y1 y2 y3 y4 y5 y6)) ∧ (∀ y0 y1 y2 y3 y4 y5 y6, LeO (tabularyref11_May.j2 k y0 y1 y2 y3 y4 y5 y6) (tabularyref11_May.j2 (k + 1) y0 y1 y2 y3 y4 y5 y6)) ∧ (∀ y0 y1 y2 y3 y4 y5 y6, LeO (tabularyref11_May.j3 k y0 y1 y2 y3 y4 y5 y6) (tabularyref11_May.j3 (k + 1) y0 y1 y2 y3 y4 y5 y6))
  | 0 => ⟨fun _ _ _ _ _ _ _ r h => by simp [tabularyref11_May.j0] at h, fun _ _ _ _ _ _ _ r h => by simp [tabularyref11_May.j1] at h, fun _ _ _ _ _ _ _ r h => by simp [tabularyref11_May.j2] at h, fun _ _ _ _ _ _ _ r h => by simp [tabularyref11_May.j3] at h⟩
  | k + 1 => by
    obtain ⟨ih0, ih1, ih2, ih3⟩ := tabularyref11_May.mono_l k
    refine ⟨?_, ?_, ?_, ?_⟩
    · intro y0 y1 y2 y3 y4 y5 y6
      unfold tabularyref11_May.j0
      repeat' first
      | (with_reducible exact ih0 _ _ _ _ _ _ _)
      | (with_reducible exact ih1 _ _ _ _ _ _ _)
      | (with_reducible exact ih2 _ _ _ _ _ _ _)
      | (with_reducible exact ih3 _ _ _ _ _ _ _)
      | (with_reducible exact tabularyref08_Check.mono _ _)
      | (with_reducible exact tabularyref08_Lead.mono _ _ _)
      | (with_reducible exact LeO.refl _)
      | (with_reducible exact LeO.none _)
      | (with_reducible refine LeO.ite ?_ ?_)
      | (with_reducible refine LeO.bind ?_ (fun _ => ?_))
      | exact ih0 _ _ _ _ _ _ _
      | exact ih1 _ _ _ _ _ _ _
      | exact ih2 _ _ _ _ _ _ _
      | exact ih3 _ _ _ _ _ _ _
      | exact tabularyref08_Check.mono _ _
      | exact tabularyref08_Lead.mono _ _ _
      | exact LeO.none _
      | refine LeO.ite ?_ ?_
      | refine LeO.bind ?_ (fun _ => ?_)
    · intro y0 y1 y2 y3 y4 y5 y6
      unfold tabularyref11_May.j1
      repeat' first
      | (with_reducible exact ih0 _ _ _ _ _ _ _)
      | (with_reducible exact ih1 _ _ _ _ _ _ _)
      | (with_reducible exact ih2 _ _ _ _ _ _ _)
      | (with_reducible exact ih3 _ _ _ _ _ _ _)
      | (with_reducible exact tabularyref08_Check.mono _ _)
      | (with_reducible exact tabularyref08_Lead.mono _ _ _)
      | (with_reducible exact LeO.refl _)
      | (with_reducible exact LeO.none _)
      | (with_reducible refine LeO.ite ?_ ?_)
      | (with_reducible refine LeO.bind ?_ (fun _ => ?_))
      | exact ih0 _ _ _ _ _ _ _
      | exact ih1 _ _ _ _ _ _ _
      | exact ih2 _ _ _ _ _ _ _
      | exact ih3 _ _ _ _ _ _ _
      | exact tabularyref08_Check.mono _ _
      | exact tabularyref08_Lead.mono _ _ _
      | exact LeO.none _
      | refine LeO.ite ?_ ?_
      | refine LeO.bind ?_ (fun _ => ?_)
    · intro y0 y1 y2 y3 y4 y5 y6
      unfold tabularyref11_May.j2
      repeat' first
      | (with_reducible exact ih0 _ _ _ _ _ _ _)
      | (with_reducible exact ih1 _ _ _ _ _ _ _)
      | (with_reducible exact ih2 _ _ _ _ _ _ _)
      | (with_reducible exact ih3 _ _ _ _ _ _ _)
      | (with_reducible exact tabularyref08_Check.mono _ _)
      | (with_reducible exact tabularyref08_Lead.mono _ _ _)
      | (with_reducible exact LeO.refl _)
      | (with_reducible exact LeO.none _)
      | (with_reducible refine LeO.ite ?_ ?_)
      | (with_reducible refine LeO.bind ?_ (fun _ => ?_))
      | exact ih0 _ _ _ _ _ _ _
      | exact ih1 _ _ _ _ _ _ _
      | exact ih2 _ _ _ _ _ _ _
      | exact ih3 _ _ _ _ _ _ _
      | exact tabularyref08_Check.mono _ _
      | exact tabularyref08_Lead.mono _ _ _
      | exact LeO.none _
      | refine LeO.ite ?_ ?_
      | refine LeO.bind ?_ (fun _ => ?_)
    · intro y0 y1 y2 y3 y4 y5 y6
      unfold tabularyref11_May.j3
      repeat' first
      | (with_reducible exact ih0 _ _ _ _ _ _ _)
      | (with_reducible exact ih1 _ _ _ _ _ _ _)
      | (with_reducible exact ih2 _ _ _ _ _ _ _)
      | (with_reducible exact ih3 _ _ _ _ _ _ _)
      | (with_reducible exact tabularyref08_Check.mono _ _)
      | (with_reducible exact tabularyref08_Lead.mono _ _ _)
      | (with_reducible exact LeO.refl _)
      | (with_reducible exact LeO.none _)
      | (with_reducible refine LeO.ite ?_ ?_)
      | (with_reducible refine LeO.bind ?_ (fun _ => ?_))
      | exact ih0 _ _ _ _ _ _ _
      | exact ih1 _ _ _ _ _ _ _
      | exact ih2 _ _ _ _ _ _ _
      | exact ih3 _ _ _ _ _ _ _
      | exact tabularyref08_Check.mono _ _
      | exact tabularyref08_Lead.mono _ _ _
      | exact LeO.none _
      | refine LeO.ite ?_ ?_
      | refine LeO.bind ?_ (fun _ => ?_)
theorem tabularyref11_May.mono : ∀ a0 a1 a2 a3 a4 a5 k, LeO (tabularyref11_May.f k a0 a1 a2 a3 a4 a5) (tabularyref11_May.f (k + 1) a0 a1 a2 a3 a4 a5) := by
  intro a0 a1 a2 a3 a4 a5 k
  obtain ⟨ih0, ih1, ih2, ih3⟩ := tabularyref11_May.mono_l k
  unfold tabularyref11_May.f
  repeat' first
      | (with_reducible exact ih0 _ _ _ _ _ _ _)
      | (with_reducible exact ih1 _ _ _ _ _ _ _)
      | (with_reducible exact ih2 _ _ _ _ _ _ _)
      | (with_reducible exact ih3 _ _ _ _ _ _ _)
      | (with_reducible exact tabularyref08_Check.mono _ _)
      | (with_reducible exact tabularyref08_Lead.mono _ _ _)
      | (with_reducible exact LeO.refl _)
      | (with_reducible exact LeO.none _)
      | (with_reducible refine LeO.ite ?_ ?_)
      | (with_reducible refine LeO.bind ?_ (fun _ => ?_))
      | exact ih0 _ _ _ _ _ _ _
      | exact ih1 _ _ _ _ _ _ _
      | exact ih2 _ _ _ _ _ _ _
      | exact ih3 _ _ _ _ _ _ _
      | exact tabularyref08_Check.mono _ _
      | exact tabularyref08_Lead.mono _ _ _
      | exact LeO.none _
      | refine LeO.ite ?_ ?_
      | refine LeO.bind ?_ (fun _ => ?_)
set_option maxHeartbeats 8000000 in
set_option maxRecDepth 100000 in
theorem tabularyref11_May.calls (k : Nat) (a0_0 : ByteArray) (a0_1 : Int) (a0_2 : Int) (a0_3 : Int) (A0_4 : Option Addr) (c0_4 : Nat) (l0_4 : List Int) (a0_5 : ByteArray) (r : Int) (w : World) (hr0_4 : Kd.C (Kd.int .u8) w A0_4 l0_4.length l0_4) (hc0_4 : l0_4.length ≤ c0_4) (h : tabularyref11_May.f k a0_0 a0_1 a0_2 a0_3 l0_4 a0_5 = some r) :
    Calls Tryd.prog 23 #[.agg #[.string a0_0, .int .u8 a0_1, .int .i64 a0_2, .int .i64 a0_3, .slice A0_4 l0_4.length c0_4, .string a0_5]] w fun e w' => e = .returned (.int .i64 r) ∧ Below w.heap.size w w' := by
  have hu25 := Tryd.underlying25
  have HR0_4 := Aside0.mk hr0_4
  have HC0_4 := Aside0.mk hc0_4
  clear hr0_4 hc0_4
  have HB := Aside0.mk (Below.refl w.heap.size w)
  have H : ((tabularyref08_Check.f k a0_0).bind fun bt160 => (if bt160.2 = 0 then (if a0_1 < 1 then (tabularyref11_May.j0 k true a0_0 a0_1 a0_2 a0_3 l0_4 a0_5) else (tabularyref11_May.j0 k (decide (a0_1 > 4)) a0_0 a0_1 a0_2 a0_3 l0_4 a0_5)) else (some bt160.2))) = some r := h
  clear h
  replace H := Option.bind_eq_some_iff.mp H
  obtain ⟨⟨t160, t161⟩, A20, H⟩ := H
  replace H : (if t161 = 0 then (if a0_1 < 1 then (tabularyref11_May.j0 k true a0_0 a0_1 a0_2 a0_3 l0_4 a0_5) else (tabularyref11_May.j0 k (decide (a0_1 > 4)) a0_0 a0_1 a0_2 a0_3 l0_4 a0_5)) else (some t161)) = some r := H
  have A2 := Aside0.mk A20
  clear A20
  by_cases c3 : t161 = 0
  · rw [if_pos c3] at H
    have c3b0 : (t161 == 0) = true := beq_iff_eq.mpr c3
    have c3b1 : (t161 != 0) = false := bne_eq_false_iff_eq.mpr c3
    clear c3
    have HC4 := Aside0.mk H
    clear H
    go_enter Tryd.func23, Tryd.ntmps23
    go_upto_region 4 with (first | ((with_reducible refine gate_dst (N := 1) rfl ?_); refine box_event ?hg (N := 1) ?hd (cs := #[.string a0_0, .int .u8 a0_1, .int .i64 a0_2, .int .i64 a0_3, .slice A0_4 l0_4.length c0_4, .string a0_5]) (t := 25) ?hr ?_; (case hd => rfl); (case hg => rfl); (case hr => first | (go_simp; done) | (go_simp; rfl)); intro gb159 hg w5 hbox hb; have n0_ := Aside0.mk (below_step (by repeat (first | (with_reducible first | exact HB.out | apply below_alloc | apply pw_below_drewN | apply below_drew1) | exact HB.out)) hb); have n1_ := Aside0.mk (hbox); have n2_ := Aside0.mk ((by rw [hg]; exact (below_size (by repeat (first | (with_reducible first | exact HB.out | apply below_alloc | apply pw_below_drewN | apply below_drew1) | exact HB.out))) : w.heap.size ≤ gb159)); have n3_ := Aside0.mk ((by rw [hg]; exact (below_size (by repeat (first | (with_reducible first | exact HB.out | apply below_alloc | apply pw_below_drewN | apply below_drew1) | exact HB.out))) : w.heap.size ≤ gb159)); clear HB; have HB := n0_; have BK159 := n1_; have GW159 := n2_; have GE159 := n3_; clear n0_ n1_ n2_ n3_; clear hb hbox hg; have hcz6_0 : w5.cell? ⟨gb159, 0, none⟩ = some (.string a0_0) := (blk_cell BK159.out 0).trans rfl; have hcz6_1 : w5.cell? ⟨gb159, 1, none⟩ = some (.int .u8 a0_1) := (blk_cell BK159.out 1).trans rfl; have hcz6_2 : w5.cell? ⟨gb159, 2, none⟩ = some (.int .i64 a0_2) := (blk_cell BK159.out 2).trans rfl; have hcz6_3 : w5.cell? ⟨gb159, 3, none⟩ = some (.int .i64 a0_3) := (blk_cell BK159.out 3).trans rfl; have hcz6_4 : w5.cell? ⟨gb159, 4, none⟩ = some (.slice A0_4 l0_4.length c0_4) := (blk_cell BK159.out 4).trans rfl; have hcz6_5 : w5.cell? ⟨gb159, 5, none⟩ = some (.string a0_5) := (blk_cell BK159.out 5).trans rfl; have hfz6_0 := blk_frozen BK159.out 0; have hfz6_1 := blk_frozen BK159.out 1; have hfz6_2 := blk_frozen BK159.out 2; have hfz6_3 := blk_frozen BK159.out 3; have hfz6_4 := blk_frozen BK159.out 4; have hfz6_5 := blk_frozen BK159.out 5) | ((with_reducible refine gate_callee (f := 32) rfl ?_); refine goesL_ (some 8) rfl rfl Tryd.func32 (by kernel_rfl) rfl #[.string a0_0] rfl (by (try simp only [List.map_toArray, List.map_cons, List.map_nil]); first | done | rfl | (simp only [List.length_drop, List.length_take]; rfl)) ?_; (with_reducible refine (tabularyref08_Check.calls k a0_0 t160 t161 _ A2.out).mono ?_); rintro e w7 ⟨rfl, hb⟩; refine ⟨_, rfl, ?_⟩; have n0_ := Aside0.mk (blk_below (g := gb159) (o := .cells #[.string a0_0, .int .u8 a0_1, .int .i64 a0_2, .int .i64 a0_3, .slice A0_4 l0_4.length c0_4, .string a0_5] 25 (0, 0)) (by (with_reducible repeat (first | refine blk_drewN ?_ _ | refine blk_drew ?_ | refine blk_alloc ?_ _)); exact BK159.out) hb); have n1_ := Aside0.mk (below_step (by repeat (first | (with_reducible first | exact HB.out | apply below_alloc | apply pw_below_drewN | apply below_drew1 | refine below_set ?_ GE159.out) | exact HB.out)) hb); clear BK159; clear HB; have BK159 := n0_; have HB := n1_; clear n0_ n1_; (try clear hb); (try clear hb2); (try clear hk); (try clear hi)))
    (try simp only [Act.put, List.setIfInBounds_toArray, List.set_cons_zero, List.set_cons_succ])
    go_cut [21] (fun v21 wc => ∃ (kq : Nat) (x21_3 : Bool), v21 = .bool x21_3 ∧ Aside0 (tabularyref11_May.j0 kq x21_3 a0_0 a0_1 a0_2 a0_3 l0_4 a0_5 = some r) ∧ Aside0 (kq ≤ k) ∧ Aside0 (wc.heap[gb159]? = some (.cells #[.string a0_0, .int .u8 a0_1, .int .i64 a0_2, .int .i64 a0_3, (.slice A0_4 l0_4.length c0_4), .string a0_5] 25 (0, 0))) ∧ Aside0 (Below w.heap.size w wc))
    case first =>
      have H := HC4.out
      clear HC4
      by_cases c8 : a0_1 < 1
      · rw [if_pos c8] at H
        have c8b0 : decide (a0_1 < 1) = true := decide_eq_true c8
        clear c8
        (first | rw [c8b0] | (simp only [i64_w, i32_w]; rw [c8b0]) | skip)
        have H' := Aside0.mk H
        clear H
        have hcz9_0 : w7.cell? ⟨gb159, 0, none⟩ = some (.string a0_0) := (blk_cell BK159.out 0).trans rfl
        have hcz9_1 : w7.cell? ⟨gb159, 1, none⟩ = some (.int .u8 a0_1) := (blk_cell BK159.out 1).trans rfl
        have hcz9_2 : w7.cell? ⟨gb159, 2, none⟩ = some (.int .i64 a0_2) := (blk_cell BK159.out 2).trans rfl
        have hcz9_3 : w7.cell? ⟨gb159, 3, none⟩ = some (.int .i64 a0_3) := (blk_cell BK159.out 3).trans rfl
        have hcz9_4 : w7.cell? ⟨gb159, 4, none⟩ = some (.slice A0_4 l0_4.length c0_4) := (blk_cell BK159.out 4).trans rfl
        have hcz9_5 : w7.cell? ⟨gb159, 5, none⟩ = some (.string a0_5) := (blk_cell BK159.out 5).trans rfl
        have hfz9_0 := blk_frozen BK159.out 0
        have hfz9_1 := blk_frozen BK159.out 1
        have hfz9_2 := blk_frozen BK159.out 2
        have hfz9_3 := blk_frozen BK159.out 3
        have hfz9_4 := blk_frozen BK159.out 4
        have hfz9_5 := blk_frozen BK159.out 5
        go_wp2
        go_meet
        case rel => exact ⟨_, (true), (by first | rfl | (simp; done) | (simp [*]; done)), H', ⟨by first | omega | exact Nat.le_refl _⟩, ⟨by (with_reducible repeat (first | refine blk_drewN ?_ _ | refine blk_drew ?_ | refine blk_alloc ?_ _)); exact BK159.out⟩, ⟨by repeat (first | (with_reducible first | exact HB.out | apply below_alloc | apply pw_below_drewN | apply below_drew1 | refine below_set ?_ GE159.out) | exact HB.out)⟩⟩
      · rw [if_neg c8] at H
        have c8b0 : decide (a0_1 < 1) = false := decide_eq_false c8
        clear c8
        (first | rw [c8b0] | (simp only [i64_w, i32_w]; rw [c8b0]) | skip)
        have H' := Aside0.mk H
        clear H
        have hcz10_0 : w7.cell? ⟨gb159, 0, none⟩ = some (.string a0_0) := (blk_cell BK159.out 0).trans rfl
        have hcz10_1 : w7.cell? ⟨gb159, 1, none⟩ = some (.int .u8 a0_1) := (blk_cell BK159.out 1).trans rfl
        have hcz10_2 : w7.cell? ⟨gb159, 2, none⟩ = some (.int .i64 a0_2) := (blk_cell BK159.out 2).trans rfl
        have hcz10_3 : w7.cell? ⟨gb159, 3, none⟩ = some (.int .i64 a0_3) := (blk_cell BK159.out 3).trans rfl
        have hcz10_4 : w7.cell? ⟨gb159, 4, none⟩ = some (.slice A0_4 l0_4.length c0_4) := (blk_cell BK159.out 4).trans rfl
        have hcz10_5 : w7.cell? ⟨gb159, 5, none⟩ = some (.string a0_5) := (blk_cell BK159.out 5).trans rfl
        have hfz10_0 := blk_frozen BK159.out 0
        have hfz10_1 := blk_frozen BK159.out 1
        have hfz10_2 := blk_frozen BK159.out 2
        have hfz10_3 := blk_frozen BK159.out 3
        have hfz10_4 := blk_frozen BK159.out 4
        have hfz10_5 := blk_frozen BK159.out 5
        go_wp2
        go_meet
        case rel => exact ⟨_, (decide (a0_1 > 4)), (by first | rfl | (simp; done) | (simp [*]; done)), H', ⟨by first | omega | exact Nat.le_refl _⟩, ⟨by (with_reducible repeat (first | refine blk_drewN ?_ _ | refine blk_drew ?_ | refine blk_alloc ?_ _)); exact BK159.out⟩, ⟨by repeat (first | (with_reducible first | exact HB.out | apply below_alloc | apply pw_below_drewN | apply below_drew1 | refine below_set ?_ GE159.out) | exact HB.out)⟩⟩
    case rest =>
      clear HC4
      try clear c2
      try clear p2
      try clear c3
      try clear c3b0
      try clear c3b1
      try clear c8
      try clear c8b0
      try clear hcz10_0
      try clear hcz10_1
      try clear hcz10_2
      try clear hcz10_3
      try clear hcz10_4
      try clear hcz10_5
      try clear hcz6_0
      try clear hcz6_1
      try clear hcz6_2
      try clear hcz6_3
      try clear hcz6_4
      try clear hcz6_5
      try clear hcz9_0
      try clear hcz9_1
      try clear hcz9_2
      try clear hcz9_3
      try clear hcz9_4
      try clear hcz9_5
      try clear hfz10_0
      try clear hfz10_1
      try clear hfz10_2
      try clear hfz10_3
      try clear hfz10_4
      try clear hfz10_5
      try clear hfz6_0
      try clear hfz6_1
      try clear hfz6_2
      try clear hfz6_3
      try clear hfz6_4
      try clear hfz6_5
      try clear hfz9_0
      try clear hfz9_1
      try clear hfz9_2
      try clear hfz9_3
      try clear hfz9_4
      try clear hfz9_5
      obtain ⟨kq, x21_3, rfl, HA, HJ3, BK159, HB⟩ := hcut
      cases kq with
      | zero => exact absurd HA.out (by simp [tabularyref11_May.j0])
      | succ kj3 =>
        have H := HA.out
        clear HA
        simp only [tabularyref11_May.j0] at H
        by_cases c11 : x21_3 = true
        · subst c11
          have H1 : (some 1) = some r := by rw [if_pos rfl] at H; exact H
          clear H
          have H := H1
          clear H1
          obtain rfl := Option.some.inj H
          go_wp2
          go_ret
          exact ⟨by first | rfl | (simp [errW_none, errW_some] <;> rfl) | (simp [*, errW_none, errW_some] <;> rfl), by repeat (first | (with_reducible first | exact HB.out | apply below_alloc | apply pw_below_drewN | apply below_drew1 | refine below_set ?_ GE159.out) | exact HB.out)⟩
        · replace c11 := Bool.eq_false_iff.mpr c11
          subst c11
          have H1 : (if a0_3 < 0 then (tabularyref11_May.j1 kj3 true a0_0 a0_1 a0_2 a0_3 l0_4 a0_5) else (if a0_3 > 1099511627776 then (tabularyref11_May.j1 kj3 true a0_0 a0_1 a0_2 a0_3 l0_4 a0_5) else (if a0_1 = 3 then (tabularyref11_May.j1 kj3 (a0_3 != 0) a0_0 a0_1 a0_2 a0_3 l0_4 a0_5) else (tabularyref11_May.j1 kj3 false a0_0 a0_1 a0_2 a0_3 l0_4 a0_5)))) = some r := by rw [if_neg (show ¬ (false = true) by decide)] at H; exact H
          clear H
          have H := H1
          clear H1
          have HC12 := Aside0.mk H
          clear H
          go_upto_region 6 with (fail)
          go_cut [39] (fun v39 wc => ∃ (kq : Nat) (x39_11 : Bool), v39 = .bool x39_11 ∧ Aside0 (tabularyref11_May.j1 kq x39_11 a0_0 a0_1 a0_2 a0_3 l0_4 a0_5 = some r) ∧ Aside0 (kq ≤ kj3) ∧ Aside0 (wc.heap[gb159]? = some (.cells #[.string a0_0, .int .u8 a0_1, .int .i64 a0_2, .int .i64 a0_3, (.slice A0_4 l0_4.length c0_4), .string a0_5] 25 (0, 0))) ∧ Aside0 (Below w.heap.size w wc))
          case first =>
            have H := HC12.out
            clear HC12
            by_cases c13 : a0_3 < 0
            · rw [if_pos c13] at H
              have c13b0 : decide (a0_3 < 0) = true := decide_eq_true c13
              clear c13
              (first | rw [c13b0] | (simp only [i64_w, i32_w]; rw [c13b0]) | skip)
              have H' := Aside0.mk H
              clear H
              have hcz14_0 : wc.cell? ⟨gb159, 0, none⟩ = some (.string a0_0) := (blk_cell BK159.out 0).trans rfl
              have hcz14_1 : wc.cell? ⟨gb159, 1, none⟩ = some (.int .u8 a0_1) := (blk_cell BK159.out 1).trans rfl
              have hcz14_2 : wc.cell? ⟨gb159, 2, none⟩ = some (.int .i64 a0_2) := (blk_cell BK159.out 2).trans rfl
              have hcz14_3 : wc.cell? ⟨gb159, 3, none⟩ = some (.int .i64 a0_3) := (blk_cell BK159.out 3).trans rfl
              have hcz14_4 : wc.cell? ⟨gb159, 4, none⟩ = some (.slice A0_4 l0_4.length c0_4) := (blk_cell BK159.out 4).trans rfl
              have hcz14_5 : wc.cell? ⟨gb159, 5, none⟩ = some (.string a0_5) := (blk_cell BK159.out 5).trans rfl
              have hfz14_0 := blk_frozen BK159.out 0
              have hfz14_1 := blk_frozen BK159.out 1
              have hfz14_2 := blk_frozen BK159.out 2
              have hfz14_3 := blk_frozen BK159.out 3
              have hfz14_4 := blk_frozen BK159.out 4
              have hfz14_5 := blk_frozen BK159.out 5
              go_wp2
              go_meet
              case rel => exact ⟨_, (true), (by first | rfl | (simp; done) | (simp [*]; done)), H', ⟨by have := HJ3.out; first | omega | exact Nat.le_refl _⟩, ⟨by (with_reducible repeat (first | refine blk_drewN ?_ _ | refine blk_drew ?_ | refine blk_alloc ?_ _)); exact BK159.out⟩, ⟨by repeat (first | (with_reducible first | exact HB.out | apply below_alloc | apply pw_below_drewN | apply below_drew1 | refine below_set ?_ GE159.out) | exact HB.out)⟩⟩
            · rw [if_neg c13] at H
              have c13b0 : decide (a0_3 < 0) = false := decide_eq_false c13
              clear c13
              (first | rw [c13b0] | (simp only [i64_w, i32_w]; rw [c13b0]) | skip)
              by_cases c15 : a0_3 > 1099511627776
              · rw [if_pos c15] at H
                have c15b0 : decide (1099511627776 < a0_3) = true := decide_eq_true c15
                clear c15
                have H' := Aside0.mk H
                clear H
                have hcz16_0 : wc.cell? ⟨gb159, 0, none⟩ = some (.string a0_0) := (blk_cell BK159.out 0).trans rfl
                have hcz16_1 : wc.cell? ⟨gb159, 1, none⟩ = some (.int .u8 a0_1) := (blk_cell BK159.out 1).trans rfl
                have hcz16_2 : wc.cell? ⟨gb159, 2, none⟩ = some (.int .i64 a0_2) := (blk_cell BK159.out 2).trans rfl
                have hcz16_3 : wc.cell? ⟨gb159, 3, none⟩ = some (.int .i64 a0_3) := (blk_cell BK159.out 3).trans rfl
                have hcz16_4 : wc.cell? ⟨gb159, 4, none⟩ = some (.slice A0_4 l0_4.length c0_4) := (blk_cell BK159.out 4).trans rfl
                have hcz16_5 : wc.cell? ⟨gb159, 5, none⟩ = some (.string a0_5) := (blk_cell BK159.out 5).trans rfl
                have hfz16_0 := blk_frozen BK159.out 0
                have hfz16_1 := blk_frozen BK159.out 1
                have hfz16_2 := blk_frozen BK159.out 2
                have hfz16_3 := blk_frozen BK159.out 3
                have hfz16_4 := blk_frozen BK159.out 4
                have hfz16_5 := blk_frozen BK159.out 5
                go_wp2
                go_meet
                case rel => exact ⟨_, (true), (by first | rfl | (simp; done) | (simp [*]; done)), H', ⟨by have := HJ3.out; first | omega | exact Nat.le_refl _⟩, ⟨by (with_reducible repeat (first | refine blk_drewN ?_ _ | refine blk_drew ?_ | refine blk_alloc ?_ _)); exact BK159.out⟩, ⟨by repeat (first | (with_reducible first | exact HB.out | apply below_alloc | apply pw_below_drewN | apply below_drew1 | refine below_set ?_ GE159.out) | exact HB.out)⟩⟩
              · rw [if_neg c15] at H
                have c15b0 : decide (1099511627776 < a0_3) = false := decide_eq_false c15
                clear c15
                by_cases c17 : a0_1 = 3
                · rw [if_pos c17] at H
                  have c17b0 : (a0_1 == 3) = true := beq_iff_eq.mpr c17
                  have c17b1 : (a0_1 != 3) = false := bne_eq_false_iff_eq.mpr c17
                  clear c17
                  have H' := Aside0.mk H
                  clear H
                  have hcz18_0 : wc.cell? ⟨gb159, 0, none⟩ = some (.string a0_0) := (blk_cell BK159.out 0).trans rfl
                  have hcz18_1 : wc.cell? ⟨gb159, 1, none⟩ = some (.int .u8 a0_1) := (blk_cell BK159.out 1).trans rfl
                  have hcz18_2 : wc.cell? ⟨gb159, 2, none⟩ = some (.int .i64 a0_2) := (blk_cell BK159.out 2).trans rfl
                  have hcz18_3 : wc.cell? ⟨gb159, 3, none⟩ = some (.int .i64 a0_3) := (blk_cell BK159.out 3).trans rfl
                  have hcz18_4 : wc.cell? ⟨gb159, 4, none⟩ = some (.slice A0_4 l0_4.length c0_4) := (blk_cell BK159.out 4).trans rfl
                  have hcz18_5 : wc.cell? ⟨gb159, 5, none⟩ = some (.string a0_5) := (blk_cell BK159.out 5).trans rfl
                  have hfz18_0 := blk_frozen BK159.out 0
                  have hfz18_1 := blk_frozen BK159.out 1
                  have hfz18_2 := blk_frozen BK159.out 2
                  have hfz18_3 := blk_frozen BK159.out 3
                  have hfz18_4 := blk_frozen BK159.out 4
                  have hfz18_5 := blk_frozen BK159.out 5
                  go_wp2
                  go_meet
                  case rel => exact ⟨_, ((a0_3 != 0)), (by first | rfl | (simp; done) | (simp [*]; done)), H', ⟨by have := HJ3.out; first | omega | exact Nat.le_refl _⟩, ⟨by (with_reducible repeat (first | refine blk_drewN ?_ _ | refine blk_drew ?_ | refine blk_alloc ?_ _)); exact BK159.out⟩, ⟨by repeat (first | (with_reducible first | exact HB.out | apply below_alloc | apply pw_below_drewN | apply below_drew1 | refine below_set ?_ GE159.out) | exact HB.out)⟩⟩
                · rw [if_neg c17] at H
                  have c17b0 : (a0_1 == 3) = false := beq_eq_false_iff_ne.mpr c17
                  have c17b1 : (a0_1 != 3) = true := bne_iff_ne.mpr c17
                  have H' := Aside0.mk H
                  clear H
                  have hcz19_0 : wc.cell? ⟨gb159, 0, none⟩ = some (.string a0_0) := (blk_cell BK159.out 0).trans rfl
                  have hcz19_1 : wc.cell? ⟨gb159, 1, none⟩ = some (.int .u8 a0_1) := (blk_cell BK159.out 1).trans rfl
                  have hcz19_2 : wc.cell? ⟨gb159, 2, none⟩ = some (.int .i64 a0_2) := (blk_cell BK159.out 2).trans rfl
                  have hcz19_3 : wc.cell? ⟨gb159, 3, none⟩ = some (.int .i64 a0_3) := (blk_cell BK159.out 3).trans rfl
                  have hcz19_4 : wc.cell? ⟨gb159, 4, none⟩ = some (.slice A0_4 l0_4.length c0_4) := (blk_cell BK159.out 4).trans rfl
                  have hcz19_5 : wc.cell? ⟨gb159, 5, none⟩ = some (.string a0_5) := (blk_cell BK159.out 5).trans rfl
                  have hfz19_0 := blk_frozen BK159.out 0
                  have hfz19_1 := blk_frozen BK159.out 1
                  have hfz19_2 := blk_frozen BK159.out 2
                  have hfz19_3 := blk_frozen BK159.out 3
                  have hfz19_4 := blk_frozen BK159.out 4
                  have hfz19_5 := blk_frozen BK159.out 5
                  go_wp2
                  go_meet
                  case rel => exact ⟨_, (false), (by first | rfl | (simp; done) | (simp [*]; done)), H', ⟨by have := HJ3.out; first | omega | exact Nat.le_refl _⟩, ⟨by (with_reducible repeat (first | refine blk_drewN ?_ _ | refine blk_drew ?_ | refine blk_alloc ?_ _)); exact BK159.out⟩, ⟨by repeat (first | (with_reducible first | exact HB.out | apply below_alloc | apply pw_below_drewN | apply below_drew1 | refine below_set ?_ GE159.out) | exact HB.out)⟩⟩
          case rest =>
            clear HC12
            try clear c1
            try clear c2
            try clear p2
            try clear c3
            try clear c3b0
            try clear c3b1
            try clear c8
            try clear c8b0
            try clear c11
            try clear c13
            try clear c13b0
            try clear c15
            try clear c15b0
            try clear c17
            try clear c17b0
            try clear c17b1
            try clear hcz10_0
            try clear hcz10_1
            try clear hcz10_2
            try clear hcz10_3
            try clear hcz10_4
            try clear hcz10_5
            try clear hcz14_0
            try clear hcz14_1
            try clear hcz14_2
            try clear hcz14_3
            try clear hcz14_4
            try clear hcz14_5
            try clear hcz16_0
            try clear hcz16_1
            try clear hcz16_2
            try clear hcz16_3
            try clear hcz16_4
            try clear hcz16_5
            try clear hcz18_0
            try clear hcz18_1
            try clear hcz18_2
            try clear hcz18_3
            try clear hcz18_4
            try clear hcz18_5
            try clear hcz19_0
            try clear hcz19_1
            try clear hcz19_2
            try clear hcz19_3
            try clear hcz19_4
            try clear hcz19_5
            try clear hcz6_0
            try clear hcz6_1
            try clear hcz6_2
            try clear hcz6_3
            try clear hcz6_4
            try clear hcz6_5
            try clear hcz9_0
            try clear hcz9_1
            try clear hcz9_2
            try clear hcz9_3
            try clear hcz9_4
            try clear hcz9_5
            try clear hfz10_0
            try clear hfz10_1
            try clear hfz10_2
            try clear hfz10_3
            try clear hfz10_4
            try clear hfz10_5
            try clear hfz14_0
            try clear hfz14_1
            try clear hfz14_2
            try clear hfz14_3
            try clear hfz14_4
            try clear hfz14_5
            try clear hfz16_0
            try clear hfz16_1
            try clear hfz16_2
            try clear hfz16_3
            try clear hfz16_4
            try clear hfz16_5
            try clear hfz18_0
            try clear hfz18_1
            try clear hfz18_2
            try clear hfz18_3
            try clear hfz18_4
            try clear hfz18_5
            try clear hfz19_0
            try clear hfz19_1
            try clear hfz19_2
            try clear hfz19_3
            try clear hfz19_4
            try clear hfz19_5
            try clear hfz6_0
            try clear hfz6_1
            try clear hfz6_2
            try clear hfz6_3
            try clear hfz6_4
            try clear hfz6_5
            try clear hfz9_0
            try clear hfz9_1
            try clear hfz9_2
            try clear hfz9_3
            try clear hfz9_4
            try clear hfz9_5
            try clear p2
            obtain ⟨kq, x39_11, rfl, HA, HJ11, BK159, HB⟩ := hcut
            cases kq with
            | zero => exact absurd HA.out (by simp [tabularyref11_May.j1])
            | succ kj11 =>
              have H := HA.out
              clear HA
              simp only [tabularyref11_May.j1] at H
              by_cases c20 : x39_11 = true
              · subst c20
                have H1 : (some 1) = some r := by rw [if_pos rfl] at H; exact H
                clear H
                have H := H1
                clear H1
                obtain rfl := Option.some.inj H
                go_wp2
                go_ret
                exact ⟨by first | rfl | (simp [errW_none, errW_some] <;> rfl) | (simp [*, errW_none, errW_some] <;> rfl), by repeat (first | (with_reducible first | exact HB.out | apply below_alloc | apply pw_below_drewN | apply below_drew1 | refine below_set ?_ GE159.out) | exact HB.out)⟩
              · replace c20 := Bool.eq_false_iff.mpr c20
                subst c20
                have H1 : (if a0_2 < 0 then (tabularyref11_May.j2 kj11 true a0_0 a0_1 a0_2 a0_3 l0_4 a0_5) else (if a0_2 > 4095 then (tabularyref11_May.j2 kj11 true a0_0 a0_1 a0_2 a0_3 l0_4 a0_5) else ((tabularyref11_link.f a0_1).bind fun t162 => (if t162 = true then (tabularyref11_May.j2 kj11 (a0_2 != 0) a0_0 a0_1 a0_2 a0_3 l0_4 a0_5) else (tabularyref11_May.j2 kj11 false a0_0 a0_1 a0_2 a0_3 l0_4 a0_5))))) = some r := by rw [if_neg (show ¬ (false = true) by decide)] at H; exact H
                clear H
                have H := H1
                clear H1
                have HC21 := Aside0.mk H
                clear H
                go_upto_region 8 with (fail)
                go_cut [57] (fun v57 wc => ∃ (kq : Nat) (x57_20 : Bool), v57 = .bool x57_20 ∧ Aside0 (tabularyref11_May.j2 kq x57_20 a0_0 a0_1 a0_2 a0_3 l0_4 a0_5 = some r) ∧ Aside0 (kq ≤ kj11) ∧ Aside0 (wc.heap[gb159]? = some (.cells #[.string a0_0, .int .u8 a0_1, .int .i64 a0_2, .int .i64 a0_3, (.slice A0_4 l0_4.length c0_4), .string a0_5] 25 (0, 0))) ∧ Aside0 (Below w.heap.size w wc))
                case first =>
                  have H := HC21.out
                  clear HC21
                  by_cases c22 : a0_2 < 0
                  · rw [if_pos c22] at H
                    have c22b0 : decide (a0_2 < 0) = true := decide_eq_true c22
                    clear c22
                    (first | rw [c22b0] | (simp only [i64_w, i32_w]; rw [c22b0]) | skip)
                    have H' := Aside0.mk H
                    clear H
                    have hcz23_0 : wc.cell? ⟨gb159, 0, none⟩ = some (.string a0_0) := (blk_cell BK159.out 0).trans rfl
                    have hcz23_1 : wc.cell? ⟨gb159, 1, none⟩ = some (.int .u8 a0_1) := (blk_cell BK159.out 1).trans rfl
                    have hcz23_2 : wc.cell? ⟨gb159, 2, none⟩ = some (.int .i64 a0_2) := (blk_cell BK159.out 2).trans rfl
                    have hcz23_3 : wc.cell? ⟨gb159, 3, none⟩ = some (.int .i64 a0_3) := (blk_cell BK159.out 3).trans rfl
                    have hcz23_4 : wc.cell? ⟨gb159, 4, none⟩ = some (.slice A0_4 l0_4.length c0_4) := (blk_cell BK159.out 4).trans rfl
                    have hcz23_5 : wc.cell? ⟨gb159, 5, none⟩ = some (.string a0_5) := (blk_cell BK159.out 5).trans rfl
                    have hfz23_0 := blk_frozen BK159.out 0
                    have hfz23_1 := blk_frozen BK159.out 1
                    have hfz23_2 := blk_frozen BK159.out 2
                    have hfz23_3 := blk_frozen BK159.out 3
                    have hfz23_4 := blk_frozen BK159.out 4
                    have hfz23_5 := blk_frozen BK159.out 5
                    go_wp2
                    go_meet
                    case rel => exact ⟨_, (true), (by first | rfl | (simp; done) | (simp [*]; done)), H', ⟨by have := HJ3.out; have := HJ11.out; first | omega | exact Nat.le_refl _⟩, ⟨by (with_reducible repeat (first | refine blk_drewN ?_ _ | refine blk_drew ?_ | refine blk_alloc ?_ _)); exact BK159.out⟩, ⟨by repeat (first | (with_reducible first | exact HB.out | apply below_alloc | apply pw_below_drewN | apply below_drew1 | refine below_set ?_ GE159.out) | exact HB.out)⟩⟩
                  · rw [if_neg c22] at H
                    have c22b0 : decide (a0_2 < 0) = false := decide_eq_false c22
                    clear c22
                    (first | rw [c22b0] | (simp only [i64_w, i32_w]; rw [c22b0]) | skip)
                    by_cases c24 : a0_2 > 4095
                    · rw [if_pos c24] at H
                      have c24b0 : decide (4095 < a0_2) = true := decide_eq_true c24
                      clear c24
                      have H' := Aside0.mk H
                      clear H
                      have hcz25_0 : wc.cell? ⟨gb159, 0, none⟩ = some (.string a0_0) := (blk_cell BK159.out 0).trans rfl
                      have hcz25_1 : wc.cell? ⟨gb159, 1, none⟩ = some (.int .u8 a0_1) := (blk_cell BK159.out 1).trans rfl
                      have hcz25_2 : wc.cell? ⟨gb159, 2, none⟩ = some (.int .i64 a0_2) := (blk_cell BK159.out 2).trans rfl
                      have hcz25_3 : wc.cell? ⟨gb159, 3, none⟩ = some (.int .i64 a0_3) := (blk_cell BK159.out 3).trans rfl
                      have hcz25_4 : wc.cell? ⟨gb159, 4, none⟩ = some (.slice A0_4 l0_4.length c0_4) := (blk_cell BK159.out 4).trans rfl
                      have hcz25_5 : wc.cell? ⟨gb159, 5, none⟩ = some (.string a0_5) := (blk_cell BK159.out 5).trans rfl
                      have hfz25_0 := blk_frozen BK159.out 0
                      have hfz25_1 := blk_frozen BK159.out 1
                      have hfz25_2 := blk_frozen BK159.out 2
                      have hfz25_3 := blk_frozen BK159.out 3
                      have hfz25_4 := blk_frozen BK159.out 4
                      have hfz25_5 := blk_frozen BK159.out 5
                      go_wp2
                      go_meet
                      case rel => exact ⟨_, (true), (by first | rfl | (simp; done) | (simp [*]; done)), H', ⟨by have := HJ3.out; have := HJ11.out; first | omega | exact Nat.le_refl _⟩, ⟨by (with_reducible repeat (first | refine blk_drewN ?_ _ | refine blk_drew ?_ | refine blk_alloc ?_ _)); exact BK159.out⟩, ⟨by repeat (first | (with_reducible first | exact HB.out | apply below_alloc | apply pw_below_drewN | apply below_drew1 | refine below_set ?_ GE159.out) | exact HB.out)⟩⟩
                    · rw [if_neg c24] at H
                      have c24b0 : decide (4095 < a0_2) = false := decide_eq_false c24
                      clear c24
                      replace H := Option.bind_eq_some_iff.mp H
                      obtain ⟨t162, A260, H⟩ := H
                      replace H : (if t162 = true then (tabularyref11_May.j2 kj11 (a0_2 != 0) a0_0 a0_1 a0_2 a0_3 l0_4 a0_5) else (tabularyref11_May.j2 kj11 false a0_0 a0_1 a0_2 a0_3 l0_4 a0_5)) = some r := H
                      have A26 := Aside0.mk A260
                      clear A260
                      by_cases c27 : t162 = true
                      · subst c27
                        have H1 : (tabularyref11_May.j2 kj11 (a0_2 != 0) a0_0 a0_1 a0_2 a0_3 l0_4 a0_5) = some r := by rw [if_pos rfl] at H; exact H
                        clear H
                        have H := H1
                        clear H1
                        have H' := Aside0.mk H
                        clear H
                        have hcz28_0 : wc.cell? ⟨gb159, 0, none⟩ = some (.string a0_0) := (blk_cell BK159.out 0).trans rfl
                        have hcz28_1 : wc.cell? ⟨gb159, 1, none⟩ = some (.int .u8 a0_1) := (blk_cell BK159.out 1).trans rfl
                        have hcz28_2 : wc.cell? ⟨gb159, 2, none⟩ = some (.int .i64 a0_2) := (blk_cell BK159.out 2).trans rfl
                        have hcz28_3 : wc.cell? ⟨gb159, 3, none⟩ = some (.int .i64 a0_3) := (blk_cell BK159.out 3).trans rfl
                        have hcz28_4 : wc.cell? ⟨gb159, 4, none⟩ = some (.slice A0_4 l0_4.length c0_4) := (blk_cell BK159.out 4).trans rfl
                        have hcz28_5 : wc.cell? ⟨gb159, 5, none⟩ = some (.string a0_5) := (blk_cell BK159.out 5).trans rfl
                        have hfz28_0 := blk_frozen BK159.out 0
                        have hfz28_1 := blk_frozen BK159.out 1
                        have hfz28_2 := blk_frozen BK159.out 2
                        have hfz28_3 := blk_frozen BK159.out 3
                        have hfz28_4 := blk_frozen BK159.out 4
                        have hfz28_5 := blk_frozen BK159.out 5
                        go_wp2_with (first | (go_at_call 33; (with_reducible refine (tabularyref11_link.calls a0_1 true _ A26.out).mono ?_); rintro e w' ⟨rfl, ⟨nd, rfl⟩⟩))
                        go_meet
                        case rel => exact ⟨_, ((a0_2 != 0)), (by first | rfl | (simp; done) | (simp [*]; done)), H', ⟨by have := HJ3.out; have := HJ11.out; first | omega | exact Nat.le_refl _⟩, ⟨by (with_reducible repeat (first | refine blk_drewN ?_ _ | refine blk_drew ?_ | refine blk_alloc ?_ _)); exact BK159.out⟩, ⟨by repeat (first | (with_reducible first | exact HB.out | apply below_alloc | apply pw_below_drewN | apply below_drew1 | refine below_set ?_ GE159.out) | exact HB.out)⟩⟩
                      · replace c27 := Bool.eq_false_iff.mpr c27
                        subst c27
                        have H1 : (tabularyref11_May.j2 kj11 false a0_0 a0_1 a0_2 a0_3 l0_4 a0_5) = some r := by rw [if_neg (show ¬ (false = true) by decide)] at H; exact H
                        clear H
                        have H := H1
                        clear H1
                        have H' := Aside0.mk H
                        clear H
                        have hcz29_0 : wc.cell? ⟨gb159, 0, none⟩ = some (.string a0_0) := (blk_cell BK159.out 0).trans rfl
                        have hcz29_1 : wc.cell? ⟨gb159, 1, none⟩ = some (.int .u8 a0_1) := (blk_cell BK159.out 1).trans rfl
                        have hcz29_2 : wc.cell? ⟨gb159, 2, none⟩ = some (.int .i64 a0_2) := (blk_cell BK159.out 2).trans rfl
                        have hcz29_3 : wc.cell? ⟨gb159, 3, none⟩ = some (.int .i64 a0_3) := (blk_cell BK159.out 3).trans rfl
                        have hcz29_4 : wc.cell? ⟨gb159, 4, none⟩ = some (.slice A0_4 l0_4.length c0_4) := (blk_cell BK159.out 4).trans rfl
                        have hcz29_5 : wc.cell? ⟨gb159, 5, none⟩ = some (.string a0_5) := (blk_cell BK159.out 5).trans rfl
                        have hfz29_0 := blk_frozen BK159.out 0
                        have hfz29_1 := blk_frozen BK159.out 1
                        have hfz29_2 := blk_frozen BK159.out 2
                        have hfz29_3 := blk_frozen BK159.out 3
                        have hfz29_4 := blk_frozen BK159.out 4
                        have hfz29_5 := blk_frozen BK159.out 5
                        go_wp2_with (first | (go_at_call 33; (with_reducible refine (tabularyref11_link.calls a0_1 false _ A26.out).mono ?_); rintro e w' ⟨rfl, ⟨nd, rfl⟩⟩))
                        go_meet
                        case rel => exact ⟨_, (false), (by first | rfl | (simp; done) | (simp [*]; done)), H', ⟨by have := HJ3.out; have := HJ11.out; first | omega | exact Nat.le_refl _⟩, ⟨by (with_reducible repeat (first | refine blk_drewN ?_ _ | refine blk_drew ?_ | refine blk_alloc ?_ _)); exact BK159.out⟩, ⟨by repeat (first | (with_reducible first | exact HB.out | apply below_alloc | apply pw_below_drewN | apply below_drew1 | refine below_set ?_ GE159.out) | exact HB.out)⟩⟩
                case rest =>
                  clear HC21
                  try clear c1
                  try clear c2
                  try clear p2
                  try clear c3
                  try clear c3b0
                  try clear c3b1
                  try clear c8
                  try clear c8b0
                  try clear c11
                  try clear c13
                  try clear c13b0
                  try clear c15
                  try clear c15b0
                  try clear c17
                  try clear c17b0
                  try clear c17b1
                  try clear c20
                  try clear c22
                  try clear c22b0
                  try clear c23
                  try clear c24
                  try clear c24b0
                  try clear c27
                  try clear hcz10_0
                  try clear hcz10_1
                  try clear hcz10_2
                  try clear hcz10_3
                  try clear hcz10_4
                  try clear hcz10_5
                  try clear hcz14_0
                  try clear hcz14_1
                  try clear hcz14_2
                  try clear hcz14_3
                  try clear hcz14_4
                  try clear hcz14_5
                  try clear hcz16_0
                  try clear hcz16_1
                  try clear hcz16_2
                  try clear hcz16_3
                  try clear hcz16_4
                  try clear hcz16_5
                  try clear hcz18_0
                  try clear hcz18_1
                  try clear hcz18_2
                  try clear hcz18_3
                  try clear hcz18_4
                  try clear hcz18_5
                  try clear hcz19_0
                  try clear hcz19_1
                  try clear hcz19_2
                  try clear hcz19_3
                  try clear hcz19_4
                  try clear hcz19_5
                  try clear hcz23_0
                  try clear hcz23_1
                  try clear hcz23_2
                  try clear hcz23_3
                  try clear hcz23_4
                  try clear hcz23_5
                  try clear hcz25_0
                  try clear hcz25_1
                  try clear hcz25_2
                  try clear hcz25_3
                  try clear hcz25_4
                  try clear hcz25_5
                  try clear hcz28_0
                  try clear hcz28_1
                  try clear hcz28_2
                  try clear hcz28_3
                  try clear hcz28_4
                  try clear hcz28_5
                  try clear hcz29_0
                  try clear hcz29_1
                  try clear hcz29_2
                  try clear hcz29_3
                  try clear hcz29_4
                  try clear hcz29_5
                  try clear hcz6_0
                  try clear hcz6_1
                  try clear hcz6_2
                  try clear hcz6_3
                  try clear hcz6_4
                  try clear hcz6_5
                  try clear hcz9_0
                  try clear hcz9_1
                  try clear hcz9_2
                  try clear hcz9_3
                  try clear hcz9_4
                  try clear hcz9_5
                  try clear hfz10_0
                  try clear hfz10_1
                  try clear hfz10_2
                  try clear hfz10_3
                  try clear hfz10_4
                  try clear hfz10_5
                  try clear hfz14_0
                  try clear hfz14_1
                  try clear hfz14_2
                  try clear hfz14_3
                  try clear hfz14_4
                  try clear hfz14_5
                  try clear hfz16_0
                  try clear hfz16_1
                  try clear hfz16_2
                  try clear hfz16_3
                  try clear hfz16_4
                  try clear hfz16_5
                  try clear hfz18_0
                  try clear hfz18_1
                  try clear hfz18_2
                  try clear hfz18_3
                  try clear hfz18_4
                  try clear hfz18_5
                  try clear hfz19_0
                  try clear hfz19_1
                  try clear hfz19_2
                  try clear hfz19_3
                  try clear hfz19_4
                  try clear hfz19_5
                  try clear hfz23_0
                  try clear hfz23_1
                  try clear hfz23_2
                  try clear hfz23_3
                  try clear hfz23_4
                  try clear hfz23_5
                  try clear hfz25_0
                  try clear hfz25_1
                  try clear hfz25_2
                  try clear hfz25_3
                  try clear hfz25_4
                  try clear hfz25_5
                  try clear hfz28_0
                  try clear hfz28_1
                  try clear hfz28_2
                  try clear hfz28_3
                  try clear hfz28_4
                  try clear hfz28_5
                  try clear hfz29_0
                  try clear hfz29_1
                  try clear hfz29_2
                  try clear hfz29_3
                  try clear hfz29_4
                  try clear hfz29_5
                  try clear hfz6_0
                  try clear hfz6_1
                  try clear hfz6_2
                  try clear hfz6_3
                  try clear hfz6_4
                  try clear hfz6_5
                  try clear hfz9_0
                  try clear hfz9_1
                  try clear hfz9_2
                  try clear hfz9_3
                  try clear hfz9_4
                  try clear hfz9_5
                  try clear p2
                  obtain ⟨kq, x57_20, rfl, HA, HJ20, BK159, HB⟩ := hcut
                  cases kq with
                  | zero => exact absurd HA.out (by simp [tabularyref11_May.j2])
                  | succ kj20 =>
                    have H := HA.out
                    clear HA
                    simp only [tabularyref11_May.j2] at H
                    by_cases c30 : x57_20 = true
                    · subst c30
                      have H1 : (some 1) = some r := by rw [if_pos rfl] at H; exact H
                      clear H
                      have H := H1
                      clear H1
                      obtain rfl := Option.some.inj H
                      go_wp2
                      go_ret
                      exact ⟨by first | rfl | (simp [errW_none, errW_some] <;> rfl) | (simp [*, errW_none, errW_some] <;> rfl), by repeat (first | (with_reducible first | exact HB.out | apply below_alloc | apply pw_below_drewN | apply below_drew1 | refine below_set ?_ GE159.out) | exact HB.out)⟩
                    · replace c30 := Bool.eq_false_iff.mpr c30
                      subst c30
                      have H1 : (if (l0_4.length : Int) > 0 then (if a0_1 = 1 then (if a0_5.toList = ([] : List UInt8) then (tabularyref11_May.j3 kj20 false a0_0 a0_1 a0_2 a0_3 l0_4 a0_5) else ((tabularyref11_link.f a0_1).bind fun t163 => (tabularyref11_May.j3 kj20 (!t163) a0_0 a0_1 a0_2 a0_3 l0_4 a0_5))) else (tabularyref11_May.j3 kj20 true a0_0 a0_1 a0_2 a0_3 l0_4 a0_5)) else (if a0_5.toList = ([] : List UInt8) then (tabularyref11_May.j3 kj20 false a0_0 a0_1 a0_2 a0_3 l0_4 a0_5) else ((tabularyref11_link.f a0_1).bind fun t164 => (tabularyref11_May.j3 kj20 (!t164) a0_0 a0_1 a0_2 a0_3 l0_4 a0_5)))) = some r := by rw [if_neg (show ¬ (false = true) by decide)] at H; exact H
                      clear H
                      have H := H1
                      clear H1
                      have HC31 := Aside0.mk H
                      clear H
                      go_upto_region 10 with (fail)
                      go_cut [77] (fun v77 wc => ∃ (kq : Nat) (x77_30 : Bool), v77 = .bool x77_30 ∧ Aside0 (tabularyref11_May.j3 kq x77_30 a0_0 a0_1 a0_2 a0_3 l0_4 a0_5 = some r) ∧ Aside0 (kq ≤ kj20) ∧ Aside0 (wc.heap[gb159]? = some (.cells #[.string a0_0, .int .u8 a0_1, .int .i64 a0_2, .int .i64 a0_3, (.slice A0_4 l0_4.length c0_4), .string a0_5] 25 (0, 0))) ∧ Aside0 (Below w.heap.size w wc))
                      case first =>
                        have H := HC31.out
                        clear HC31
                        by_cases c32 : (l0_4.length : Int) > 0
                        · rw [if_pos c32] at H
                          have c32b0 : decide (0 < (l0_4.length : Int)) = true := decide_eq_true c32
                          have c32b1 : decide (0 < l0_4.length) = true := decide_eq_true (by omega)
                          clear c32
                          (first | rw [c32b0] | (simp only [i64_w, i32_w]; rw [c32b0]) | skip)
                          by_cases c33 : a0_1 = 1
                          · rw [if_pos c33] at H
                            have c33b0 : (a0_1 == 1) = true := beq_iff_eq.mpr c33
                            have c33b1 : (a0_1 != 1) = false := bne_eq_false_iff_eq.mpr c33
                            clear c33
                            by_cases c34 : a0_5.toList = ([] : List UInt8)
                            · rw [if_pos c34] at H
                              have c34b0 : (a0_5.toList == ([] : List UInt8)) = true := beq_iff_eq.mpr c34
                              have c34b1 : (a0_5.toList != ([] : List UInt8)) = false := bne_eq_false_iff_eq.mpr c34
                              clear c34
                              have H' := Aside0.mk H
                              clear H
                              have hcz35_0 : wc.cell? ⟨gb159, 0, none⟩ = some (.string a0_0) := (blk_cell BK159.out 0).trans rfl
                              have hcz35_1 : wc.cell? ⟨gb159, 1, none⟩ = some (.int .u8 a0_1) := (blk_cell BK159.out 1).trans rfl
                              have hcz35_2 : wc.cell? ⟨gb159, 2, none⟩ = some (.int .i64 a0_2) := (blk_cell BK159.out 2).trans rfl
                              have hcz35_3 : wc.cell? ⟨gb159, 3, none⟩ = some (.int .i64 a0_3) := (blk_cell BK159.out 3).trans rfl
                              have hcz35_4 : wc.cell? ⟨gb159, 4, none⟩ = some (.slice A0_4 l0_4.length c0_4) := (blk_cell BK159.out 4).trans rfl
                              have hcz35_5 : wc.cell? ⟨gb159, 5, none⟩ = some (.string a0_5) := (blk_cell BK159.out 5).trans rfl
                              have hfz35_0 := blk_frozen BK159.out 0
                              have hfz35_1 := blk_frozen BK159.out 1
                              have hfz35_2 := blk_frozen BK159.out 2
                              have hfz35_3 := blk_frozen BK159.out 3
                              have hfz35_4 := blk_frozen BK159.out 4
                              have hfz35_5 := blk_frozen BK159.out 5
                              go_wp2
                              go_meet
                              case rel => exact ⟨_, (false), (by first | rfl | (simp; done) | (simp [*]; done)), H', ⟨by have := HJ3.out; have := HJ11.out; have := HJ20.out; first | omega | exact Nat.le_refl _⟩, ⟨by (with_reducible repeat (first | refine blk_drewN ?_ _ | refine blk_drew ?_ | refine blk_alloc ?_ _)); exact BK159.out⟩, ⟨by repeat (first | (with_reducible first | exact HB.out | apply below_alloc | apply pw_below_drewN | apply below_drew1 | refine below_set ?_ GE159.out) | exact HB.out)⟩⟩
                            · rw [if_neg c34] at H
                              have c34b0 : (a0_5.toList == ([] : List UInt8)) = false := beq_eq_false_iff_ne.mpr c34
                              have c34b1 : (a0_5.toList != ([] : List UInt8)) = true := bne_iff_ne.mpr c34
                              replace H := Option.bind_eq_some_iff.mp H
                              obtain ⟨t163, A360, H⟩ := H
                              replace H : (tabularyref11_May.j3 kj20 (!t163) a0_0 a0_1 a0_2 a0_3 l0_4 a0_5) = some r := H
                              have A36 := Aside0.mk A360
                              clear A360
                              have H' := Aside0.mk H
                              clear H
                              have hcz37_0 : wc.cell? ⟨gb159, 0, none⟩ = some (.string a0_0) := (blk_cell BK159.out 0).trans rfl
                              have hcz37_1 : wc.cell? ⟨gb159, 1, none⟩ = some (.int .u8 a0_1) := (blk_cell BK159.out 1).trans rfl
                              have hcz37_2 : wc.cell? ⟨gb159, 2, none⟩ = some (.int .i64 a0_2) := (blk_cell BK159.out 2).trans rfl
                              have hcz37_3 : wc.cell? ⟨gb159, 3, none⟩ = some (.int .i64 a0_3) := (blk_cell BK159.out 3).trans rfl
                              have hcz37_4 : wc.cell? ⟨gb159, 4, none⟩ = some (.slice A0_4 l0_4.length c0_4) := (blk_cell BK159.out 4).trans rfl
                              have hcz37_5 : wc.cell? ⟨gb159, 5, none⟩ = some (.string a0_5) := (blk_cell BK159.out 5).trans rfl
                              have hfz37_0 := blk_frozen BK159.out 0
                              have hfz37_1 := blk_frozen BK159.out 1
                              have hfz37_2 := blk_frozen BK159.out 2
                              have hfz37_3 := blk_frozen BK159.out 3
                              have hfz37_4 := blk_frozen BK159.out 4
                              have hfz37_5 := blk_frozen BK159.out 5
                              go_wp2_with (first | (go_at_call 33; (with_reducible refine (tabularyref11_link.calls a0_1 t163 _ A36.out).mono ?_); rintro e w' ⟨rfl, ⟨nd, rfl⟩⟩))
                              go_meet
                              case rel => exact ⟨_, (!t163), (by first | rfl | (simp; done) | (simp [*]; done)), H', ⟨by have := HJ3.out; have := HJ11.out; have := HJ20.out; first | omega | exact Nat.le_refl _⟩, ⟨by (with_reducible repeat (first | refine blk_drewN ?_ _ | refine blk_drew ?_ | refine blk_alloc ?_ _)); exact BK159.out⟩, ⟨by repeat (first | (with_reducible first | exact HB.out | apply below_alloc | apply pw_below_drewN | apply below_drew1 | refine below_set ?_ GE159.out) | exact HB.out)⟩⟩
                          · rw [if_neg c33] at H
                            have c33b0 : (a0_1 == 1) = false := beq_eq_false_iff_ne.mpr c33
                            have c33b1 : (a0_1 != 1) = true := bne_iff_ne.mpr c33
                            have H' := Aside0.mk H
                            clear H
                            have hcz38_0 : wc.cell? ⟨gb159, 0, none⟩ = some (.string a0_0) := (blk_cell BK159.out 0).trans rfl
                            have hcz38_1 : wc.cell? ⟨gb159, 1, none⟩ = some (.int .u8 a0_1) := (blk_cell BK159.out 1).trans rfl
                            have hcz38_2 : wc.cell? ⟨gb159, 2, none⟩ = some (.int .i64 a0_2) := (blk_cell BK159.out 2).trans rfl
                            have hcz38_3 : wc.cell? ⟨gb159, 3, none⟩ = some (.int .i64 a0_3) := (blk_cell BK159.out 3).trans rfl
                            have hcz38_4 : wc.cell? ⟨gb159, 4, none⟩ = some (.slice A0_4 l0_4.length c0_4) := (blk_cell BK159.out 4).trans rfl
                            have hcz38_5 : wc.cell? ⟨gb159, 5, none⟩ = some (.string a0_5) := (blk_cell BK159.out 5).trans rfl
                            have hfz38_0 := blk_frozen BK159.out 0
                            have hfz38_1 := blk_frozen BK159.out 1
                            have hfz38_2 := blk_frozen BK159.out 2
                            have hfz38_3 := blk_frozen BK159.out 3
                            have hfz38_4 := blk_frozen BK159.out 4
                            have hfz38_5 := blk_frozen BK159.out 5
                            go_wp2
                            go_meet
                            case rel => exact ⟨_, (true), (by first | rfl | (simp; done) | (simp [*]; done)), H', ⟨by have := HJ3.out; have := HJ11.out; have := HJ20.out; first | omega | exact Nat.le_refl _⟩, ⟨by (with_reducible repeat (first | refine blk_drewN ?_ _ | refine blk_drew ?_ | refine blk_alloc ?_ _)); exact BK159.out⟩, ⟨by repeat (first | (with_reducible first | exact HB.out | apply below_alloc | apply pw_below_drewN | apply below_drew1 | refine below_set ?_ GE159.out) | exact HB.out)⟩⟩
                        · rw [if_neg c32] at H
                          have c32b0 : decide (0 < (l0_4.length : Int)) = false := decide_eq_false c32
                          have c32b1 : decide (0 < l0_4.length) = false := decide_eq_false (by omega)
                          clear c32
                          (first | rw [c32b0] | (simp only [i64_w, i32_w]; rw [c32b0]) | skip)
                          by_cases c39 : a0_5.toList = ([] : List UInt8)
                          · rw [if_pos c39] at H
                            have c39b0 : (a0_5.toList == ([] : List UInt8)) = true := beq_iff_eq.mpr c39
                            have c39b1 : (a0_5.toList != ([] : List UInt8)) = false := bne_eq_false_iff_eq.mpr c39
                            clear c39
                            have H' := Aside0.mk H
                            clear H
                            have hcz40_0 : wc.cell? ⟨gb159, 0, none⟩ = some (.string a0_0) := (blk_cell BK159.out 0).trans rfl
                            have hcz40_1 : wc.cell? ⟨gb159, 1, none⟩ = some (.int .u8 a0_1) := (blk_cell BK159.out 1).trans rfl
                            have hcz40_2 : wc.cell? ⟨gb159, 2, none⟩ = some (.int .i64 a0_2) := (blk_cell BK159.out 2).trans rfl
                            have hcz40_3 : wc.cell? ⟨gb159, 3, none⟩ = some (.int .i64 a0_3) := (blk_cell BK159.out 3).trans rfl
                            have hcz40_4 : wc.cell? ⟨gb159, 4, none⟩ = some (.slice A0_4 l0_4.length c0_4) := (blk_cell BK159.out 4).trans rfl
                            have hcz40_5 : wc.cell? ⟨gb159, 5, none⟩ = some (.string a0_5) := (blk_cell BK159.out 5).trans rfl
                            have hfz40_0 := blk_frozen BK159.out 0
                            have hfz40_1 := blk_frozen BK159.out 1
                            have hfz40_2 := blk_frozen BK159.out 2
                            have hfz40_3 := blk_frozen BK159.out 3
                            have hfz40_4 := blk_frozen BK159.out 4
                            have hfz40_5 := blk_frozen BK159.out 5
                            go_wp2
                            go_meet
                            case rel => exact ⟨_, (false), (by first | rfl | (simp; done) | (simp [*]; done)), H', ⟨by have := HJ3.out; have := HJ11.out; have := HJ20.out; first | omega | exact Nat.le_refl _⟩, ⟨by (with_reducible repeat (first | refine blk_drewN ?_ _ | refine blk_drew ?_ | refine blk_alloc ?_ _)); exact BK159.out⟩, ⟨by repeat (first | (with_reducible first | exact HB.out | apply below_alloc | apply pw_below_drewN | apply below_drew1 | refine below_set ?_ GE159.out) | exact HB.out)⟩⟩
                          · rw [if_neg c39] at H
                            have c39b0 : (a0_5.toList == ([] : List UInt8)) = false := beq_eq_false_iff_ne.mpr c39
                            have c39b1 : (a0_5.toList != ([] : List UInt8)) = true := bne_iff_ne.mpr c39
                            replace H := Option.bind_eq_some_iff.mp H
                            obtain ⟨t164, A410, H⟩ := H
                            replace H : (tabularyref11_May.j3 kj20 (!t164) a0_0 a0_1 a0_2 a0_3 l0_4 a0_5) = some r := H
                            have A41 := Aside0.mk A410
                            clear A410
                            have H' := Aside0.mk H
                            clear H
                            have hcz42_0 : wc.cell? ⟨gb159, 0, none⟩ = some (.string a0_0) := (blk_cell BK159.out 0).trans rfl
                            have hcz42_1 : wc.cell? ⟨gb159, 1, none⟩ = some (.int .u8 a0_1) := (blk_cell BK159.out 1).trans rfl
                            have hcz42_2 : wc.cell? ⟨gb159, 2, none⟩ = some (.int .i64 a0_2) := (blk_cell BK159.out 2).trans rfl
                            have hcz42_3 : wc.cell? ⟨gb159, 3, none⟩ = some (.int .i64 a0_3) := (blk_cell BK159.out 3).trans rfl
                            have hcz42_4 : wc.cell? ⟨gb159, 4, none⟩ = some (.slice A0_4 l0_4.length c0_4) := (blk_cell BK159.out 4).trans rfl
                            have hcz42_5 : wc.cell? ⟨gb159, 5, none⟩ = some (.string a0_5) := (blk_cell BK159.out 5).trans rfl
                            have hfz42_0 := blk_frozen BK159.out 0
                            have hfz42_1 := blk_frozen BK159.out 1
                            have hfz42_2 := blk_frozen BK159.out 2
                            have hfz42_3 := blk_frozen BK159.out 3
                            have hfz42_4 := blk_frozen BK159.out 4
                            have hfz42_5 := blk_frozen BK159.out 5
                            go_wp2_with (first | (go_at_call 33; (with_reducible refine (tabularyref11_link.calls a0_1 t164 _ A41.out).mono ?_); rintro e w' ⟨rfl, ⟨nd, rfl⟩⟩))
                            go_meet
                            case rel => exact ⟨_, (!t164), (by first | rfl | (simp; done) | (simp [*]; done)), H', ⟨by have := HJ3.out; have := HJ11.out; have := HJ20.out; first | omega | exact Nat.le_refl _⟩, ⟨by (with_reducible repeat (first | refine blk_drewN ?_ _ | refine blk_drew ?_ | refine blk_alloc ?_ _)); exact BK159.out⟩, ⟨by repeat (first | (with_reducible first | exact HB.out | apply below_alloc | apply pw_below_drewN | apply below_drew1 | refine below_set ?_ GE159.out) | exact HB.out)⟩⟩
                      case rest =>
                        clear HC31
                        try clear c1
                        try clear c2
                        try clear p2
                        try clear c3
                        try clear c3b0
                        try clear c3b1
                        try clear c8
                        try clear c8b0
                        try clear c11
                        try clear c13
                        try clear c13b0
                        try clear c15
                        try clear c15b0
                        try clear c17
                        try clear c17b0
                        try clear c17b1
                        try clear c20
                        try clear c22
                        try clear c22b0
                        try clear c23
                        try clear c24
                        try clear c24b0
                        try clear c27
                        try clear c30
                        try clear c32
                        try clear c32b0
                        try clear c32b1
                        try clear c33
                        try clear c33b0
                        try clear c33b1
                        try clear c34
                        try clear c34b0
                        try clear c34b1
                        try clear c39
                        try clear c39b0
                        try clear c39b1
                        try clear hcz10_0
                        try clear hcz10_1
                        try clear hcz10_2
                        try clear hcz10_3
                        try clear hcz10_4
                        try clear hcz10_5
                        try clear hcz14_0
                        try clear hcz14_1
                        try clear hcz14_2
                        try clear hcz14_3
                        try clear hcz14_4
                        try clear hcz14_5
                        try clear hcz16_0
                        try clear hcz16_1
                        try clear hcz16_2
                        try clear hcz16_3
                        try clear hcz16_4
                        try clear hcz16_5
                        try clear hcz18_0
                        try clear hcz18_1
                        try clear hcz18_2
                        try clear hcz18_3
                        try clear hcz18_4
                        try clear hcz18_5
                        try clear hcz19_0
                        try clear hcz19_1
                        try clear hcz19_2
                        try clear hcz19_3
                        try clear hcz19_4
                        try clear hcz19_5
                        try clear hcz23_0
                        try clear hcz23_1
                        try clear hcz23_2
                        try clear hcz23_3
                        try clear hcz23_4
                        try clear hcz23_5
                        try clear hcz25_0
                        try clear hcz25_1
                        try clear hcz25_2
                        try clear hcz25_3
                        try clear hcz25_4
                        try clear hcz25_5
                        try clear hcz28_0
                        try clear hcz28_1
                        try clear hcz28_2
                        try clear hcz28_3
                        try clear hcz28_4
                        try clear hcz28_5
                        try clear hcz29_0
                        try clear hcz29_1
                        try clear hcz29_2
                        try clear hcz29_3
                        try clear hcz29_4
                        try clear hcz29_5
                        try clear hcz35_0
                        try clear hcz35_1
                        try clear hcz35_2
                        try clear hcz35_3
                        try clear hcz35_4
                        try clear hcz35_5
                        try clear hcz37_0
                        try clear hcz37_1
                        try clear hcz37_2
                        try clear hcz37_3
                        try clear hcz37_4
                        try clear hcz37_5
                        try clear hcz38_0
                        try clear hcz38_1
                        try clear hcz38_2
                        try clear hcz38_3
                        try clear hcz38_4
                        try clear hcz38_5
                        try clear hcz40_0
                        try clear hcz40_1
                        try clear hcz40_2
                        try clear hcz40_3
                        try clear hcz40_4
                        try clear hcz40_5
                        try clear hcz42_0
                        try clear hcz42_1
                        try clear hcz42_2
                        try clear hcz42_3
                        try clear hcz42_4
                        try clear hcz42_5
                        try clear hcz6_0
                        try clear hcz6_1
                        try clear hcz6_2
                        try clear hcz6_3
                        try clear hcz6_4
                        try clear hcz6_5
                        try clear hcz9_0
                        try clear hcz9_1
                        try clear hcz9_2
                        try clear hcz9_3
                        try clear hcz9_4
                        try clear hcz9_5
                        try clear hfz10_0
                        try clear hfz10_1
                        try clear hfz10_2
                        try clear hfz10_3
                        try clear hfz10_4
                        try clear hfz10_5
                        try clear hfz14_0
                        try clear hfz14_1
                        try clear hfz14_2
                        try clear hfz14_3
                        try clear hfz14_4
                        try clear hfz14_5
                        try clear hfz16_0
                        try clear hfz16_1
                        try clear hfz16_2
                        try clear hfz16_3
                        try clear hfz16_4
                        try clear hfz16_5
                        try clear hfz18_0
                        try clear hfz18_1
                        try clear hfz18_2
                        try clear hfz18_3
                        try clear hfz18_4
                        try clear hfz18_5
                        try clear hfz19_0
                        try clear hfz19_1
                        try clear hfz19_2
                        try clear hfz19_3
                        try clear hfz19_4
                        try clear hfz19_5
                        try clear hfz23_0
                        try clear hfz23_1
                        try clear hfz23_2
                        try clear hfz23_3
                        try clear hfz23_4
                        try clear hfz23_5
                        try clear hfz25_0
                        try clear hfz25_1
                        try clear hfz25_2
                        try clear hfz25_3
                        try clear hfz25_4
                        try clear hfz25_5
                        try clear hfz28_0
                        try clear hfz28_1
                        try clear hfz28_2
                        try clear hfz28_3
                        try clear hfz28_4
                        try clear hfz28_5
                        try clear hfz29_0
                        try clear hfz29_1
                        try clear hfz29_2
                        try clear hfz29_3
                        try clear hfz29_4
                        try clear hfz29_5
                        try clear hfz35_0
                        try clear hfz35_1
                        try clear hfz35_2
                        try clear hfz35_3
                        try clear hfz35_4
                        try clear hfz35_5
                        try clear hfz37_0
                        try clear hfz37_1
                        try clear hfz37_2
                        try clear hfz37_3
                        try clear hfz37_4
                        try clear hfz37_5
                        try clear hfz38_0
                        try clear hfz38_1
                        try clear hfz38_2
                        try clear hfz38_3
                        try clear hfz38_4
                        try clear hfz38_5
                        try clear hfz40_0
                        try clear hfz40_1
                        try clear hfz40_2
                        try clear hfz40_3
                        try clear hfz40_4
                        try clear hfz40_5
                        try clear hfz42_0
                        try clear hfz42_1
                        try clear hfz42_2
                        try clear hfz42_3
                        try clear hfz42_4
                        try clear hfz42_5
                        try clear hfz6_0
                        try clear hfz6_1
                        try clear hfz6_2
                        try clear hfz6_3
                        try clear hfz6_4
                        try clear hfz6_5
                        try clear hfz9_0
                        try clear hfz9_1
                        try clear hfz9_2
                        try clear hfz9_3
                        try clear hfz9_4
                        try clear hfz9_5
                        try clear p2
                        obtain ⟨kq, x77_30, rfl, HA, HJ30, BK159, HB⟩ := hcut
                        cases kq with
                        | zero => exact absurd HA.out (by simp [tabularyref11_May.j3])
                        | succ kj30 =>
                          have H := HA.out
                          clear HA
                          simp only [tabularyref11_May.j3] at H
                          by_cases c43 : x77_30 = true
                          · subst c43
                            have H1 : (some 110) = some r := by rw [if_pos rfl] at H; exact H
                            clear H
                            have H := H1
                            clear H1
                            obtain rfl := Option.some.inj H
                            go_wp2
                            go_ret
                            exact ⟨by first | rfl | (simp [errW_none, errW_some] <;> rfl) | (simp [*, errW_none, errW_some] <;> rfl), by repeat (first | (with_reducible first | exact HB.out | apply below_alloc | apply pw_below_drewN | apply below_drew1 | refine below_set ?_ GE159.out) | exact HB.out)⟩
                          · replace c43 := Bool.eq_false_iff.mpr c43
                            subst c43
                            have H1 : (if (l0_4.length : Int) > 65536 then (some 2) else (if a0_1 = 3 then ((tabularyref08_Check.f kj30 a0_5).bind fun bt165 => (some bt165.2)) else (if a0_1 = 4 then ((tabularyref08_Lead.f kj30 a0_0 a0_5).bind fun bt167 => (some bt167.2)) else (some 0)))) = some r := by rw [if_neg (show ¬ (false = true) by decide)] at H; exact H
                            clear H
                            have H := H1
                            clear H1
                            by_cases c44 : (l0_4.length : Int) > 65536
                            · rw [if_pos c44] at H
                              have c44b0 : decide (65536 < (l0_4.length : Int)) = true := decide_eq_true c44
                              have c44b1 : decide (65536 < l0_4.length) = true := decide_eq_true (by omega)
                              clear c44
                              obtain rfl := Option.some.inj H
                              have hcz45_0 : wc.cell? ⟨gb159, 0, none⟩ = some (.string a0_0) := (blk_cell BK159.out 0).trans rfl
                              have hcz45_1 : wc.cell? ⟨gb159, 1, none⟩ = some (.int .u8 a0_1) := (blk_cell BK159.out 1).trans rfl
                              have hcz45_2 : wc.cell? ⟨gb159, 2, none⟩ = some (.int .i64 a0_2) := (blk_cell BK159.out 2).trans rfl
                              have hcz45_3 : wc.cell? ⟨gb159, 3, none⟩ = some (.int .i64 a0_3) := (blk_cell BK159.out 3).trans rfl
                              have hcz45_4 : wc.cell? ⟨gb159, 4, none⟩ = some (.slice A0_4 l0_4.length c0_4) := (blk_cell BK159.out 4).trans rfl
                              have hcz45_5 : wc.cell? ⟨gb159, 5, none⟩ = some (.string a0_5) := (blk_cell BK159.out 5).trans rfl
                              have hfz45_0 := blk_frozen BK159.out 0
                              have hfz45_1 := blk_frozen BK159.out 1
                              have hfz45_2 := blk_frozen BK159.out 2
                              have hfz45_3 := blk_frozen BK159.out 3
                              have hfz45_4 := blk_frozen BK159.out 4
                              have hfz45_5 := blk_frozen BK159.out 5
                              go_wp2
                              go_ret
                              exact ⟨by first | rfl | (simp [errW_none, errW_some] <;> rfl) | (simp [*, errW_none, errW_some] <;> rfl), by repeat (first | (with_reducible first | exact HB.out | apply below_alloc | apply pw_below_drewN | apply below_drew1 | refine below_set ?_ GE159.out) | exact HB.out)⟩
                            · rw [if_neg c44] at H
                              have c44b0 : decide (65536 < (l0_4.length : Int)) = false := decide_eq_false c44
                              have c44b1 : decide (65536 < l0_4.length) = false := decide_eq_false (by omega)
                              clear c44
                              by_cases c46 : a0_1 = 3
                              · rw [if_pos c46] at H
                                have c46b0 : (a0_1 == 3) = true := beq_iff_eq.mpr c46
                                have c46b1 : (a0_1 != 3) = false := bne_eq_false_iff_eq.mpr c46
                                clear c46
                                replace H := Option.bind_eq_some_iff.mp H
                                obtain ⟨⟨t165, t166⟩, A470, H⟩ := H
                                replace H : (some t166) = some r := H
                                have A47 := Aside0.mk A470
                                clear A470
                                obtain rfl := Option.some.inj H
                                have hcz48_0 : wc.cell? ⟨gb159, 0, none⟩ = some (.string a0_0) := (blk_cell BK159.out 0).trans rfl
                                have hcz48_1 : wc.cell? ⟨gb159, 1, none⟩ = some (.int .u8 a0_1) := (blk_cell BK159.out 1).trans rfl
                                have hcz48_2 : wc.cell? ⟨gb159, 2, none⟩ = some (.int .i64 a0_2) := (blk_cell BK159.out 2).trans rfl
                                have hcz48_3 : wc.cell? ⟨gb159, 3, none⟩ = some (.int .i64 a0_3) := (blk_cell BK159.out 3).trans rfl
                                have hcz48_4 : wc.cell? ⟨gb159, 4, none⟩ = some (.slice A0_4 l0_4.length c0_4) := (blk_cell BK159.out 4).trans rfl
                                have hcz48_5 : wc.cell? ⟨gb159, 5, none⟩ = some (.string a0_5) := (blk_cell BK159.out 5).trans rfl
                                have hfz48_0 := blk_frozen BK159.out 0
                                have hfz48_1 := blk_frozen BK159.out 1
                                have hfz48_2 := blk_frozen BK159.out 2
                                have hfz48_3 := blk_frozen BK159.out 3
                                have hfz48_4 := blk_frozen BK159.out 4
                                have hfz48_5 := blk_frozen BK159.out 5
                                go_wp2_with (first | ((with_reducible refine gate_callee (f := 32) rfl ?_); refine goesL_ (some 88) rfl rfl Tryd.func32 (by kernel_rfl) rfl #[.string a0_5] rfl (by (try simp only [List.map_toArray, List.map_cons, List.map_nil]); first | done | rfl | (simp only [List.length_drop, List.length_take]; rfl)) ?_; (with_reducible refine (tabularyref08_Check.calls kj30 a0_5 t165 t166 _ A47.out).mono ?_); rintro e w49 ⟨rfl, hb⟩; refine ⟨_, rfl, ?_⟩; have n0_ := Aside0.mk (blk_below (g := gb159) (o := .cells #[.string a0_0, .int .u8 a0_1, .int .i64 a0_2, .int .i64 a0_3, .slice A0_4 l0_4.length c0_4, .string a0_5] 25 (0, 0)) (by (with_reducible repeat (first | refine blk_drewN ?_ _ | refine blk_drew ?_ | refine blk_alloc ?_ _)); exact BK159.out) hb); have n1_ := Aside0.mk (below_step (by repeat (first | (with_reducible first | exact HB.out | apply below_alloc | apply pw_below_drewN | apply below_drew1 | refine below_set ?_ GE159.out) | exact HB.out)) hb); clear BK159; clear HB; have BK159 := n0_; have HB := n1_; clear n0_ n1_; (try clear hb); (try clear hb2); (try clear hk); (try clear hi)))
                                go_ret
                                exact ⟨by first | rfl | (simp [errW_none, errW_some] <;> rfl) | (simp [*, errW_none, errW_some] <;> rfl), by repeat (first | (with_reducible first | exact HB.out | apply below_alloc | apply pw_below_drewN | apply below_drew1 | refine below_set ?_ GE159.out) | exact HB.out)⟩
                              · rw [if_neg c46] at H
                                have c46b0 : (a0_1 == 3) = false := beq_eq_false_iff_ne.mpr c46
                                have c46b1 : (a0_1 != 3) = true := bne_iff_ne.mpr c46
                                by_cases c50 : a0_1 = 4
                                · rw [if_pos c50] at H
                                  have c50b0 : (a0_1 == 4) = true := beq_iff_eq.mpr c50
                                  have c50b1 : (a0_1 != 4) = false := bne_eq_false_iff_eq.mpr c50
                                  clear c50
                                  replace H := Option.bind_eq_some_iff.mp H
                                  obtain ⟨⟨t167, t168⟩, A510, H⟩ := H
                                  replace H : (some t168) = some r := H
                                  have A51 := Aside0.mk A510
                                  clear A510
                                  obtain rfl := Option.some.inj H
                                  have hcz52_0 : wc.cell? ⟨gb159, 0, none⟩ = some (.string a0_0) := (blk_cell BK159.out 0).trans rfl
                                  have hcz52_1 : wc.cell? ⟨gb159, 1, none⟩ = some (.int .u8 a0_1) := (blk_cell BK159.out 1).trans rfl
                                  have hcz52_2 : wc.cell? ⟨gb159, 2, none⟩ = some (.int .i64 a0_2) := (blk_cell BK159.out 2).trans rfl
                                  have hcz52_3 : wc.cell? ⟨gb159, 3, none⟩ = some (.int .i64 a0_3) := (blk_cell BK159.out 3).trans rfl
                                  have hcz52_4 : wc.cell? ⟨gb159, 4, none⟩ = some (.slice A0_4 l0_4.length c0_4) := (blk_cell BK159.out 4).trans rfl
                                  have hcz52_5 : wc.cell? ⟨gb159, 5, none⟩ = some (.string a0_5) := (blk_cell BK159.out 5).trans rfl
                                  have hfz52_0 := blk_frozen BK159.out 0
                                  have hfz52_1 := blk_frozen BK159.out 1
                                  have hfz52_2 := blk_frozen BK159.out 2
                                  have hfz52_3 := blk_frozen BK159.out 3
                                  have hfz52_4 := blk_frozen BK159.out 4
                                  have hfz52_5 := blk_frozen BK159.out 5
                                  go_wp2_with (first | ((with_reducible refine gate_callee (f := 34) rfl ?_); refine goesL_ (some 100) rfl rfl Tryd.func34 (by kernel_rfl) rfl #[.string a0_0, .string a0_5] rfl (by (try simp only [List.map_toArray, List.map_cons, List.map_nil]); first | done | rfl | (simp only [List.length_drop, List.length_take]; rfl)) ?_; (with_reducible refine (tabularyref08_Lead.calls kj30 a0_0 a0_5 t167 t168 _ A51.out).mono ?_); rintro e w53 ⟨rfl, hb⟩; refine ⟨_, rfl, ?_⟩; have n0_ := Aside0.mk (blk_below (g := gb159) (o := .cells #[.string a0_0, .int .u8 a0_1, .int .i64 a0_2, .int .i64 a0_3, .slice A0_4 l0_4.length c0_4, .string a0_5] 25 (0, 0)) (by (with_reducible repeat (first | refine blk_drewN ?_ _ | refine blk_drew ?_ | refine blk_alloc ?_ _)); exact BK159.out) hb); have n1_ := Aside0.mk (below_step (by repeat (first | (with_reducible first | exact HB.out | apply below_alloc | apply pw_below_drewN | apply below_drew1 | refine below_set ?_ GE159.out) | exact HB.out)) hb); clear BK159; clear HB; have BK159 := n0_; have HB := n1_; clear n0_ n1_; (try clear hb); (try clear hb2); (try clear hk); (try clear hi)))
                                  go_ret
                                  exact ⟨by first | rfl | (simp [errW_none, errW_some] <;> rfl) | (simp [*, errW_none, errW_some] <;> rfl), by repeat (first | (with_reducible first | exact HB.out | apply below_alloc | apply pw_below_drewN | apply below_drew1 | refine below_set ?_ GE159.out) | exact HB.out)⟩
                                · rw [if_neg c50] at H
                                  have c50b0 : (a0_1 == 4) = false := beq_eq_false_iff_ne.mpr c50
                                  have c50b1 : (a0_1 != 4) = true := bne_iff_ne.mpr c50
                                  obtain rfl := Option.some.inj H
                                  have hcz54_0 : wc.cell? ⟨gb159, 0, none⟩ = some (.string a0_0) := (blk_cell BK159.out 0).trans rfl
                                  have hcz54_1 : wc.cell? ⟨gb159, 1, none⟩ = some (.int .u8 a0_1) := (blk_cell BK159.out 1).trans rfl
                                  have hcz54_2 : wc.cell? ⟨gb159, 2, none⟩ = some (.int .i64 a0_2) := (blk_cell BK159.out 2).trans rfl
                                  have hcz54_3 : wc.cell? ⟨gb159, 3, none⟩ = some (.int .i64 a0_3) := (blk_cell BK159.out 3).trans rfl
                                  have hcz54_4 : wc.cell? ⟨gb159, 4, none⟩ = some (.slice A0_4 l0_4.length c0_4) := (blk_cell BK159.out 4).trans rfl
                                  have hcz54_5 : wc.cell? ⟨gb159, 5, none⟩ = some (.string a0_5) := (blk_cell BK159.out 5).trans rfl
                                  have hfz54_0 := blk_frozen BK159.out 0
                                  have hfz54_1 := blk_frozen BK159.out 1
                                  have hfz54_2 := blk_frozen BK159.out 2
                                  have hfz54_3 := blk_frozen BK159.out 3
                                  have hfz54_4 := blk_frozen BK159.out 4
                                  have hfz54_5 := blk_frozen BK159.out 5
                                  go_wp2
                                  go_ret
                                  exact ⟨by first | rfl | (simp [errW_none, errW_some] <;> rfl) | (simp [*, errW_none, errW_some] <;> rfl), by repeat (first | (with_reducible first | exact HB.out | apply below_alloc | apply pw_below_drewN | apply below_drew1 | refine below_set ?_ GE159.out) | exact HB.out)⟩
  · rw [if_neg c3] at H
    have c3b0 : (t161 == 0) = false := beq_eq_false_iff_ne.mpr c3
    have c3b1 : (t161 != 0) = true := bne_iff_ne.mpr c3
    obtain rfl := Option.some.inj H
    go_enter Tryd.func23, Tryd.ntmps23
    go_wp2_with (first | ((with_reducible refine gate_dst (N := 1) rfl ?_); refine box_event ?hg (N := 1) ?hd (cs := #[.string a0_0, .int .u8 a0_1, .int .i64 a0_2, .int .i64 a0_3, .slice A0_4 l0_4.length c0_4, .string a0_5]) (t := 25) ?hr ?_; (case hd => rfl); (case hg => rfl); (case hr => first | (go_simp; done) | (go_simp; rfl)); intro gb159 hg w55 hbox hb; have n0_ := Aside0.mk (below_step (by repeat (first | (with_reducible first | exact HB.out | apply below_alloc | apply pw_below_drewN | apply below_drew1) | exact HB.out)) hb); have n1_ := Aside0.mk (hbox); have n2_ := Aside0.mk ((by rw [hg]; exact (below_size (by repeat (first | (with_reducible first | exact HB.out | apply below_alloc | apply pw_below_drewN | apply below_drew1) | exact HB.out))) : w.heap.size ≤ gb159)); have n3_ := Aside0.mk ((by rw [hg]; exact (below_size (by repeat (first | (with_reducible first | exact HB.out | apply below_alloc | apply pw_below_drewN | apply below_drew1) | exact HB.out))) : w.heap.size ≤ gb159)); clear HB; have HB := n0_; have BK159 := n1_; have GW159 := n2_; have GE159 := n3_; clear n0_ n1_ n2_ n3_; clear hb hbox hg; have hcz56_0 : w55.cell? ⟨gb159, 0, none⟩ = some (.string a0_0) := (blk_cell BK159.out 0).trans rfl; have hcz56_1 : w55.cell? ⟨gb159, 1, none⟩ = some (.int .u8 a0_1) := (blk_cell BK159.out 1).trans rfl; have hcz56_2 : w55.cell? ⟨gb159, 2, none⟩ = some (.int .i64 a0_2) := (blk_cell BK159.out 2).trans rfl; have hcz56_3 : w55.cell? ⟨gb159, 3, none⟩ = some (.int .i64 a0_3) := (blk_cell BK159.out 3).trans rfl; have hcz56_4 : w55.cell? ⟨gb159, 4, none⟩ = some (.slice A0_4 l0_4.length c0_4) := (blk_cell BK159.out 4).trans rfl; have hcz56_5 : w55.cell? ⟨gb159, 5, none⟩ = some (.string a0_5) := (blk_cell BK159.out 5).trans rfl; have hfz56_0 := blk_frozen BK159.out 0; have hfz56_1 := blk_frozen BK159.out 1; have hfz56_2 := blk_frozen BK159.out 2; have hfz56_3 := blk_frozen BK159.out 3; have hfz56_4 := blk_frozen BK159.out 4; have hfz56_5 := blk_frozen BK159.out 5) | ((with_reducible refine gate_callee (f := 32) rfl ?_); refine goesL_ (some 8) rfl rfl Tryd.func32 (by kernel_rfl) rfl #[.string a0_0] rfl (by (try simp only [List.map_toArray, List.map_cons, List.map_nil]); first | done | rfl | (simp only [List.length_drop, List.length_take]; rfl)) ?_; (with_reducible refine (tabularyref08_Check.calls k a0_0 t160 t161 _ A2.out).mono ?_); rintro e w57 ⟨rfl, hb⟩; refine ⟨_, rfl, ?_⟩; have n0_ := Aside0.mk (blk_below (g := gb159) (o := .cells #[.string a0_0, .int .u8 a0_1, .int .i64 a0_2, .int .i64 a0_3, .slice A0_4 l0_4.length c0_4, .string a0_5] 25 (0, 0)) (by (with_reducible repeat (first | refine blk_drewN ?_ _ | refine blk_drew ?_ | refine blk_alloc ?_ _)); exact BK159.out) hb); have n1_ := Aside0.mk (below_step (by repeat (first | (with_reducible first | exact HB.out | apply below_alloc | apply pw_below_drewN | apply below_drew1 | refine below_set ?_ GE159.out) | exact HB.out)) hb); clear BK159; clear HB; have BK159 := n0_; have HB := n1_; clear n0_ n1_; (try clear hb); (try clear hb2); (try clear hk); (try clear hi)))
    go_ret
    exact ⟨by first | rfl | (simp [errW_none, errW_some] <;> rfl) | (simp [*, errW_none, errW_some] <;> rfl), by repeat (first | (with_reducible first | exact HB.out | apply below_alloc | apply pw_below_drewN | apply below_drew1 | refine below_set ?_ GE159.out) | exact HB.out)⟩

end Go.Proofs.YtlinghjgnomflaaDoor.Q
