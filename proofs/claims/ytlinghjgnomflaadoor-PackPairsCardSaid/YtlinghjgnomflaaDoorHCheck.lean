/- name.Check: what its call does. -/
import Derived.Test.YtlinghjgnomflaaDoorHName
namespace Go.Proofs.YtlinghjgnomflaaDoor.H
open Go.RowKit Go.Shelf
attribute [local go_sem] Oper.semAt_some

theorem cell_of_box {W : World} {B : Nat} {v : Value} {t : TypeId} (h : W.heap[B]? = some (.cells #[v] t (0, 0))) : W.cell? ⟨B, 0, none⟩ = some v ∧ W.frozen? ⟨B, 0, none⟩ = false := by
  constructor <;> simp [World.cell?, World.frozen?, h]
theorem cell_new_l (W : World) (v : Value) (t : TypeId) : (W.alloc (.cells #[v] t)).cell? ⟨W.heap.size, 0, none⟩ = some v ∧ (W.alloc (.cells #[v] t)).frozen? ⟨W.heap.size, 0, none⟩ = false :=
  cell_of_box (World.alloc_heap_new W _)
theorem cell_alloc_l {W : World} {a : Addr} {v : Value} (o : Obj) (h : W.cell? a = some v) : (W.alloc o).cell? a = some v := cell_kept h (World.grownBy_alloc W o none) (fun r e => by cases e)
theorem frozen_alloc_l {W : World} {a : Addr} {v : Value} (o : Obj) (h : W.cell? a = some v) (hf : W.frozen? a = false) : (W.alloc o).frozen? a = false := (frozen_kept h (World.grownBy_alloc W o none) (fun r e => by cases e)).trans hf

theorem toList_nil (t : ByteArray) : t.toList.isEmpty = true ↔ t.size = 0 := by
  rw [Lib.toList_data, Lib.size_eq, List.isEmpty_iff, List.length_eq_zero_iff]
theorem pe1 {t : ByteArray} (h : t.toList.isEmpty = true) : partErr t = (0, 80) := by rw [partErr, if_pos ((toList_nil t).1 h)]
theorem ne0 {t : ByteArray} (h : t.toList.isEmpty = false) : t.size ≠ 0 := fun e => by rw [(toList_nil t).2 e] at h; cases h
theorem pe2 {t : ByteArray} (h : t.toList.isEmpty = false) (h2 : 120 < (t.size : Int)) : partErr t = (0, 2) := by rw [partErr, if_neg (ne0 h), if_pos (by omega)]
theorem pe3 {t : ByteArray} (h : t.toList.isEmpty = false) (h2 : (t.size : Int) ≤ 120) (h3 : t.toList = [46] ∨ t.toList = [46, 46]) : partErr t = (0, 81) := by rw [partErr, if_neg (ne0 h), if_neg (by omega), if_pos h3]
theorem pe5 {t : ByteArray} (h : t.toList.isEmpty = false) (h2 : (t.size : Int) ≤ 120) (h3 : (t.toList == [46]) = false ∧ (t.toList == [46, 46]) = false) : partErr t = if 0 ≤ ixb t 0 then (ixb t 0, 82) else (0, 0) := by
  rw [partErr, if_neg (ne0 h), if_neg (by omega), if_neg (by rintro (e | e) <;> simp [e] at h3)]
theorem leave {w W : World} (a e : Int) {x0 x1 : Value} (hc0 : W.cell? ⟨w.heap.size, 0, none⟩ = some x0) (hc1 : W.cell? ⟨w.heap.size + 1, 0, none⟩ = some x1) (hB : Below w.heap.size w W) :
    KeepsOthers W ((W.setCell ⟨w.heap.size, 0, none⟩ (.int .i64 a)).setCell ⟨w.heap.size + 1, 0, none⟩ (.int .i64 e)) ∧
    ((W.setCell ⟨w.heap.size, 0, none⟩ (.int .i64 a)).setCell ⟨w.heap.size + 1, 0, none⟩ (.int .i64 e)).cell? ⟨w.heap.size, 0, none⟩ = some (.int .i64 a) ∧
    ((W.setCell ⟨w.heap.size, 0, none⟩ (.int .i64 a)).setCell ⟨w.heap.size + 1, 0, none⟩ (.int .i64 e)).cell? ⟨w.heap.size + 1, 0, none⟩ = some (.int .i64 e) ∧
    Below w.heap.size w ((W.setCell ⟨w.heap.size, 0, none⟩ (.int .i64 a)).setCell ⟨w.heap.size + 1, 0, none⟩ (.int .i64 e)) := by
  have h1 : (W.setCell ⟨w.heap.size, 0, none⟩ (.int .i64 a)).cell? ⟨w.heap.size + 1, 0, none⟩ = some x1 := (World.cell?_setCell_other _ _ _ _ (by simp)).trans hc1
  refine ⟨(KeepsOthers.setCell _ _ _).trans (KeepsOthers.setCell _ _ _), ?_, World.cell?_setCell_same' _ _ _ (by rw [h1]; rfl), (hB.setCell (p := ⟨w.heap.size, 0, none⟩) (Nat.le_refl _) _).setCell (p := ⟨w.heap.size + 1, 0, none⟩) (by simp) _⟩
  exact (World.cell?_setCell_other _ _ _ _ (by simp)).trans (World.cell?_setCell_same' _ _ _ (by rw [hc0]; rfl))

set_option maxRecDepth 100000 in
set_option maxHeartbeats 2000000 in
theorem check_in (s : ByteArray) (hs : s.size ≤ 400) (n : Nat) (hn : 4 ≤ n) (w : World) :
    CallsIn Fence.wide n Tryd.prog 29 #[.string s] w fun e w' => e = .returned (.tuple #[.int .i64 (check s).1, .int .i64 (check s).2]) ∧ Below w.heap.size w w' := by
  have h1 : 1 ≤ n := by omega
  refine callsIn_of_wp_marks Tryd.func29 rfl trivial ?_ rfl
  simp only [Tryd.ntmps29, List.size_toArray, List.length_cons, List.length_nil, Nat.reduceAdd, Nat.reduceSub, Array.replicate_succ, Array.replicate_zero, List.push_toArray, List.append_toArray, List.nil_append, List.cons_append]
  gi_wp2_with (refine ⟨trivial, ?_⟩; gi_at_call 42; refine (each_in _ _ _).mono ?_; rintro e w' ⟨rfl, rfl⟩)
  have c0 := cell_new_l w (.int .i64 0) 3
  have c1 := cell_new_l (w.alloc (.cells #[.int .i64 0] 3)) (.int .i64 0) 27
  have c2 := Boxed.new ((w.alloc (.cells #[.int .i64 0] 3)).alloc (.cells #[.int .i64 0] 27)) 9 (.string s)
  simp only [World.size_alloc] at c1 c2
  have hB0 : Below w.heap.size w (((w.alloc (.cells #[.int .i64 0] 3)).alloc (.cells #[.int .i64 0] 27)).alloc (.cells #[.string s] 9)) := (((Below.refl _ w).alloc (Nat.le_refl _) _).alloc (by simp) _).alloc (by simp; omega) _
  refine wpIn_rangeFunc_ownF rfl h1 (gf := 57) (lb := #[.pointer (some ⟨w.heap.size + 1 + 1, 0, none⟩)]) rfl trivial (enters_of Tryd.func57 (by kernel_rfl) rfl)
    (each_stops s hs (n - 1) (w.heap.size + 1 + 1) (by omega) _ c2) kb_t kb_b (Below.refl _ _) (fun _ => rfl)
    (fun pre W => ((∀ y ∈ pre, (partErr y.1.2).2 = 0) ∧ W.cell? ⟨w.heap.size, 0, none⟩ = some (.int .i64 0) ∧ W.frozen? ⟨w.heap.size, 0, none⟩ = false ∧ W.cell? ⟨w.heap.size + 1, 0, none⟩ = some (.int .i64 0) ∧ W.frozen? ⟨w.heap.size + 1, 0, none⟩ = false) ∧ Below w.heap.size w W)
    (fun c pre W => ((c = .ret ∧ ∃ p0 x, pre = p0 ++ [x] ∧ (∀ y ∈ p0, (partErr y.1.2).2 = 0) ∧ (partErr x.1.2).2 ≠ 0 ∧ W.cell? ⟨w.heap.size, 0, none⟩ = some (.int .i64 ((x.1.1 : Int) + (partErr x.1.2).1)) ∧ W.cell? ⟨w.heap.size + 1, 0, none⟩ = some (.int .i64 (partErr x.1.2).2))) ∧ Below w.heap.size w W)
    (OwnFrom.and (Own.from (fun s A B row hs hg hr => ⟨hs.1, cell_kept hs.2.1 hg hr, (frozen_kept hs.2.1 hg hr).trans hs.2.2.1, cell_kept hs.2.2.2.1 hg hr, (frozen_kept hs.2.2.2.1 hg hr).trans hs.2.2.2.2⟩) _) (ownFrom_below (Nat.le_refl _) (by simp; omega)))
    (fun c => OwnFrom.and (Own.from (fun s A B row hs hg hr => by obtain ⟨e, p0, x, e2, h3, h4, h5, h6⟩ := hs; exact ⟨e, p0, x, e2, h3, h4, cell_kept h5 hg hr, cell_kept h6 hg hr⟩) _) (ownFrom_below (Nat.le_refl _) (by simp; omega)))
    ⟨⟨by simp, cell_alloc_l _ (cell_alloc_l _ c0.1), frozen_alloc_l _ (cell_alloc_l _ c0.1) (frozen_alloc_l _ c0.1 c0.2), cell_alloc_l _ c1.1, frozen_alloc_l _ c1.1 c1.2⟩, hB0⟩
    (fun x => { tmps := #[.string s, undef, .pointer (some ⟨w.heap.size, 0, none⟩), .pointer (some ⟨w.heap.size + 1, 0, none⟩), .int .i64 (x.1.1 : Int), .string x.1.2, undef, .string s, .int .i64 s.size, .bool (decide (400 < (s.size : Int))), .string s, .func (.func 57) #[] #[.pointer (some ⟨w.heap.size + 1 + 1, 0, none⟩)], .int .i64 (x.1.1 : Int), .string x.1.2, undef, undef, undef, undef, undef, undef, undef, undef, undef, undef, undef, undef, undef, undef, undef, undef, undef, undef, undef, undef, undef, undef, undef, undef], defers := [] }) ?assign ?body ?done ?stop
  case assign =>
    intro l x W K hK
    dsimp only [encPc]
    gi_wp2
    exact hK
  case body =>
    rintro l pre ⟨⟨i, t⟩, hx⟩ W ⟨⟨hp, hc0, hf0, hc1, hf1⟩, hB⟩ _
    simp only at hx
    have hd : 1 ≤ n - 1 - 1 := by omega
    have hix1 := Lib.indexByte_ge t.data.toList 0
    have hix2 : ixb t 0 < 400 := by
      rcases Int.lt_or_le (ixb t 0) 0 with h | h
      · omega
      · have := indexByte_lt _ _ h; rw [← Lib.size_eq] at this; unfold ixb; omega
    change -1 ≤ ixb t 0 at hix1
    gi_wp2_with (refine ⟨trivial, ?_⟩; gi_at_call 43; refine (CallsIn.inRound l (inw (indexByte_is _ 0 0 rfl _))).mono ?_; rintro e w' ⟨rfl, rfl⟩)
    · have L := leave (i : Int) 80 hc0 hc1 hB
      exact ⟨L.1, ⟨rfl, pre, ⟨(i, t), hx⟩, rfl, hp, by simp [pe1 ‹_›], by simpa [pe1 ‹_›] using L.2.1, by simpa [pe1 ‹_›] using L.2.2.1⟩, L.2.2.2⟩
    · have L := leave (i : Int) 2 hc0 hc1 hB
      have e := pe2 ‹_› ‹_›
      exact ⟨L.1, ⟨rfl, pre, ⟨(i, t), hx⟩, rfl, hp, by simp [e], by simpa [e] using L.2.1, by simpa [e] using L.2.2.1⟩, L.2.2.2⟩
    · have L := leave (i : Int) 81 hc0 hc1 hB
      have e := pe3 ‹_› ‹_› (.inl ‹_›)
      exact ⟨L.1, ⟨rfl, pre, ⟨(i, t), hx⟩, rfl, hp, by simp [e], by simpa [e] using L.2.1, by simpa [e] using L.2.2.1⟩, L.2.2.2⟩
    · have L := leave (i : Int) 81 hc0 hc1 hB
      have e := pe3 ‹_› ‹_› (by have h : (t.toList == [46]) = true ∨ (t.toList == [46, 46]) = true := ‹_›; exact h.imp eq_of_beq eq_of_beq)
      exact ⟨L.1, ⟨rfl, pre, ⟨(i, t), hx⟩, rfl, hp, by simp [e], by simpa [e] using L.2.1, by simpa [e] using L.2.2.1⟩, L.2.2.2⟩
    · have L := leave ((i : Int) + ixb t 0) 82 hc0 hc1 hB
      have e := pe5 ‹_› ‹_› ‹_›
      rw [if_pos ‹_›] at e
      exact ⟨L.1, ⟨rfl, pre, ⟨(i, t), hx⟩, rfl, hp, by simp [e], by simpa [e] using L.2.1, by simpa [e] using L.2.2.1⟩, L.2.2.2⟩
    · have e := pe5 ‹_› ‹_› ‹_›
      have hlt : ixb t 0 < 0 := by assumption
      rw [if_neg (by omega)] at e
      exact ⟨KeepsOthers.refl _, fun b => b, ⟨fun y hy => (List.mem_append.1 hy).elim (hp y) (fun h => by simp at h; subst h; simp [e]), hc0, hf0, hc1, hf1⟩, hB⟩
  case done =>
    rintro D ys W hD hS ⟨⟨hp, hc0, hf0, hc1, hf1⟩, hB⟩ hK
    have L := leave 0 0 hc0 hc1 hB
    gi_wp2
    have hK' := L.1.same D _ hK rfl
    have hcs : check s = (0, 0) := by
      rw [check, if_neg (by omega), ← hS]
      exact ckList_ok _ (fun x hx => by obtain ⟨y, hy, rfl⟩ := List.mem_map.1 hx; exact hp y hy)
    refine ⟨by simp, .inl ⟨_, _, rfl, run_takeDeferred hK', ?_⟩⟩
    have hc5 := cell_kept L.2.1 (grownBy_putObj' _ D (.deferred none)) (fun r e => by cases e; exact ⟨_, hK', rfl⟩)
    have hc6 := cell_kept L.2.2.1 (grownBy_putObj' _ D (.deferred none)) (fun r e => by cases e; exact ⟨_, hK', rfl⟩)
    refine ⟨.tuple #[.int .i64 0, .int .i64 0], ?_, by rw [hcs], L.2.2.2.trans (belowK_b (w := w) (Nat.le_refl _) _ D _ _ (by simp at hD; omega) hK' rfl rfl)⟩
    simp [results, Tryd.f29, go_sem, hc5, hc6]
  case stop =>
    rintro D c pre W hD hpre ⟨⟨rfl, p0, x, rfl, hp0, hx, hc0, hc1⟩, hB⟩ hK
    have hcs : check s = ((x.1.1 : Int) + (partErr x.1.2).1, (partErr x.1.2).2) := by
      obtain ⟨r, hr⟩ := hpre
      rw [check, if_neg (by omega), ← hr, List.map_append]
      exact ckList_hit _ _ _ (fun y hy => by obtain ⟨z, hz, rfl⟩ := List.mem_map.1 hy; exact hp0 z hz) hx
    clear hx hpre hp0
    obtain ⟨a, ha⟩ : ∃ a, (x.1.1 : Int) + (partErr x.1.2).1 = a := ⟨_, rfl⟩
    obtain ⟨b, hb⟩ : ∃ b, (partErr x.1.2).2 = b := ⟨_, rfl⟩
    rw [ha] at hc0
    rw [hb] at hc1
    rw [ha, hb] at hcs
    have HC := Lib.hid hcs
    clear hcs ha hb
    gi_wp2
    refine ⟨by simp, .inl ⟨_, _, rfl, run_takeDeferred hK, ?_⟩⟩
    have hc5 := cell_kept hc0 (grownBy_putObj' _ D (.deferred none)) (fun r e => by cases e; exact ⟨_, hK, rfl⟩)
    have hc6 := cell_kept hc1 (grownBy_putObj' _ D (.deferred none)) (fun r e => by cases e; exact ⟨_, hK, rfl⟩)
    refine ⟨.tuple #[.int .i64 a, .int .i64 b], ?_, by rw [HC.out], hB.trans (belowK_b (w := w) (Nat.le_refl _) W D _ _ (by simp at hD; omega) hK rfl rfl)⟩
    simp [results, Tryd.f29, go_sem, hc5, hc6]

set_option maxRecDepth 100000 in
theorem check_long (s : ByteArray) (hs : 400 < s.size) (n : Nat) (w : World) :
    CallsIn Fence.wide n Tryd.prog 29 #[.string s] w fun e w' => e = .returned (.tuple #[.int .i64 0, .int .i64 2]) ∧ Below w.heap.size w w' := by
  have hs' : (400 : Int) < (s.size : Int) := by omega
  refine callsIn_of_wp Tryd.func29 rfl trivial ?_ rfl
  simp only [Tryd.ntmps29, List.size_toArray, List.length_cons, List.length_nil, Nat.reduceAdd, Nat.reduceSub, Array.replicate_succ, Array.replicate_zero, List.push_toArray, List.append_toArray, List.nil_append, List.cons_append]
  gi_wp2
  refine bodyPost_ret (v := .tuple #[.int .i64 0, .int .i64 2]) (by simp [results, Tryd.f29, go_sem]) rfl ⟨rfl, ((Below.refl _ w).alloc (Nat.le_refl _) _).alloc (by simp) _⟩

/-- name.Check, whatever the text. -/
theorem check_calls (s : ByteArray) (w : World) :
    Calls Tryd.prog 29 #[.string s] w fun e w' => e = .returned (.tuple #[.int .i64 (check s).1, .int .i64 (check s).2]) ∧ Below w.heap.size w w' := by
  by_cases h : s.size ≤ 400
  · exact callsIn_wide.1 (check_in s h 4 (Nat.le_refl _) w)
  · have e : check s = (0, 2) := by rw [check, if_pos (by omega)]
    rw [e]
    exact callsIn_wide.1 (check_long s (by omega) 4 w)
end Go.Proofs.YtlinghjgnomflaaDoor.H
