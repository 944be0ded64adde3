/- pax.one: what its call does, its panics too. -/
import Derived.Test.YtkkffccdkbijkaaDoorHPaxP
import Derived.WalkLawsBesides
import Derived.WalkSmall
import Derived.WalkKit
import Derived.RangeFuncBox
import Derived.Deep.Light
import Derived.Deep.LoopGhost
import Derived.Shelf.Bytes.SlCut
import Derived.Lib.AtoiErrMem
namespace Go.Proofs.YtkkffccdkbijkaaDoor.H
open Go.RowKit Go.Lib Go.Proofs.YtkkffccdkbijkaaDoorW.PrintWords
set_option linter.unusedVariables false
set_option linter.unusedSimpArgs false

/-- What is thrown: a place and a code. -/
def thrown (a c : Int) : Value := .iface 65 (.agg #[.int .i64 a, .int .i64 c])
theorem fails_calls (b : Nat) (p code : Int) (w : World) (hc : w.cell? ⟨b, 0, none⟩ = some (.int .i64 p)) :
    Calls Tryd.prog 42 #[.int .i64 code, .pointer (some ⟨b, 0, none⟩)] w fun e w' => e = .panicked [{ v := thrown p code, recovered := false }] ∧ w' = w := by
  go_enter Tryd.func42, Tryd.ntmps42
  go_wp2
  exact ⟨rfl, rfl, rfl⟩

def isD (x : Int) : Prop := 48 ≤ x ∧ x ≤ 57
/-- So many digits stand at the front, five of them at most. -/
def IsDig (l : List Int) (d : Nat) : Prop := d ≤ 5 ∧ d ≤ l.length ∧ (∀ j, j < d → isD (l[j]?.getD 0)) ∧ (d = l.length ∨ d = 5 ∨ ¬ isD (l[d]?.getD 0))
theorem cell_alloc_l {W : World} {a : Addr} {v : Value} (o : Obj) (h : W.cell? a = some v) : (W.alloc o).cell? a = some v := by
  have := (Below.refl W.heap.size W).alloc (Nat.le_refl _) o
  exact (this.cell (World.block_lt_of_cell? W _ h)).trans h
/-- A part of a row of bytes, as a text. -/
theorem C_at (W : World) (a : Addr) (d : Nat) (l : List Int) (hd : d ≤ l.length) (hl : l.length ≤ 9223372036854775807) (h : ∀ j, j < l.length → W.cell? (a.add j) = some (.int .u8 (l[j]?.getD 0))) :
    Kd.C (Kd.int .u8) W (some a) d (l.take d) := by
  refine Kd.C_of_reads (d := (0 : Int)) (h1 := fun _ => rfl) ⟨by rw [List.length_take]; omega, by omega, fun _ => ⟨a, rfl, fun j hj => ?_⟩⟩
  rw [h j (by omega), List.getD_eq_getElem?_getD, List.getElem?_take, if_pos hj]
theorem conv_at (W : World) (a : Addr) (d c : Nat) (l : List Int) (hd : d ≤ l.length) (hl : l.length ≤ 9223372036854775807) (h : ∀ j, j < l.length → W.cell? (a.add j) = some (.int .u8 (l[j]?.getD 0))) :
    (convert 35 9 (.slice (some a) d c)).run Tryd.prog W = .ok (.string (strOfNums (l.take d))) W :=
  Kd.C_string Tryd.underlying35 Tryd.underlying5 Tryd.underlying9 (C_at W a d l hd hl h)
theorem cell_bw {W : World} {a : Addr} {v : Value} {t : ByteArray} (h : W.cell? a = some v) : (Lib.bytesWorld W 5 t).cell? a = some v :=
  (Lib.bytesWorld_old W _ t a (World.block_lt_of_cell? W _ h)).trans h
theorem below_bw {w W : World} (h : Below w.heap.size w W) (t : ByteArray) : Below w.heap.size w (Lib.bytesWorld W 5 t) := h.trans ((Lib.bytesWorld_below W _ t).mono h.size)
theorem ixb_room (c : UInt8) : ∀ (l : List UInt8), l ≠ [] ∨ True → Lib.indexByte l c < l.length ∨ Lib.indexByte l c = -1
  | [], _ => .inr rfl
  | b :: l, _ => by
    have ih := ixb_room c l (.inr trivial)
    rw [Lib.indexByte]
    simp only [List.length_cons]
    split
    · left; omega
    · split
      · exact .inr rfl
      · rename_i h
        have : Lib.indexByte l c ≠ -1 := by simpa using h
        omega
/-- Where the sign stands. -/
def ix61 (xs : List Int) : Int := Lib.indexByte (Lib.bytesOf xs) 61
theorem cut_calls (a : Addr) (n c b2 : Nat) (xs : List Int) (W : World) (hx : xs.length = n) (hn : n ≤ 4611686018427387904) (hcap : n ≤ c) (hc : ∀ j, j < n → W.cell? (a.add j) = some (.int .u8 (xs[j]?.getD 0))) (h61 : W.cell? ⟨b2, 0, none⟩ = some (.int .u8 61)) :
    Calls Tryd.prog 44 #[.slice (some a) n c, .slice (some ⟨b2, 0, none⟩) 1 1] W fun e w' => e = .returned (Lib.cutV (some a) n c 1 (ix61 xs)) ∧ ∃ q, w' = W.drewN q := by
  have hl : (Lib.bytesOf xs).length = n := by rw [Lib.bytesOf_length, hx]
  refine Tryd.bytes_Cut_of (some a) (some ⟨b2, 0, none⟩) n c 1 1 (ix61 xs) W hcap (Lib.indexByte_ge _ _) (fun h => ?_) hn ?_
  · have := ixb_room 61 (Lib.bytesOf xs) (.inr trivial)
    unfold ix61 at h ⊢
    omega
  · have := Tryd.bytes_Index_one_at a n c b2 0 1 xs 61 W hx (fun j hj => by rw [hc j hj, List.getD_eq_getElem?_getD]) h61
    exact this.mono fun e w' h => ⟨h.1, 0, h.2⟩
theorem add_on (a : Addr) (i j : Nat) : (⟨a.block, a.off + (i + 1), none⟩ : Addr).add j = a.add (i + 1 + j) := by
  unfold Addr.add
  rw [if_neg (show ¬ i + 1 + j = 0 by omega)]
  split
  · subst j; rfl
  · simp only [Nat.add_assoc]
theorem mid_len {l : List Int} {i m : Nat} (hm : m < l.length) : ((l.take m).drop (i + 1)).length = m - (i + 1) := by rw [List.length_drop, List.length_take]; omega
theorem mid_at {l : List Int} {i m j : Nat} (hm : m < l.length) (hj : j < m - (i + 1)) : ((l.take m).drop (i + 1))[j]? = l[i + 1 + j]? := by
  rw [List.getElem?_drop, List.getElem?_take, if_pos (by omega)]
theorem mid_cell {W : World} {a : Addr} {l : List Int} {i m : Nat} (h : ∀ j, j < l.length → W.cell? (a.add j) = some (.int .u8 (l[j]?.getD 0))) (hm : m < l.length) (o : Obj) (j : Nat) (hj : j < m - (i + 1)) :
    (W.alloc o).cell? ((⟨a.block, a.off + (i + 1), none⟩ : Addr).add j) = some (.int .u8 (((l.take m).drop (i + 1))[j]?.getD 0)) := by
  rw [add_on, mid_at hm hj]
  exact cell_alloc_l _ (h (i + 1 + j) (by omega))
theorem cutV_neg {p : Option Addr} {n c k : Nat} {i : Int} (h : i < 0) : Lib.cutV p n c k i = .tuple #[.slice p n c, .slice none 0 0, .bool false] := by unfold Lib.cutV; rw [if_neg (by omega)]
theorem drewN_cell {W : World} {a : Addr} {v : Value} (q : Nat) (h : W.cell? a = some v) : (W.drewN q).cell? a = some v := h
theorem below_d {w W : World} (h : Below w.heap.size w W) (o : Obj) (q : Nat) : Below w.heap.size w ((W.alloc o).drewN q) := (h.alloc h.size o).trans ⟨rfl, rfl, rfl, Nat.le_refl _, fun _ _ => rfl⟩
theorem cutV_pos {a : Addr} {n c : Nat} {i : Int} (g : Nat) (h : i = (g : Int)) (hc : c ≠ g + 1) : Lib.cutV (some a) n c 1 i = .tuple #[.slice (some a) g c, .slice (some (a.add (g + 1))) (n - (g + 1)) (c - (g + 1)), .bool true] := by
  subst h
  unfold Lib.cutV Lib.fromV
  rw [if_pos (by omega), Int.toNat_natCast, if_neg hc]
  rfl
theorem add_two (a : Addr) (i j : Nat) : (a.add (i + 1)).add j = a.add (i + 1 + j) := by
  unfold Addr.add
  rw [if_neg (show ¬ i + 1 + j = 0 by omega), if_neg (show ¬ i + 1 = 0 by omega)]
  split
  · subst j; rfl
  · simp only [Nat.add_assoc]
def keyOf (l : List Int) (d m g : Nat) : ByteArray := strOfNums (((l.take m).drop (d + 1)).take g)
def valOf (l : List Int) (d m g : Nat) : ByteArray := strOfNums (((l.take m).drop (d + 1)).drop (g + 1))
theorem key_conv {W : World} {a : Addr} {l : List Int} {i m g c : Nat} (hm : m < l.length) (hL : l.length ≤ 140737488355328) (hg : g < m - (i + 1)) (h : ∀ j, j < m - (i + 1) → W.cell? ((⟨a.block, a.off + (i + 1), none⟩ : Addr).add j) = some (.int .u8 (((l.take m).drop (i + 1))[j]?.getD 0))) :
    (convert 35 9 (.slice (some ⟨a.block, a.off + (i + 1), none⟩) g c)).run Tryd.prog W = .ok (.string (keyOf l i m g)) W :=
  conv_at W _ g c ((l.take m).drop (i + 1)) (by rw [mid_len hm]; omega) (by rw [mid_len hm]; omega) (fun j hj => h j (by rwa [mid_len hm] at hj))
theorem val_conv {W : World} {a : Addr} {l : List Int} {i m g c : Nat} (hm : m < l.length) (hL : l.length ≤ 140737488355328) (hg : g < m - (i + 1)) (h : ∀ j, j < m - (i + 1) → W.cell? ((⟨a.block, a.off + (i + 1), none⟩ : Addr).add j) = some (.int .u8 (((l.take m).drop (i + 1))[j]?.getD 0))) :
    (convert 35 9 (.slice (some ⟨a.block, a.off + (i + 1) + (g + 1), none⟩) (m - (i + 1) - (g + 1)) c)).run Tryd.prog W = .ok (.string (valOf l i m g)) W := by
  have hl : (((l.take m).drop (i + 1)).drop (g + 1)).length = m - (i + 1) - (g + 1) := by rw [List.length_drop, mid_len hm]
  have ea : (⟨a.block, a.off + (i + 1) + (g + 1), none⟩ : Addr) = (⟨a.block, a.off + (i + 1), none⟩ : Addr).add (g + 1) := by unfold Addr.add; rw [if_neg (by omega)]
  rw [ea]
  have := conv_at W ((⟨a.block, a.off + (i + 1), none⟩ : Addr).add (g + 1)) (m - (i + 1) - (g + 1)) c (((l.take m).drop (i + 1)).drop (g + 1)) (by omega) (by omega) (fun j hj => by
    have e : (((l.take m).drop (i + 1)).drop (g + 1))[j]? = ((l.take m).drop (i + 1))[g + 1 + j]? := List.getElem?_drop
    rw [add_two, h (g + 1 + j) (by omega), e])
  rw [List.take_of_length_le (by omega)] at this
  exact this
theorem below_ad {w W W' : World} {o : Obj} (h : Below w.heap.size w W) (k : Below (W.alloc o).heap.size (W.alloc o) W') : Below w.heap.size w W' :=
  (h.alloc h.size o).trans (k.mono (h.alloc h.size o).size)
theorem two_cells {W : World} {b : Nat} {v0 v1 : Value} {t : TypeId} (h : W.heap[b]? = some (.cells #[v0, v1] t (0, 0))) : W.cell? ⟨b, 0, none⟩ = some v0 ∧ W.cell? ⟨b, 1, none⟩ = some v1 := by
  simp [World.cell?, h]
theorem pair_kept {W W' : World} {cs : Array Value} {t : TypeId} (h : Below (W.alloc (.cells cs t)).heap.size (W.alloc (.cells cs t)) W') : W'.heap[W.heap.size]? = some (.cells cs t (0, 0)) :=
  (h.block _ (by simp)).trans (heap_alloc_new W _)
/-- A block stays. -/
theorem blk_b {w W W' : World} {b : Nat} {o : Obj} (h : W.heap[b]? = some o) (hb : Below W.heap.size W W') : W'.heap[b]? = some o := (hb.block b (Array.getElem?_eq_some_iff.1 h).1).trans h
theorem blk_ad {W W' : World} {b : Nat} {o o' : Obj} (h : W.heap[b]? = some o) (hb : Below (W.alloc o').heap.size (W.alloc o') W') : W'.heap[b]? = some o := by
  have h2 : (W.alloc o').heap[b]? = some o := blk_b (w := W) h ((Below.refl _ _).alloc (Nat.le_refl _) o')
  exact blk_b (w := W) h2 hb
theorem two_set {W : World} {b : Nat} {v0 v1 u0 u1 : Value} {t : TypeId} (h : W.heap[b]? = some (.cells #[v0, v1] t (0, 0))) :
    (((W.setCell ⟨b, 0, none⟩ u0).setCell ⟨b, 1, none⟩ u1).drew).cell? ⟨b, 0, none⟩ = some u0 ∧ (((W.setCell ⟨b, 0, none⟩ u0).setCell ⟨b, 1, none⟩ u1).drew).cell? ⟨b, 1, none⟩ = some u1 := by
  have e : (((W.setCell ⟨b, 0, none⟩ u0).setCell ⟨b, 1, none⟩ u1).drew).heap[b]? = some (.cells #[u0, u1] t (0, 0)) := by
    simp [World.drew, World.setCell, Array.getElem?_modify, h]
  exact two_cells e

set_option maxRecDepth 100000 in
set_option maxHeartbeats 8000000 in
theorem one_b0 (ad : Addr) (p : Nat) (l : List Int) (c d : Nat) (hcap : p + l.length ≤ c) (hL : p + l.length ≤ 140737488355328) (hpos : 1 ≤ l.length) (hd : IsDig l d) (w : World) (hlt : ad.block < w.heap.size)
    (hc : ∀ j, j < l.length → w.cell? ((ad.add p).add j) = some (.int .u8 (l[j]?.getD 0))) (hb : d = 0) :
    Calls Tryd.prog 32 #[.slice (some ad) (p + l.length) c, .int .i64 p] w fun e w' => e = .panicked [{ v := thrown p 90, recovered := false }] ∧ Below w.heap.size w w' := by
  have hp0 : (0 : Int) ≤ (p : Int) := by omega
  have hp1 : (p : Int) ≤ ((p + l.length : Nat) : Int) := by omega
  have hmf : ∀ (fn : Fn) (first cap : Array Value) (w : World), (Instr.makeFunc fn first cap).run Tryd.prog w = .ok (.func fn first cap) w := fun _ _ _ _ => rfl
  obtain ⟨hd5, hdl, hdig, hend⟩ := hd
  have hcw : ∀ j, j < l.length → ((w.alloc (.cells #[.int .i64 p] 3)).alloc (.cells #[.string ⟨#[]⟩, .string ⟨#[]⟩] 32)).cell? ((ad.add p).add j) = some (.int .u8 (l[j]?.getD 0)) := fun j hj => cell_alloc_l _ (cell_alloc_l _ (hc j hj))
  have HP := Lib.hid (show ((w.alloc (.cells #[.int .i64 p] 3)).alloc (.cells #[.string ⟨#[]⟩, .string ⟨#[]⟩] 32)).cell? ⟨w.heap.size, 0, none⟩ = some (.int .i64 p) from cell_alloc_l _ (Boxed.new w 3 (.int .i64 p)).cell)
  have HB2 := Lib.hid (show Below w.heap.size w ((w.alloc (.cells #[.int .i64 p] 3)).alloc (.cells #[.string ⟨#[]⟩, .string ⟨#[]⟩] 32)) from ((Below.refl _ _).alloc (Nat.le_refl _) _).alloc (by simp) _)
  have HC := Lib.hid hc
  have HW := Lib.hid hcw
  have HD := Lib.hid hdig
  have HE := Lib.hid hend
  clear hc hcw hdig hend
  have hz : ((d : Int) == 0) = true := beq_iff_eq.2 (by omega)
  clear hb
  go_enter Tryd.func32, Tryd.ntmps32
  go_wp2
  go_loopg [8] d (fun g s8 wx => ∃ i : Nat, i + g = d ∧ s8 = .int .i64 i ∧ wx = (w.alloc (.cells #[.int .i64 p] 3)).alloc (.cells #[.string ⟨#[]⟩, .string ⟨#[]⟩] 32))
  case atStart => exact ⟨0, by omega, rfl, rfl⟩
  case round =>
    obtain ⟨i, hig, rfl, rfl⟩ := hrel
    cases gk with
    | succ g =>
      have hil : (i : Int) < (l.length : Int) := by omega
      have hi4 : (i : Int) ≤ 4 := by omega
      have hx := HW.out i (by omega)
      obtain ⟨x0, x1⟩ := HD.out i (by omega)
      have hi0 : (0 : Int) ≤ (i : Int) := by omega
      go_wp2
      go_roundg g
      case measure => omega
      case rel => exact ⟨i + 1, by omega, by go_num, rfl⟩
    | zero =>
      obtain rfl : i = d := by omega
      have hi0 : (0 : Int) ≤ (i : Int) := by omega
      obtain ⟨x, hxe⟩ : ∃ x, l[i]?.getD 0 = x := ⟨_, rfl⟩
      rcases Nat.lt_or_ge i l.length with hil | hil
      · have hil' : (i : Int) < (l.length : Int) := by omega
        have hx := HW.out i hil
        rw [hxe] at hx
        by_cases hi4 : i ≤ 4
        · have hi4' : (i : Int) ≤ 4 := by omega
          rcases Int.lt_or_le x 48 with x0 | x0
          · have g1 : decide ((48 : Int) ≤ x) = false := decide_eq_false (by omega)
            clear hxe
            (go_wp2_with (go_at_call 42; refine (fails_calls _ _ _ _ HP.out).mono ?_; rintro e w' ⟨rfl, rfl⟩); all_goals first | (exact ⟨rfl, rfl, ((Below.refl _ _).alloc (Nat.le_refl _) _).alloc (by simp) _⟩) | (exfalso; omega))
          · have g1 : decide ((48 : Int) ≤ x) = true := decide_eq_true x0
            have g2 : decide (x ≤ 57) = false := decide_eq_false (by have := HE.out; unfold isD at this; omega)
            clear hxe
            (go_wp2_with (go_at_call 42; refine (fails_calls _ _ _ _ HP.out).mono ?_; rintro e w' ⟨rfl, rfl⟩); all_goals first | (exact ⟨rfl, rfl, ((Below.refl _ _).alloc (Nat.le_refl _) _).alloc (by simp) _⟩) | (exfalso; omega))
        · have hi4' : (4 : Int) < (i : Int) := by omega
          clear hxe
          (go_wp2_with (go_at_call 42; refine (fails_calls _ _ _ _ HP.out).mono ?_; rintro e w' ⟨rfl, rfl⟩); all_goals first | (exact ⟨rfl, rfl, ((Below.refl _ _).alloc (Nat.le_refl _) _).alloc (by simp) _⟩) | (exfalso; omega))
      · have hil' : (l.length : Int) ≤ (i : Int) := by omega
        clear hxe
        (go_wp2_with (go_at_call 42; refine (fails_calls _ _ _ _ HP.out).mono ?_; rintro e w' ⟨rfl, rfl⟩); all_goals first | (exact ⟨rfl, rfl, ((Below.refl _ _).alloc (Nat.le_refl _) _).alloc (by simp) _⟩) | (exfalso; omega))


set_option maxRecDepth 100000 in
set_option maxHeartbeats 8000000 in
theorem one_b1 (ad : Addr) (p : Nat) (l : List Int) (c d : Nat) (hcap : p + l.length ≤ c) (hL : p + l.length ≤ 140737488355328) (hpos : 1 ≤ l.length) (hd : IsDig l d) (w : World) (hlt : ad.block < w.heap.size)
    (hc : ∀ j, j < l.length → w.cell? ((ad.add p).add j) = some (.int .u8 (l[j]?.getD 0))) (hb : d = 5) :
    Calls Tryd.prog 32 #[.slice (some ad) (p + l.length) c, .int .i64 p] w fun e w' => e = .panicked [{ v := thrown p 90, recovered := false }] ∧ Below w.heap.size w w' := by
  have hp0 : (0 : Int) ≤ (p : Int) := by omega
  have hp1 : (p : Int) ≤ ((p + l.length : Nat) : Int) := by omega
  have hmf : ∀ (fn : Fn) (first cap : Array Value) (w : World), (Instr.makeFunc fn first cap).run Tryd.prog w = .ok (.func fn first cap) w := fun _ _ _ _ => rfl
  obtain ⟨hd5, hdl, hdig, hend⟩ := hd
  have hcw : ∀ j, j < l.length → ((w.alloc (.cells #[.int .i64 p] 3)).alloc (.cells #[.string ⟨#[]⟩, .string ⟨#[]⟩] 32)).cell? ((ad.add p).add j) = some (.int .u8 (l[j]?.getD 0)) := fun j hj => cell_alloc_l _ (cell_alloc_l _ (hc j hj))
  have HP := Lib.hid (show ((w.alloc (.cells #[.int .i64 p] 3)).alloc (.cells #[.string ⟨#[]⟩, .string ⟨#[]⟩] 32)).cell? ⟨w.heap.size, 0, none⟩ = some (.int .i64 p) from cell_alloc_l _ (Boxed.new w 3 (.int .i64 p)).cell)
  have HB2 := Lib.hid (show Below w.heap.size w ((w.alloc (.cells #[.int .i64 p] 3)).alloc (.cells #[.string ⟨#[]⟩, .string ⟨#[]⟩] 32)) from ((Below.refl _ _).alloc (Nat.le_refl _) _).alloc (by simp) _)
  have HC := Lib.hid hc
  have HW := Lib.hid hcw
  have HD := Lib.hid hdig
  have HE := Lib.hid hend
  clear hc hcw hdig hend
  have hz : ((d : Int) == 0) = false := beq_eq_false_iff_ne.2 (by omega)
  have h4 : decide ((4 : Int) < (d : Int)) = true := decide_eq_true (by omega)
  clear hb
  go_enter Tryd.func32, Tryd.ntmps32
  go_wp2
  go_loopg [8] d (fun g s8 wx => ∃ i : Nat, i + g = d ∧ s8 = .int .i64 i ∧ wx = (w.alloc (.cells #[.int .i64 p] 3)).alloc (.cells #[.string ⟨#[]⟩, .string ⟨#[]⟩] 32))
  case atStart => exact ⟨0, by omega, rfl, rfl⟩
  case round =>
    obtain ⟨i, hig, rfl, rfl⟩ := hrel
    cases gk with
    | succ g =>
      have hil : (i : Int) < (l.length : Int) := by omega
      have hi4 : (i : Int) ≤ 4 := by omega
      have hx := HW.out i (by omega)
      obtain ⟨x0, x1⟩ := HD.out i (by omega)
      have hi0 : (0 : Int) ≤ (i : Int) := by omega
      go_wp2
      go_roundg g
      case measure => omega
      case rel => exact ⟨i + 1, by omega, by go_num, rfl⟩
    | zero =>
      obtain rfl : i = d := by omega
      have hi0 : (0 : Int) ≤ (i : Int) := by omega
      obtain ⟨x, hxe⟩ : ∃ x, l[i]?.getD 0 = x := ⟨_, rfl⟩
      rcases Nat.lt_or_ge i l.length with hil | hil
      · have hil' : (i : Int) < (l.length : Int) := by omega
        have hx := HW.out i hil
        rw [hxe] at hx
        by_cases hi4 : i ≤ 4
        · have hi4' : (i : Int) ≤ 4 := by omega
          rcases Int.lt_or_le x 48 with x0 | x0
          · have g1 : decide ((48 : Int) ≤ x) = false := decide_eq_false (by omega)
            clear hxe
            (go_wp2_with (go_at_call 42; refine (fails_calls _ _ _ _ HP.out).mono ?_; rintro e w' ⟨rfl, rfl⟩); all_goals first | (exact ⟨rfl, rfl, ((Below.refl _ _).alloc (Nat.le_refl _) _).alloc (by simp) _⟩) | (exfalso; omega))
          · have g1 : decide ((48 : Int) ≤ x) = true := decide_eq_true x0
            have g2 : decide (x ≤ 57) = false := decide_eq_false (by have := HE.out; unfold isD at this; omega)
            clear hxe
            (go_wp2_with (go_at_call 42; refine (fails_calls _ _ _ _ HP.out).mono ?_; rintro e w' ⟨rfl, rfl⟩); all_goals first | (exact ⟨rfl, rfl, ((Below.refl _ _).alloc (Nat.le_refl _) _).alloc (by simp) _⟩) | (exfalso; omega))
        · have hi4' : (4 : Int) < (i : Int) := by omega
          clear hxe
          (go_wp2_with (go_at_call 42; refine (fails_calls _ _ _ _ HP.out).mono ?_; rintro e w' ⟨rfl, rfl⟩); all_goals first | (exact ⟨rfl, rfl, ((Below.refl _ _).alloc (Nat.le_refl _) _).alloc (by simp) _⟩) | (exfalso; omega))
      · have hil' : (l.length : Int) ≤ (i : Int) := by omega
        clear hxe
        (go_wp2_with (go_at_call 42; refine (fails_calls _ _ _ _ HP.out).mono ?_; rintro e w' ⟨rfl, rfl⟩); all_goals first | (exact ⟨rfl, rfl, ((Below.refl _ _).alloc (Nat.le_refl _) _).alloc (by simp) _⟩) | (exfalso; omega))


set_option maxRecDepth 100000 in
set_option maxHeartbeats 8000000 in
theorem one_b2 (ad : Addr) (p : Nat) (l : List Int) (c d : Nat) (hcap : p + l.length ≤ c) (hL : p + l.length ≤ 140737488355328) (hpos : 1 ≤ l.length) (hd : IsDig l d) (w : World) (hlt : ad.block < w.heap.size)
    (hc : ∀ j, j < l.length → w.cell? ((ad.add p).add j) = some (.int .u8 (l[j]?.getD 0))) (h1 : 1 ≤ d) (h5 : d ≤ 4) (hb : l[0]?.getD 0 = 48) :
    Calls Tryd.prog 32 #[.slice (some ad) (p + l.length) c, .int .i64 p] w fun e w' => e = .panicked [{ v := thrown p 90, recovered := false }] ∧ Below w.heap.size w w' := by
  have hp0 : (0 : Int) ≤ (p : Int) := by omega
  have hp1 : (p : Int) ≤ ((p + l.length : Nat) : Int) := by omega
  have hmf : ∀ (fn : Fn) (first cap : Array Value) (w : World), (Instr.makeFunc fn first cap).run Tryd.prog w = .ok (.func fn first cap) w := fun _ _ _ _ => rfl
  obtain ⟨hd5, hdl, hdig, hend⟩ := hd
  have hcw : ∀ j, j < l.length → ((w.alloc (.cells #[.int .i64 p] 3)).alloc (.cells #[.string ⟨#[]⟩, .string ⟨#[]⟩] 32)).cell? ((ad.add p).add j) = some (.int .u8 (l[j]?.getD 0)) := fun j hj => cell_alloc_l _ (cell_alloc_l _ (hc j hj))
  have HP := Lib.hid (show ((w.alloc (.cells #[.int .i64 p] 3)).alloc (.cells #[.string ⟨#[]⟩, .string ⟨#[]⟩] 32)).cell? ⟨w.heap.size, 0, none⟩ = some (.int .i64 p) from cell_alloc_l _ (Boxed.new w 3 (.int .i64 p)).cell)
  have HB2 := Lib.hid (show Below w.heap.size w ((w.alloc (.cells #[.int .i64 p] 3)).alloc (.cells #[.string ⟨#[]⟩, .string ⟨#[]⟩] 32)) from ((Below.refl _ _).alloc (Nat.le_refl _) _).alloc (by simp) _)
  have HC := Lib.hid hc
  have HW := Lib.hid hcw
  have HD := Lib.hid hdig
  have HE := Lib.hid hend
  clear hc hcw hdig hend
  have hz : ((d : Int) == 0) = false := beq_eq_false_iff_ne.2 (by omega)
  have h4 : decide ((4 : Int) < (d : Int)) = false := decide_eq_false (by omega)
  obtain ⟨y, hye⟩ : ∃ y, l[0]?.getD 0 = y := ⟨_, rfl⟩
  have hx0 := HW.out 0 (by omega)
  rw [hye] at hx0
  have ea : (ad.add p).add 0 = ad.add p := by unfold Addr.add; split <;> (try split) <;> simp_all
  rw [ea] at hx0
  clear ea
  have h48 : (y == 48) = true := beq_iff_eq.2 (by omega)
  clear hb hye
  go_enter Tryd.func32, Tryd.ntmps32
  go_wp2
  go_loopg [8] d (fun g s8 wx => ∃ i : Nat, i + g = d ∧ s8 = .int .i64 i ∧ wx = (w.alloc (.cells #[.int .i64 p] 3)).alloc (.cells #[.string ⟨#[]⟩, .string ⟨#[]⟩] 32))
  case atStart => exact ⟨0, by omega, rfl, rfl⟩
  case round =>
    obtain ⟨i, hig, rfl, rfl⟩ := hrel
    cases gk with
    | succ g =>
      have hil : (i : Int) < (l.length : Int) := by omega
      have hi4 : (i : Int) ≤ 4 := by omega
      have hx := HW.out i (by omega)
      obtain ⟨x0, x1⟩ := HD.out i (by omega)
      have hi0 : (0 : Int) ≤ (i : Int) := by omega
      go_wp2
      go_roundg g
      case measure => omega
      case rel => exact ⟨i + 1, by omega, by go_num, rfl⟩
    | zero =>
      obtain rfl : i = d := by omega
      have hi0 : (0 : Int) ≤ (i : Int) := by omega
      obtain ⟨x, hxe⟩ : ∃ x, l[i]?.getD 0 = x := ⟨_, rfl⟩
      rcases Nat.lt_or_ge i l.length with hil | hil
      · have hil' : (i : Int) < (l.length : Int) := by omega
        have hx := HW.out i hil
        rw [hxe] at hx
        by_cases hi4 : i ≤ 4
        · have hi4' : (i : Int) ≤ 4 := by omega
          rcases Int.lt_or_le x 48 with x0 | x0
          · have g1 : decide ((48 : Int) ≤ x) = false := decide_eq_false (by omega)
            clear hxe
            (go_wp2_with (go_at_call 42; refine (fails_calls _ _ _ _ HP.out).mono ?_; rintro e w' ⟨rfl, rfl⟩); all_goals first | (exact ⟨rfl, rfl, ((Below.refl _ _).alloc (Nat.le_refl _) _).alloc (by simp) _⟩) | (exfalso; omega))
          · have g1 : decide ((48 : Int) ≤ x) = true := decide_eq_true x0
            have g2 : decide (x ≤ 57) = false := decide_eq_false (by have := HE.out; unfold isD at this; omega)
            clear hxe
            (go_wp2_with (go_at_call 42; refine (fails_calls _ _ _ _ HP.out).mono ?_; rintro e w' ⟨rfl, rfl⟩); all_goals first | (exact ⟨rfl, rfl, ((Below.refl _ _).alloc (Nat.le_refl _) _).alloc (by simp) _⟩) | (exfalso; omega))
        · have hi4' : (4 : Int) < (i : Int) := by omega
          clear hxe
          (go_wp2_with (go_at_call 42; refine (fails_calls _ _ _ _ HP.out).mono ?_; rintro e w' ⟨rfl, rfl⟩); all_goals first | (exact ⟨rfl, rfl, ((Below.refl _ _).alloc (Nat.le_refl _) _).alloc (by simp) _⟩) | (exfalso; omega))
      · have hil' : (l.length : Int) ≤ (i : Int) := by omega
        clear hxe
        (go_wp2_with (go_at_call 42; refine (fails_calls _ _ _ _ HP.out).mono ?_; rintro e w' ⟨rfl, rfl⟩); all_goals first | (exact ⟨rfl, rfl, ((Below.refl _ _).alloc (Nat.le_refl _) _).alloc (by simp) _⟩) | (exfalso; omega))


set_option maxRecDepth 100000 in
set_option maxHeartbeats 8000000 in
theorem one_b3 (ad : Addr) (p : Nat) (l : List Int) (c d : Nat) (hcap : p + l.length ≤ c) (hL : p + l.length ≤ 140737488355328) (hpos : 1 ≤ l.length) (hd : IsDig l d) (w : World) (hlt : ad.block < w.heap.size)
    (hc : ∀ j, j < l.length → w.cell? ((ad.add p).add j) = some (.int .u8 (l[j]?.getD 0))) (h1 : 1 ≤ d) (h5 : d ≤ 4) (h0 : l[0]?.getD 0 ≠ 48) (hb : d = l.length) :
    Calls Tryd.prog 32 #[.slice (some ad) (p + l.length) c, .int .i64 p] w fun e w' => e = .panicked [{ v := thrown p 90, recovered := false }] ∧ Below w.heap.size w w' := by
  have hp0 : (0 : Int) ≤ (p : Int) := by omega
  have hp1 : (p : Int) ≤ ((p + l.length : Nat) : Int) := by omega
  have hmf : ∀ (fn : Fn) (first cap : Array Value) (w : World), (Instr.makeFunc fn first cap).run Tryd.prog w = .ok (.func fn first cap) w := fun _ _ _ _ => rfl
  obtain ⟨hd5, hdl, hdig, hend⟩ := hd
  have hcw : ∀ j, j < l.length → ((w.alloc (.cells #[.int .i64 p] 3)).alloc (.cells #[.string ⟨#[]⟩, .string ⟨#[]⟩] 32)).cell? ((ad.add p).add j) = some (.int .u8 (l[j]?.getD 0)) := fun j hj => cell_alloc_l _ (cell_alloc_l _ (hc j hj))
  have HP := Lib.hid (show ((w.alloc (.cells #[.int .i64 p] 3)).alloc (.cells #[.string ⟨#[]⟩, .string ⟨#[]⟩] 32)).cell? ⟨w.heap.size, 0, none⟩ = some (.int .i64 p) from cell_alloc_l _ (Boxed.new w 3 (.int .i64 p)).cell)
  have HB2 := Lib.hid (show Below w.heap.size w ((w.alloc (.cells #[.int .i64 p] 3)).alloc (.cells #[.string ⟨#[]⟩, .string ⟨#[]⟩] 32)) from ((Below.refl _ _).alloc (Nat.le_refl _) _).alloc (by simp) _)
  have HC := Lib.hid hc
  have HW := Lib.hid hcw
  have HD := Lib.hid hdig
  have HE := Lib.hid hend
  clear hc hcw hdig hend
  have hz : ((d : Int) == 0) = false := beq_eq_false_iff_ne.2 (by omega)
  have h4 : decide ((4 : Int) < (d : Int)) = false := decide_eq_false (by omega)
  obtain ⟨y, hye⟩ : ∃ y, l[0]?.getD 0 = y := ⟨_, rfl⟩
  have hx0 := HW.out 0 (by omega)
  rw [hye] at hx0
  have ea : (ad.add p).add 0 = ad.add p := by unfold Addr.add; split <;> (try split) <;> simp_all
  rw [ea] at hx0
  clear ea
  have h48 : (y == 48) = false := beq_eq_false_iff_ne.2 (by omega)
  clear h0 hye
  have hl : ((d : Int) == (l.length : Int)) = true := beq_iff_eq.2 (by omega)
  go_enter Tryd.func32, Tryd.ntmps32
  go_wp2
  go_loopg [8] d (fun g s8 wx => ∃ i : Nat, i + g = d ∧ s8 = .int .i64 i ∧ wx = (w.alloc (.cells #[.int .i64 p] 3)).alloc (.cells #[.string ⟨#[]⟩, .string ⟨#[]⟩] 32))
  case atStart => exact ⟨0, by omega, rfl, rfl⟩
  case round =>
    obtain ⟨i, hig, rfl, rfl⟩ := hrel
    cases gk with
    | succ g =>
      have hil : (i : Int) < (l.length : Int) := by omega
      have hi4 : (i : Int) ≤ 4 := by omega
      have hx := HW.out i (by omega)
      obtain ⟨x0, x1⟩ := HD.out i (by omega)
      have hi0 : (0 : Int) ≤ (i : Int) := by omega
      go_wp2
      go_roundg g
      case measure => omega
      case rel => exact ⟨i + 1, by omega, by go_num, rfl⟩
    | zero =>
      obtain rfl : i = d := by omega
      have hi0 : (0 : Int) ≤ (i : Int) := by omega
      obtain ⟨x, hxe⟩ : ∃ x, l[i]?.getD 0 = x := ⟨_, rfl⟩
      rcases Nat.lt_or_ge i l.length with hil | hil
      · have hil' : (i : Int) < (l.length : Int) := by omega
        have hx := HW.out i hil
        rw [hxe] at hx
        by_cases hi4 : i ≤ 4
        · have hi4' : (i : Int) ≤ 4 := by omega
          rcases Int.lt_or_le x 48 with x0 | x0
          · have g1 : decide ((48 : Int) ≤ x) = false := decide_eq_false (by omega)
            clear hxe
            (go_wp2_with (go_at_call 42; refine (fails_calls _ _ _ _ HP.out).mono ?_; rintro e w' ⟨rfl, rfl⟩); all_goals first | (exact ⟨rfl, rfl, ((Below.refl _ _).alloc (Nat.le_refl _) _).alloc (by simp) _⟩) | (exfalso; omega))
          · have g1 : decide ((48 : Int) ≤ x) = true := decide_eq_true x0
            have g2 : decide (x ≤ 57) = false := decide_eq_false (by have := HE.out; unfold isD at this; omega)
            clear hxe
            (go_wp2_with (go_at_call 42; refine (fails_calls _ _ _ _ HP.out).mono ?_; rintro e w' ⟨rfl, rfl⟩); all_goals first | (exact ⟨rfl, rfl, ((Below.refl _ _).alloc (Nat.le_refl _) _).alloc (by simp) _⟩) | (exfalso; omega))
        · have hi4' : (4 : Int) < (i : Int) := by omega
          clear hxe
          (go_wp2_with (go_at_call 42; refine (fails_calls _ _ _ _ HP.out).mono ?_; rintro e w' ⟨rfl, rfl⟩); all_goals first | (exact ⟨rfl, rfl, ((Below.refl _ _).alloc (Nat.le_refl _) _).alloc (by simp) _⟩) | (exfalso; omega))
      · have hil' : (l.length : Int) ≤ (i : Int) := by omega
        clear hxe
        (go_wp2_with (go_at_call 42; refine (fails_calls _ _ _ _ HP.out).mono ?_; rintro e w' ⟨rfl, rfl⟩); all_goals first | (exact ⟨rfl, rfl, ((Below.refl _ _).alloc (Nat.le_refl _) _).alloc (by simp) _⟩) | (exfalso; omega))


set_option maxRecDepth 100000 in
set_option maxHeartbeats 8000000 in
theorem one_b4 (ad : Addr) (p : Nat) (l : List Int) (c d : Nat) (hcap : p + l.length ≤ c) (hL : p + l.length ≤ 140737488355328) (hpos : 1 ≤ l.length) (hd : IsDig l d) (w : World) (hlt : ad.block < w.heap.size)
    (hc : ∀ j, j < l.length → w.cell? ((ad.add p).add j) = some (.int .u8 (l[j]?.getD 0))) (h1 : 1 ≤ d) (h5 : d ≤ 4) (h0 : l[0]?.getD 0 ≠ 48) (hdn : d < l.length) (hb : l[d]?.getD 0 ≠ 32) :
    Calls Tryd.prog 32 #[.slice (some ad) (p + l.length) c, .int .i64 p] w fun e w' => e = .panicked [{ v := thrown p 90, recovered := false }] ∧ Below w.heap.size w w' := by
  have hp0 : (0 : Int) ≤ (p : Int) := by omega
  have hp1 : (p : Int) ≤ ((p + l.length : Nat) : Int) := by omega
  have hmf : ∀ (fn : Fn) (first cap : Array Value) (w : World), (Instr.makeFunc fn first cap).run Tryd.prog w = .ok (.func fn first cap) w := fun _ _ _ _ => rfl
  obtain ⟨hd5, hdl, hdig, hend⟩ := hd
  have hcw : ∀ j, j < l.length → ((w.alloc (.cells #[.int .i64 p] 3)).alloc (.cells #[.string ⟨#[]⟩, .string ⟨#[]⟩] 32)).cell? ((ad.add p).add j) = some (.int .u8 (l[j]?.getD 0)) := fun j hj => cell_alloc_l _ (cell_alloc_l _ (hc j hj))
  have HP := Lib.hid (show ((w.alloc (.cells #[.int .i64 p] 3)).alloc (.cells #[.string ⟨#[]⟩, .string ⟨#[]⟩] 32)).cell? ⟨w.heap.size, 0, none⟩ = some (.int .i64 p) from cell_alloc_l _ (Boxed.new w 3 (.int .i64 p)).cell)
  have HB2 := Lib.hid (show Below w.heap.size w ((w.alloc (.cells #[.int .i64 p] 3)).alloc (.cells #[.string ⟨#[]⟩, .string ⟨#[]⟩] 32)) from ((Below.refl _ _).alloc (Nat.le_refl _) _).alloc (by simp) _)
  have HC := Lib.hid hc
  have HW := Lib.hid hcw
  have HD := Lib.hid hdig
  have HE := Lib.hid hend
  clear hc hcw hdig hend
  have hz : ((d : Int) == 0) = false := beq_eq_false_iff_ne.2 (by omega)
  have h4 : decide ((4 : Int) < (d : Int)) = false := decide_eq_false (by omega)
  obtain ⟨y, hye⟩ : ∃ y, l[0]?.getD 0 = y := ⟨_, rfl⟩
  have hx0 := HW.out 0 (by omega)
  rw [hye] at hx0
  have ea : (ad.add p).add 0 = ad.add p := by unfold Addr.add; split <;> (try split) <;> simp_all
  rw [ea] at hx0
  clear ea
  have h48 : (y == 48) = false := beq_eq_false_iff_ne.2 (by omega)
  clear h0 hye
  have hl : ((d : Int) == (l.length : Int)) = false := beq_eq_false_iff_ne.2 (by omega)
  go_enter Tryd.func32, Tryd.ntmps32
  go_wp2
  go_loopg [8] d (fun g s8 wx => ∃ i : Nat, i + g = d ∧ s8 = .int .i64 i ∧ wx = (w.alloc (.cells #[.int .i64 p] 3)).alloc (.cells #[.string ⟨#[]⟩, .string ⟨#[]⟩] 32))
  case atStart => exact ⟨0, by omega, rfl, rfl⟩
  case round =>
    obtain ⟨i, hig, rfl, rfl⟩ := hrel
    cases gk with
    | succ g =>
      have hil : (i : Int) < (l.length : Int) := by omega
      have hi4 : (i : Int) ≤ 4 := by omega
      have hx := HW.out i (by omega)
      obtain ⟨x0, x1⟩ := HD.out i (by omega)
      have hi0 : (0 : Int) ≤ (i : Int) := by omega
      go_wp2
      go_roundg g
      case measure => omega
      case rel => exact ⟨i + 1, by omega, by go_num, rfl⟩
    | zero =>
      obtain rfl : i = d := by omega
      have hi0 : (0 : Int) ≤ (i : Int) := by omega
      obtain ⟨x, hxe⟩ : ∃ x, l[i]?.getD 0 = x := ⟨_, rfl⟩
      have h32 : (x != 32) = true := bne_iff_ne.2 (by omega)
      clear hb
      rcases Nat.lt_or_ge i l.length with hil | hil
      · have hil' : (i : Int) < (l.length : Int) := by omega
        have hx := HW.out i hil
        rw [hxe] at hx
        by_cases hi4 : i ≤ 4
        · have hi4' : (i : Int) ≤ 4 := by omega
          rcases Int.lt_or_le x 48 with x0 | x0
          · have g1 : decide ((48 : Int) ≤ x) = false := decide_eq_false (by omega)
            clear hxe
            (go_wp2_with (go_at_call 42; refine (fails_calls _ _ _ _ HP.out).mono ?_; rintro e w' ⟨rfl, rfl⟩); all_goals first | (exact ⟨rfl, rfl, ((Below.refl _ _).alloc (Nat.le_refl _) _).alloc (by simp) _⟩) | (exfalso; omega))
          · have g1 : decide ((48 : Int) ≤ x) = true := decide_eq_true x0
            have g2 : decide (x ≤ 57) = false := decide_eq_false (by have := HE.out; unfold isD at this; omega)
            clear hxe
            (go_wp2_with (go_at_call 42; refine (fails_calls _ _ _ _ HP.out).mono ?_; rintro e w' ⟨rfl, rfl⟩); all_goals first | (exact ⟨rfl, rfl, ((Below.refl _ _).alloc (Nat.le_refl _) _).alloc (by simp) _⟩) | (exfalso; omega))
        · have hi4' : (4 : Int) < (i : Int) := by omega
          clear hxe
          (go_wp2_with (go_at_call 42; refine (fails_calls _ _ _ _ HP.out).mono ?_; rintro e w' ⟨rfl, rfl⟩); all_goals first | (exact ⟨rfl, rfl, ((Below.refl _ _).alloc (Nat.le_refl _) _).alloc (by simp) _⟩) | (exfalso; omega))
      · have hil' : (l.length : Int) ≤ (i : Int) := by omega
        clear hxe
        (go_wp2_with (go_at_call 42; refine (fails_calls _ _ _ _ HP.out).mono ?_; rintro e w' ⟨rfl, rfl⟩); all_goals first | (exact ⟨rfl, rfl, ((Below.refl _ _).alloc (Nat.le_refl _) _).alloc (by simp) _⟩) | (exfalso; omega))


set_option maxRecDepth 100000 in
set_option maxHeartbeats 8000000 in
theorem one_c1 (ad : Addr) (p : Nat) (l : List Int) (c d : Nat) (hcap : p + l.length ≤ c) (hL : p + l.length ≤ 140737488355328) (hpos : 1 ≤ l.length) (hd : IsDig l d) (w : World) (hlt : ad.block < w.heap.size)
    (hc : ∀ j, j < l.length → w.cell? ((ad.add p).add j) = some (.int .u8 (l[j]?.getD 0))) (h1 : 1 ≤ d) (h5 : d ≤ 4) (h0 : l[0]?.getD 0 ≠ 48) (hdn : d < l.length) (hb : l[d]?.getD 0 = 32) (m : Nat) (hat : Lib.atoi (strOfNums (l.take d)).data.toList = some ((m : Int) + 1)) (hbig : l.length ≤ m) :
    Calls Tryd.prog 32 #[.slice (some ad) (p + l.length) c, .int .i64 p] w fun e w' => e = .panicked [{ v := thrown p 90, recovered := false }] ∧ Below w.heap.size w w' := by
  have hp0 : (0 : Int) ≤ (p : Int) := by omega
  have hp1 : (p : Int) ≤ ((p + l.length : Nat) : Int) := by omega
  have hmf : ∀ (fn : Fn) (first cap : Array Value) (w : World), (Instr.makeFunc fn first cap).run Tryd.prog w = .ok (.func fn first cap) w := fun _ _ _ _ => rfl
  obtain ⟨hd5, hdl, hdig, hend⟩ := hd
  have hcw : ∀ j, j < l.length → ((w.alloc (.cells #[.int .i64 p] 3)).alloc (.cells #[.string ⟨#[]⟩, .string ⟨#[]⟩] 32)).cell? ((ad.add p).add j) = some (.int .u8 (l[j]?.getD 0)) := fun j hj => cell_alloc_l _ (cell_alloc_l _ (hc j hj))
  have HP := Lib.hid (show ((w.alloc (.cells #[.int .i64 p] 3)).alloc (.cells #[.string ⟨#[]⟩, .string ⟨#[]⟩] 32)).cell? ⟨w.heap.size, 0, none⟩ = some (.int .i64 p) from cell_alloc_l _ (Boxed.new w 3 (.int .i64 p)).cell)
  have HB2 := Lib.hid (show Below w.heap.size w ((w.alloc (.cells #[.int .i64 p] 3)).alloc (.cells #[.string ⟨#[]⟩, .string ⟨#[]⟩] 32)) from ((Below.refl _ _).alloc (Nat.le_refl _) _).alloc (by simp) _)
  have HC := Lib.hid hc
  have HW := Lib.hid hcw
  have HD := Lib.hid hdig
  have HE := Lib.hid hend
  clear hc hcw hdig hend
  have hz : ((d : Int) == 0) = false := beq_eq_false_iff_ne.2 (by omega)
  have h4 : decide ((4 : Int) < (d : Int)) = false := decide_eq_false (by omega)
  obtain ⟨y, hye⟩ : ∃ y, l[0]?.getD 0 = y := ⟨_, rfl⟩
  have hx0 := HW.out 0 (by omega)
  rw [hye] at hx0
  have ea : (ad.add p).add 0 = ad.add p := by unfold Addr.add; split <;> (try split) <;> simp_all
  rw [ea] at hx0
  clear ea
  have h48 : (y == 48) = false := beq_eq_false_iff_ne.2 (by omega)
  clear h0 hye
  have hl : ((d : Int) == (l.length : Int)) = false := beq_eq_false_iff_ne.2 (by omega)
  have hcv : (convert 35 9 (.slice (some (ad.add p)) d (c - p))).run Tryd.prog ((w.alloc (.cells #[.int .i64 p] 3)).alloc (.cells #[.string ⟨#[]⟩, .string ⟨#[]⟩] 32)) = .ok (.string (strOfNums (l.take d))) ((w.alloc (.cells #[.int .i64 p] 3)).alloc (.cells #[.string ⟨#[]⟩, .string ⟨#[]⟩] 32)) := conv_at _ (ad.add p) d (c - p) l (by omega) (by omega) HW.out
  have hsz : (strOfNums (l.take d)).size ≤ 18 := by rw [strOfNums_size, List.length_take]; omega
  have HAT := Lib.hid hat
  clear hat
  have hg : decide ((l.length : Int) < (m : Int) + 1) = true := decide_eq_true (by omega)
  go_enter Tryd.func32, Tryd.ntmps32
  go_wp2
  go_loopg [8] d (fun g s8 wx => ∃ i : Nat, i + g = d ∧ s8 = .int .i64 i ∧ wx = (w.alloc (.cells #[.int .i64 p] 3)).alloc (.cells #[.string ⟨#[]⟩, .string ⟨#[]⟩] 32))
  case atStart => exact ⟨0, by omega, rfl, rfl⟩
  case round =>
    obtain ⟨i, hig, rfl, rfl⟩ := hrel
    cases gk with
    | succ g =>
      have hil : (i : Int) < (l.length : Int) := by omega
      have hi4 : (i : Int) ≤ 4 := by omega
      have hx := HW.out i (by omega)
      obtain ⟨x0, x1⟩ := HD.out i (by omega)
      have hi0 : (0 : Int) ≤ (i : Int) := by omega
      go_wp2
      go_roundg g
      case measure => omega
      case rel => exact ⟨i + 1, by omega, by go_num, rfl⟩
    | zero =>
      obtain rfl : i = d := by omega
      have hi0 : (0 : Int) ≤ (i : Int) := by omega
      obtain ⟨x, hxe⟩ : ∃ x, l[i]?.getD 0 = x := ⟨_, rfl⟩
      have hx := HW.out i hdn
      rw [hxe] at hx hb
      clear hxe
      subst hb
      have hil' : (i : Int) < (l.length : Int) := by omega
      have hi4' : (i : Int) ≤ 4 := by omega
      (go_wp2_with (first | (go_at_call 43; refine (Tryd.strconv_Atoi _ _ hsz HAT.out _).mono ?_; rintro e w3 ⟨rfl, t, hw3⟩; have hP3 := cell_bw (t := t) HP.out; rw [← hw3] at hP3; have HW3 := Lib.hid (fun j (hj : j < l.length) => cell_bw (t := t) (HW.out j hj)); rw [← hw3] at HW3; have HB3 := Lib.hid (below_bw HB2.out t); rw [← hw3] at HB3; clear hw3) | (go_at_call 42; refine (fails_calls _ _ _ _ hP3).mono ?_; rintro e w' ⟨rfl, rfl⟩)); all_goals first | (exact ⟨rfl, rfl, HB3.out⟩) | (exfalso; omega))


set_option maxRecDepth 100000 in
set_option maxHeartbeats 8000000 in
theorem one_c2 (ad : Addr) (p : Nat) (l : List Int) (c d : Nat) (hcap : p + l.length ≤ c) (hL : p + l.length ≤ 140737488355328) (hpos : 1 ≤ l.length) (hd : IsDig l d) (w : World) (hlt : ad.block < w.heap.size)
    (hc : ∀ j, j < l.length → w.cell? ((ad.add p).add j) = some (.int .u8 (l[j]?.getD 0))) (h1 : 1 ≤ d) (h5 : d ≤ 4) (h0 : l[0]?.getD 0 ≠ 48) (hdn : d < l.length) (hb : l[d]?.getD 0 = 32) (m : Nat) (hat : Lib.atoi (strOfNums (l.take d)).data.toList = some ((m : Int) + 1)) (hm : m < l.length) (hz : l[m]?.getD 0 ≠ 10) :
    Calls Tryd.prog 32 #[.slice (some ad) (p + l.length) c, .int .i64 p] w fun e w' => e = .panicked [{ v := thrown p 90, recovered := false }] ∧ Below w.heap.size w w' := by
  have hp0 : (0 : Int) ≤ (p : Int) := by omega
  have hp1 : (p : Int) ≤ ((p + l.length : Nat) : Int) := by omega
  have hmf : ∀ (fn : Fn) (first cap : Array Value) (w : World), (Instr.makeFunc fn first cap).run Tryd.prog w = .ok (.func fn first cap) w := fun _ _ _ _ => rfl
  obtain ⟨hd5, hdl, hdig, hend⟩ := hd
  have hcw : ∀ j, j < l.length → ((w.alloc (.cells #[.int .i64 p] 3)).alloc (.cells #[.string ⟨#[]⟩, .string ⟨#[]⟩] 32)).cell? ((ad.add p).add j) = some (.int .u8 (l[j]?.getD 0)) := fun j hj => cell_alloc_l _ (cell_alloc_l _ (hc j hj))
  have HP := Lib.hid (show ((w.alloc (.cells #[.int .i64 p] 3)).alloc (.cells #[.string ⟨#[]⟩, .string ⟨#[]⟩] 32)).cell? ⟨w.heap.size, 0, none⟩ = some (.int .i64 p) from cell_alloc_l _ (Boxed.new w 3 (.int .i64 p)).cell)
  have HB2 := Lib.hid (show Below w.heap.size w ((w.alloc (.cells #[.int .i64 p] 3)).alloc (.cells #[.string ⟨#[]⟩, .string ⟨#[]⟩] 32)) from ((Below.refl _ _).alloc (Nat.le_refl _) _).alloc (by simp) _)
  have HC := Lib.hid hc
  have HW := Lib.hid hcw
  have HD := Lib.hid hdig
  have HE := Lib.hid hend
  clear hc hcw hdig hend
  have hz : ((d : Int) == 0) = false := beq_eq_false_iff_ne.2 (by omega)
  have h4 : decide ((4 : Int) < (d : Int)) = false := decide_eq_false (by omega)
  obtain ⟨y, hye⟩ : ∃ y, l[0]?.getD 0 = y := ⟨_, rfl⟩
  have hx0 := HW.out 0 (by omega)
  rw [hye] at hx0
  have ea : (ad.add p).add 0 = ad.add p := by unfold Addr.add; split <;> (try split) <;> simp_all
  rw [ea] at hx0
  clear ea
  have h48 : (y == 48) = false := beq_eq_false_iff_ne.2 (by omega)
  clear h0 hye
  have hl : ((d : Int) == (l.length : Int)) = false := beq_eq_false_iff_ne.2 (by omega)
  have hcv : (convert 35 9 (.slice (some (ad.add p)) d (c - p))).run Tryd.prog ((w.alloc (.cells #[.int .i64 p] 3)).alloc (.cells #[.string ⟨#[]⟩, .string ⟨#[]⟩] 32)) = .ok (.string (strOfNums (l.take d))) ((w.alloc (.cells #[.int .i64 p] 3)).alloc (.cells #[.string ⟨#[]⟩, .string ⟨#[]⟩] 32)) := conv_at _ (ad.add p) d (c - p) l (by omega) (by omega) HW.out
  have hsz : (strOfNums (l.take d)).size ≤ 18 := by rw [strOfNums_size, List.length_take]; omega
  have HAT := Lib.hid hat
  clear hat
  have hg : decide ((l.length : Int) < (m : Int) + 1) = false := decide_eq_false (by omega)
  obtain ⟨z, hze⟩ : ∃ z, l[m]?.getD 0 = z := ⟨_, rfl⟩
  have HZ := Lib.hid (hze ▸ HW.out m hm)
  have hm' : (m : Int) < (l.length : Int) := by omega
  have hm0 : (0 : Int) ≤ (m : Int) := by omega
  have hz10 : (z != 10) = true := bne_iff_ne.2 (by omega)
  clear hz hze
  go_enter Tryd.func32, Tryd.ntmps32
  go_wp2
  go_loopg [8] d (fun g s8 wx => ∃ i : Nat, i + g = d ∧ s8 = .int .i64 i ∧ wx = (w.alloc (.cells #[.int .i64 p] 3)).alloc (.cells #[.string ⟨#[]⟩, .string ⟨#[]⟩] 32))
  case atStart => exact ⟨0, by omega, rfl, rfl⟩
  case round =>
    obtain ⟨i, hig, rfl, rfl⟩ := hrel
    cases gk with
    | succ g =>
      have hil : (i : Int) < (l.length : Int) := by omega
      have hi4 : (i : Int) ≤ 4 := by omega
      have hx := HW.out i (by omega)
      obtain ⟨x0, x1⟩ := HD.out i (by omega)
      have hi0 : (0 : Int) ≤ (i : Int) := by omega
      go_wp2
      go_roundg g
      case measure => omega
      case rel => exact ⟨i + 1, by omega, by go_num, rfl⟩
    | zero =>
      obtain rfl : i = d := by omega
      have hi0 : (0 : Int) ≤ (i : Int) := by omega
      obtain ⟨x, hxe⟩ : ∃ x, l[i]?.getD 0 = x := ⟨_, rfl⟩
      have hx := HW.out i hdn
      rw [hxe] at hx hb
      clear hxe
      subst hb
      have hil' : (i : Int) < (l.length : Int) := by omega
      have hi4' : (i : Int) ≤ 4 := by omega
      (go_wp2_with (first | (go_at_call 43; refine (Tryd.strconv_Atoi _ _ hsz HAT.out _).mono ?_; rintro e w3 ⟨rfl, t, hw3⟩; have hP3 := cell_bw (t := t) HP.out; rw [← hw3] at hP3; have HW3 := Lib.hid (fun j (hj : j < l.length) => cell_bw (t := t) (HW.out j hj)); rw [← hw3] at HW3; have HB3 := Lib.hid (below_bw HB2.out t); rw [← hw3] at HB3; have hz3 := cell_bw (t := t) HZ.out; rw [← hw3] at hz3; clear hw3) | (go_at_call 42; refine (fails_calls _ _ _ _ hP3).mono ?_; rintro e w' ⟨rfl, rfl⟩)); all_goals first | (exact ⟨rfl, rfl, HB3.out⟩) | (exfalso; omega))


set_option maxRecDepth 100000 in
set_option maxHeartbeats 8000000 in
theorem one_c3 (ad : Addr) (p : Nat) (l : List Int) (c d : Nat) (hcap : p + l.length ≤ c) (hL : p + l.length ≤ 140737488355328) (hpos : 1 ≤ l.length) (hd : IsDig l d) (w : World) (hlt : ad.block < w.heap.size)
    (hc : ∀ j, j < l.length → w.cell? ((ad.add p).add j) = some (.int .u8 (l[j]?.getD 0))) (h1 : 1 ≤ d) (h5 : d ≤ 4) (h0 : l[0]?.getD 0 ≠ 48) (hdn : d < l.length) (hb : l[d]?.getD 0 = 32) (m : Nat) (hat : Lib.atoi (strOfNums (l.take d)).data.toList = some ((m : Int) + 1)) (hm : m < l.length) (hz : l[m]?.getD 0 = 10) (hdm : d + 1 ≤ m) (hneg : ix61 ((l.take m).drop (d + 1)) < 0) :
    Calls Tryd.prog 32 #[.slice (some ad) (p + l.length) c, .int .i64 p] w fun e w' => e = .panicked [{ v := thrown p 90, recovered := false }] ∧ Below w.heap.size w w' := by
  have hp0 : (0 : Int) ≤ (p : Int) := by omega
  have hp1 : (p : Int) ≤ ((p + l.length : Nat) : Int) := by omega
  have hmf : ∀ (fn : Fn) (first cap : Array Value) (w : World), (Instr.makeFunc fn first cap).run Tryd.prog w = .ok (.func fn first cap) w := fun _ _ _ _ => rfl
  obtain ⟨hd5, hdl, hdig, hend⟩ := hd
  have hcw : ∀ j, j < l.length → ((w.alloc (.cells #[.int .i64 p] 3)).alloc (.cells #[.string ⟨#[]⟩, .string ⟨#[]⟩] 32)).cell? ((ad.add p).add j) = some (.int .u8 (l[j]?.getD 0)) := fun j hj => cell_alloc_l _ (cell_alloc_l _ (hc j hj))
  have HP := Lib.hid (show ((w.alloc (.cells #[.int .i64 p] 3)).alloc (.cells #[.string ⟨#[]⟩, .string ⟨#[]⟩] 32)).cell? ⟨w.heap.size, 0, none⟩ = some (.int .i64 p) from cell_alloc_l _ (Boxed.new w 3 (.int .i64 p)).cell)
  have HB2 := Lib.hid (show Below w.heap.size w ((w.alloc (.cells #[.int .i64 p] 3)).alloc (.cells #[.string ⟨#[]⟩, .string ⟨#[]⟩] 32)) from ((Below.refl _ _).alloc (Nat.le_refl _) _).alloc (by simp) _)
  have HC := Lib.hid hc
  have HW := Lib.hid hcw
  have HD := Lib.hid hdig
  have HE := Lib.hid hend
  clear hc hcw hdig hend
  have hz : ((d : Int) == 0) = false := beq_eq_false_iff_ne.2 (by omega)
  have h4 : decide ((4 : Int) < (d : Int)) = false := decide_eq_false (by omega)
  obtain ⟨y, hye⟩ : ∃ y, l[0]?.getD 0 = y := ⟨_, rfl⟩
  have hx0 := HW.out 0 (by omega)
  rw [hye] at hx0
  have ea : (ad.add p).add 0 = ad.add p := by unfold Addr.add; split <;> (try split) <;> simp_all
  rw [ea] at hx0
  clear ea
  have h48 : (y == 48) = false := beq_eq_false_iff_ne.2 (by omega)
  clear h0 hye
  have hl : ((d : Int) == (l.length : Int)) = false := beq_eq_false_iff_ne.2 (by omega)
  have hcv : (convert 35 9 (.slice (some (ad.add p)) d (c - p))).run Tryd.prog ((w.alloc (.cells #[.int .i64 p] 3)).alloc (.cells #[.string ⟨#[]⟩, .string ⟨#[]⟩] 32)) = .ok (.string (strOfNums (l.take d))) ((w.alloc (.cells #[.int .i64 p] 3)).alloc (.cells #[.string ⟨#[]⟩, .string ⟨#[]⟩] 32)) := conv_at _ (ad.add p) d (c - p) l (by omega) (by omega) HW.out
  have hsz : (strOfNums (l.take d)).size ≤ 18 := by rw [strOfNums_size, List.length_take]; omega
  have HAT := Lib.hid hat
  clear hat
  have hg : decide ((l.length : Int) < (m : Int) + 1) = false := decide_eq_false (by omega)
  obtain ⟨z, hze⟩ : ∃ z, l[m]?.getD 0 = z := ⟨_, rfl⟩
  have HZ := Lib.hid (hze ▸ HW.out m hm)
  have hm' : (m : Int) < (l.length : Int) := by omega
  have hm0 : (0 : Int) ≤ (m : Int) := by omega
  have hz10 : (z != 10) = false := bne_eq_false_iff_eq.2 (by omega)
  have hdm' : (d : Int) + 1 ≤ (m : Int) := by omega
  have hmc : (m : Int) ≤ ((c - p : Nat) : Int) := by omega
  clear hz hze
  go_enter Tryd.func32, Tryd.ntmps32
  go_wp2
  go_loopg [8] d (fun g s8 wx => ∃ i : Nat, i + g = d ∧ s8 = .int .i64 i ∧ wx = (w.alloc (.cells #[.int .i64 p] 3)).alloc (.cells #[.string ⟨#[]⟩, .string ⟨#[]⟩] 32))
  case atStart => exact ⟨0, by omega, rfl, rfl⟩
  case round =>
    obtain ⟨i, hig, rfl, rfl⟩ := hrel
    cases gk with
    | succ g =>
      have hil : (i : Int) < (l.length : Int) := by omega
      have hi4 : (i : Int) ≤ 4 := by omega
      have hx := HW.out i (by omega)
      obtain ⟨x0, x1⟩ := HD.out i (by omega)
      have hi0 : (0 : Int) ≤ (i : Int) := by omega
      go_wp2
      go_roundg g
      case measure => omega
      case rel => exact ⟨i + 1, by omega, by go_num, rfl⟩
    | zero =>
      obtain rfl : i = d := by omega
      have hi0 : (0 : Int) ≤ (i : Int) := by omega
      obtain ⟨x, hxe⟩ : ∃ x, l[i]?.getD 0 = x := ⟨_, rfl⟩
      have hx := HW.out i hdn
      rw [hxe] at hx hb
      clear hxe
      subst hb
      have hil' : (i : Int) < (l.length : Int) := by omega
      have hi4' : (i : Int) ≤ 4 := by omega
      (go_wp2_with (first | (go_at_call 43; refine (Tryd.strconv_Atoi _ _ hsz HAT.out _).mono ?_; rintro e w3 ⟨rfl, t, hw3⟩; have hP3 := cell_bw (t := t) HP.out; rw [← hw3] at hP3; have HW3 := Lib.hid (fun j (hj : j < l.length) => cell_bw (t := t) (HW.out j hj)); rw [← hw3] at HW3; have HB3 := Lib.hid (below_bw HB2.out t); rw [← hw3] at HB3; have hz3 := cell_bw (t := t) HZ.out; rw [← hw3] at hz3; clear hw3) | (go_at_call 44; refine (cut_calls _ _ _ _ ((l.take m).drop (i + 1)) _ (mid_len hm) (by omega) (by omega) (mid_cell HW3.out hm _) (Boxed.new _ _ _).cell).mono ?_; rintro e w4 ⟨rfl, q, hw4⟩; rw [cutV_neg hneg]; have hP5 := drewN_cell q (cell_alloc_l (.cells #[.int .u8 61] 5) hP3); rw [← hw4] at hP5; have HB5 := Lib.hid (below_d HB3.out (.cells #[.int .u8 61] 5) q); rw [← hw4] at HB5; clear hw4) | (go_at_call 42; refine (fails_calls _ _ _ _ hP5).mono ?_; rintro e w' ⟨rfl, rfl⟩)); all_goals first | (exact ⟨rfl, rfl, HB5.out⟩) | (exfalso; omega))


set_option maxRecDepth 100000 in
set_option maxHeartbeats 8000000 in
theorem one_c4 (ad : Addr) (p : Nat) (l : List Int) (c d : Nat) (hcap : p + l.length ≤ c) (hL : p + l.length ≤ 140737488355328) (hpos : 1 ≤ l.length) (hd : IsDig l d) (w : World) (hlt : ad.block < w.heap.size)
    (hc : ∀ j, j < l.length → w.cell? ((ad.add p).add j) = some (.int .u8 (l[j]?.getD 0))) (h1 : 1 ≤ d) (h5 : d ≤ 4) (h0 : l[0]?.getD 0 ≠ 48) (hdn : d < l.length) (hb : l[d]?.getD 0 = 32) (m : Nat) (hat : Lib.atoi (strOfNums (l.take d)).data.toList = some ((m : Int) + 1)) (hm : m < l.length) (hz : l[m]?.getD 0 = 10) (hdm : d + 1 ≤ m) (g : Nat) (hix : ix61 ((l.take m).drop (d + 1)) = (g : Int)) (hgl : g < m - (d + 1)) (hfe : fitsErr (keyOf l d m g) (valOf l d m g) ≠ 0) :
    Calls Tryd.prog 32 #[.slice (some ad) (p + l.length) c, .int .i64 p] w fun e w' => e = .panicked [{ v := thrown p (fitsErr (keyOf l d m g) (valOf l d m g)), recovered := false }] ∧ Below w.heap.size w w' := by
  have hp0 : (0 : Int) ≤ (p : Int) := by omega
  have hp1 : (p : Int) ≤ ((p + l.length : Nat) : Int) := by omega
  have hmf : ∀ (fn : Fn) (first cap : Array Value) (w : World), (Instr.makeFunc fn first cap).run Tryd.prog w = .ok (.func fn first cap) w := fun _ _ _ _ => rfl
  obtain ⟨hd5, hdl, hdig, hend⟩ := hd
  have hcw : ∀ j, j < l.length → ((w.alloc (.cells #[.int .i64 p] 3)).alloc (.cells #[.string ⟨#[]⟩, .string ⟨#[]⟩] 32)).cell? ((ad.add p).add j) = some (.int .u8 (l[j]?.getD 0)) := fun j hj => cell_alloc_l _ (cell_alloc_l _ (hc j hj))
  have HP := Lib.hid (show ((w.alloc (.cells #[.int .i64 p] 3)).alloc (.cells #[.string ⟨#[]⟩, .string ⟨#[]⟩] 32)).cell? ⟨w.heap.size, 0, none⟩ = some (.int .i64 p) from cell_alloc_l _ (Boxed.new w 3 (.int .i64 p)).cell)
  have HB2 := Lib.hid (show Below w.heap.size w ((w.alloc (.cells #[.int .i64 p] 3)).alloc (.cells #[.string ⟨#[]⟩, .string ⟨#[]⟩] 32)) from ((Below.refl _ _).alloc (Nat.le_refl _) _).alloc (by simp) _)
  have HC := Lib.hid hc
  have HW := Lib.hid hcw
  have HD := Lib.hid hdig
  have HE := Lib.hid hend
  clear hc hcw hdig hend
  have hz : ((d : Int) == 0) = false := beq_eq_false_iff_ne.2 (by omega)
  have h4 : decide ((4 : Int) < (d : Int)) = false := decide_eq_false (by omega)
  obtain ⟨y, hye⟩ : ∃ y, l[0]?.getD 0 = y := ⟨_, rfl⟩
  have hx0 := HW.out 0 (by omega)
  rw [hye] at hx0
  have ea : (ad.add p).add 0 = ad.add p := by unfold Addr.add; split <;> (try split) <;> simp_all
  rw [ea] at hx0
  clear ea
  have h48 : (y == 48) = false := beq_eq_false_iff_ne.2 (by omega)
  clear h0 hye
  have hl : ((d : Int) == (l.length : Int)) = false := beq_eq_false_iff_ne.2 (by omega)
  have hcv : (convert 35 9 (.slice (some (ad.add p)) d (c - p))).run Tryd.prog ((w.alloc (.cells #[.int .i64 p] 3)).alloc (.cells #[.string ⟨#[]⟩, .string ⟨#[]⟩] 32)) = .ok (.string (strOfNums (l.take d))) ((w.alloc (.cells #[.int .i64 p] 3)).alloc (.cells #[.string ⟨#[]⟩, .string ⟨#[]⟩] 32)) := conv_at _ (ad.add p) d (c - p) l (by omega) (by omega) HW.out
  have hsz : (strOfNums (l.take d)).size ≤ 18 := by rw [strOfNums_size, List.length_take]; omega
  have HAT := Lib.hid hat
  clear hat
  have hg : decide ((l.length : Int) < (m : Int) + 1) = false := decide_eq_false (by omega)
  obtain ⟨z, hze⟩ : ∃ z, l[m]?.getD 0 = z := ⟨_, rfl⟩
  have HZ := Lib.hid (hze ▸ HW.out m hm)
  have hm' : (m : Int) < (l.length : Int) := by omega
  have hm0 : (0 : Int) ≤ (m : Int) := by omega
  have hz10 : (z != 10) = false := bne_eq_false_iff_eq.2 (by omega)
  have hdm' : (d : Int) + 1 ≤ (m : Int) := by omega
  have hmc : (m : Int) ≤ ((c - p : Nat) : Int) := by omega
  clear hz hze
  obtain ⟨kf, hkf⟩ := Ev.rounds (fits_f (keyOf l d m g) (valOf l d m g))
  obtain ⟨fe, hfx⟩ : ∃ fe, fitsErr (keyOf l d m g) (valOf l d m g) = fe := ⟨_, rfl⟩
  rw [hfx] at hkf hfe ⊢
  have HF := Lib.hid hkf
  have hfe' : (fe != 0) = true := bne_iff_ne.2 hfe
  clear hkf hfe hfx
  go_enter Tryd.func32, Tryd.ntmps32
  go_wp2
  go_loopg [8] d (fun g s8 wx => ∃ i : Nat, i + g = d ∧ s8 = .int .i64 i ∧ wx = (w.alloc (.cells #[.int .i64 p] 3)).alloc (.cells #[.string ⟨#[]⟩, .string ⟨#[]⟩] 32))
  case atStart => exact ⟨0, by omega, rfl, rfl⟩
  case round =>
    obtain ⟨i, hig, rfl, rfl⟩ := hrel
    cases gk with
    | succ g =>
      have hil : (i : Int) < (l.length : Int) := by omega
      have hi4 : (i : Int) ≤ 4 := by omega
      have hx := HW.out i (by omega)
      obtain ⟨x0, x1⟩ := HD.out i (by omega)
      have hi0 : (0 : Int) ≤ (i : Int) := by omega
      go_wp2
      go_roundg g
      case measure => omega
      case rel => exact ⟨i + 1, by omega, by go_num, rfl⟩
    | zero =>
      obtain rfl : i = d := by omega
      have hi0 : (0 : Int) ≤ (i : Int) := by omega
      obtain ⟨x, hxe⟩ : ∃ x, l[i]?.getD 0 = x := ⟨_, rfl⟩
      have hx := HW.out i hdn
      rw [hxe] at hx hb
      clear hxe
      subst hb
      have hil' : (i : Int) < (l.length : Int) := by omega
      have hi4' : (i : Int) ≤ 4 := by omega
      (go_wp2_with (first | (go_at_call 43; refine (Tryd.strconv_Atoi _ _ hsz HAT.out _).mono ?_; rintro e w3 ⟨rfl, t, hw3⟩; have hP3 := cell_bw (t := t) HP.out; rw [← hw3] at hP3; have HW3 := Lib.hid (fun j (hj : j < l.length) => cell_bw (t := t) (HW.out j hj)); rw [← hw3] at HW3; have HB3 := Lib.hid (below_bw HB2.out t); rw [← hw3] at HB3; have hz3 := cell_bw (t := t) HZ.out; rw [← hw3] at hz3; clear hw3) | (go_at_call 44; refine (cut_calls _ _ _ _ ((l.take m).drop (i + 1)) _ (mid_len hm) (by omega) (by omega) (mid_cell HW3.out hm _) (Boxed.new _ _ _).cell).mono ?_; rintro e w4 ⟨rfl, q, hw4⟩; rw [cutV_pos g hix (by omega)]; have hP5 := drewN_cell q (cell_alloc_l (.cells #[.int .u8 61] 5) hP3); rw [← hw4] at hP5; have HB5 := Lib.hid (below_d HB3.out (.cells #[.int .u8 61] 5) q); rw [← hw4] at HB5; have hK5 := key_conv (c := c - p - (i + 1)) hm (by omega) hgl (fun j hj => drewN_cell q (mid_cell HW3.out hm (.cells #[.int .u8 61] 5) j hj)); have hV5 := val_conv (c := c - p - (i + 1) - (g + 1)) hm (by omega) hgl (fun j hj => drewN_cell q (mid_cell HW3.out hm (.cells #[.int .u8 61] 5) j hj)); rw [← hw4] at hK5 hV5; clear hw4) | (go_at_call 29; refine (I.pax_fits.calls kf _ _ fe _ HF.out).mono ?_; rintro e w7 ⟨rfl, hb7⟩; have hP6 := cell_alloc_l (.cells #[.string (keyOf l i m g), .string (valOf l i m g)] 32) hP5; have hP7 := (hb7.cell (World.block_lt_of_cell? _ _ hP6)).trans hP6; have HB7 := Lib.hid (below_ad HB5.out hb7)) | (go_at_call 42; refine (fails_calls _ _ _ _ hP7).mono ?_; rintro e w' ⟨rfl, rfl⟩)); all_goals first | (exact ⟨rfl, rfl, HB7.out⟩) | (exfalso; omega))


set_option maxRecDepth 100000 in
set_option maxHeartbeats 8000000 in
theorem one_c5 (ad : Addr) (p : Nat) (l : List Int) (c d : Nat) (hcap : p + l.length ≤ c) (hL : p + l.length ≤ 140737488355328) (hpos : 1 ≤ l.length) (hd : IsDig l d) (w : World) (hlt : ad.block < w.heap.size)
    (hc : ∀ j, j < l.length → w.cell? ((ad.add p).add j) = some (.int .u8 (l[j]?.getD 0))) (h1 : 1 ≤ d) (h5 : d ≤ 4) (h0 : l[0]?.getD 0 ≠ 48) (hdn : d < l.length) (hb : l[d]?.getD 0 = 32) (m : Nat) (hat : Lib.atoi (strOfNums (l.take d)).data.toList = some ((m : Int) + 1)) (hm : m < l.length) (hz : l[m]?.getD 0 = 10) (hdm : d + 1 ≤ m) (g : Nat) (hix : ix61 ((l.take m).drop (d + 1)) = (g : Int)) (hgl : g < m - (d + 1)) (hG : GOK w) (hfe : fitsErr (keyOf l d m g) (valOf l d m g) = 0) (hse : recSize (keyOf l d m g) (valOf l d m g) ≠ m + 1) :
    Calls Tryd.prog 32 #[.slice (some ad) (p + l.length) c, .int .i64 p] w fun e w' => e = .panicked [{ v := thrown p 90, recovered := false }] ∧ Below w.heap.size w w' := by
  have hp0 : (0 : Int) ≤ (p : Int) := by omega
  have hp1 : (p : Int) ≤ ((p + l.length : Nat) : Int) := by omega
  have hmf : ∀ (fn : Fn) (first cap : Array Value) (w : World), (Instr.makeFunc fn first cap).run Tryd.prog w = .ok (.func fn first cap) w := fun _ _ _ _ => rfl
  obtain ⟨hd5, hdl, hdig, hend⟩ := hd
  have hcw : ∀ j, j < l.length → ((w.alloc (.cells #[.int .i64 p] 3)).alloc (.cells #[.string ⟨#[]⟩, .string ⟨#[]⟩] 32)).cell? ((ad.add p).add j) = some (.int .u8 (l[j]?.getD 0)) := fun j hj => cell_alloc_l _ (cell_alloc_l _ (hc j hj))
  have HP := Lib.hid (show ((w.alloc (.cells #[.int .i64 p] 3)).alloc (.cells #[.string ⟨#[]⟩, .string ⟨#[]⟩] 32)).cell? ⟨w.heap.size, 0, none⟩ = some (.int .i64 p) from cell_alloc_l _ (Boxed.new w 3 (.int .i64 p)).cell)
  have HB2 := Lib.hid (show Below w.heap.size w ((w.alloc (.cells #[.int .i64 p] 3)).alloc (.cells #[.string ⟨#[]⟩, .string ⟨#[]⟩] 32)) from ((Below.refl _ _).alloc (Nat.le_refl _) _).alloc (by simp) _)
  have HC := Lib.hid hc
  have HW := Lib.hid hcw
  have HD := Lib.hid hdig
  have HE := Lib.hid hend
  clear hc hcw hdig hend
  have hz : ((d : Int) == 0) = false := beq_eq_false_iff_ne.2 (by omega)
  have h4 : decide ((4 : Int) < (d : Int)) = false := decide_eq_false (by omega)
  obtain ⟨y, hye⟩ : ∃ y, l[0]?.getD 0 = y := ⟨_, rfl⟩
  have hx0 := HW.out 0 (by omega)
  rw [hye] at hx0
  have ea : (ad.add p).add 0 = ad.add p := by unfold Addr.add; split <;> (try split) <;> simp_all
  rw [ea] at hx0
  clear ea
  have h48 : (y == 48) = false := beq_eq_false_iff_ne.2 (by omega)
  clear h0 hye
  have hl : ((d : Int) == (l.length : Int)) = false := beq_eq_false_iff_ne.2 (by omega)
  have hcv : (convert 35 9 (.slice (some (ad.add p)) d (c - p))).run Tryd.prog ((w.alloc (.cells #[.int .i64 p] 3)).alloc (.cells #[.string ⟨#[]⟩, .string ⟨#[]⟩] 32)) = .ok (.string (strOfNums (l.take d))) ((w.alloc (.cells #[.int .i64 p] 3)).alloc (.cells #[.string ⟨#[]⟩, .string ⟨#[]⟩] 32)) := conv_at _ (ad.add p) d (c - p) l (by omega) (by omega) HW.out
  have hsz : (strOfNums (l.take d)).size ≤ 18 := by rw [strOfNums_size, List.length_take]; omega
  have HAT := Lib.hid hat
  clear hat
  have hg : decide ((l.length : Int) < (m : Int) + 1) = false := decide_eq_false (by omega)
  obtain ⟨z, hze⟩ : ∃ z, l[m]?.getD 0 = z := ⟨_, rfl⟩
  have HZ := Lib.hid (hze ▸ HW.out m hm)
  have hm' : (m : Int) < (l.length : Int) := by omega
  have hm0 : (0 : Int) ≤ (m : Int) := by omega
  have hz10 : (z != 10) = false := bne_eq_false_iff_eq.2 (by omega)
  have hdm' : (d : Int) + 1 ≤ (m : Int) := by omega
  have hmc : (m : Int) ≤ ((c - p : Nat) : Int) := by omega
  clear hz hze
  obtain ⟨kf, hkf⟩ := Ev.rounds (fits_f (keyOf l d m g) (valOf l d m g))
  rw [hfe] at hkf
  have HF := Lib.hid hkf
  have hrs := rest_small hfe
  obtain ⟨ks, hks⟩ := Ev.rounds (size_f (keyOf l d m g) (valOf l d m g) (Nat.lt_of_le_of_lt hrs (by decide)))
  obtain ⟨sz, hsx⟩ : ∃ sz : Nat, recSize (keyOf l d m g) (valOf l d m g) = sz := ⟨_, rfl⟩
  rw [hsx] at hks hse
  have HS := Lib.hid hks
  have HG := Lib.hid hG
  have hse' : ((sz : Int) != (m : Int) + 1) = true := bne_iff_ne.2 (by omega)
  clear hse hsx hks hkf hfe hG hrs
  go_enter Tryd.func32, Tryd.ntmps32
  go_wp2
  go_loopg [8] d (fun g s8 wx => ∃ i : Nat, i + g = d ∧ s8 = .int .i64 i ∧ wx = (w.alloc (.cells #[.int .i64 p] 3)).alloc (.cells #[.string ⟨#[]⟩, .string ⟨#[]⟩] 32))
  case atStart => exact ⟨0, by omega, rfl, rfl⟩
  case round =>
    obtain ⟨i, hig, rfl, rfl⟩ := hrel
    cases gk with
    | succ g =>
      have hil : (i : Int) < (l.length : Int) := by omega
      have hi4 : (i : Int) ≤ 4 := by omega
      have hx := HW.out i (by omega)
      obtain ⟨x0, x1⟩ := HD.out i (by omega)
      have hi0 : (0 : Int) ≤ (i : Int) := by omega
      go_wp2
      go_roundg g
      case measure => omega
      case rel => exact ⟨i + 1, by omega, by go_num, rfl⟩
    | zero =>
      obtain rfl : i = d := by omega
      have hi0 : (0 : Int) ≤ (i : Int) := by omega
      obtain ⟨x, hxe⟩ : ∃ x, l[i]?.getD 0 = x := ⟨_, rfl⟩
      have hx := HW.out i hdn
      rw [hxe] at hx hb
      clear hxe
      subst hb
      have hil' : (i : Int) < (l.length : Int) := by omega
      have hi4' : (i : Int) ≤ 4 := by omega
      (go_wp2_with (first | (go_at_call 43; refine (Tryd.strconv_Atoi _ _ hsz HAT.out _).mono ?_; rintro e w3 ⟨rfl, t, hw3⟩; have hP3 := cell_bw (t := t) HP.out; rw [← hw3] at hP3; have HW3 := Lib.hid (fun j (hj : j < l.length) => cell_bw (t := t) (HW.out j hj)); rw [← hw3] at HW3; have HB3 := Lib.hid (below_bw HB2.out t); rw [← hw3] at HB3; have hz3 := cell_bw (t := t) HZ.out; rw [← hw3] at hz3; clear hw3) | (go_at_call 44; refine (cut_calls _ _ _ _ ((l.take m).drop (i + 1)) _ (mid_len hm) (by omega) (by omega) (mid_cell HW3.out hm _) (Boxed.new _ _ _).cell).mono ?_; rintro e w4 ⟨rfl, q, hw4⟩; rw [cutV_pos g hix (by omega)]; have hP5 := drewN_cell q (cell_alloc_l (.cells #[.int .u8 61] 5) hP3); rw [← hw4] at hP5; have HB5 := Lib.hid (below_d HB3.out (.cells #[.int .u8 61] 5) q); rw [← hw4] at HB5; have hK5 := key_conv (c := c - p - (i + 1)) hm (by omega) hgl (fun j hj => drewN_cell q (mid_cell HW3.out hm (.cells #[.int .u8 61] 5) j hj)); have hV5 := val_conv (c := c - p - (i + 1) - (g + 1)) hm (by omega) hgl (fun j hj => drewN_cell q (mid_cell HW3.out hm (.cells #[.int .u8 61] 5) j hj)); rw [← hw4] at hK5 hV5; clear hw4) | (go_at_call 29; refine (I.pax_fits.calls kf _ _ 0 _ HF.out).mono ?_; rintro e w7 ⟨rfl, hb7⟩; have hP6 := cell_alloc_l (.cells #[.string (keyOf l i m g), .string (valOf l i m g)] 32) hP5; have hP7 := (hb7.cell (World.block_lt_of_cell? _ _ hP6)).trans hP6; have HB7 := Lib.hid (below_ad HB5.out hb7); obtain ⟨hq0, hq1⟩ := two_cells (pair_kept hb7)) | (go_at_call 14; refine (I.pax_Size.calls ks _ _ (sz : Int) w7 (HG.out.below HB7.out) HS.out).mono ?_; rintro e w8 ⟨rfl, hb8⟩; have hP8 := (hb8.cell (World.block_lt_of_cell? _ _ hP7)).trans hP7; have HB8 := Lib.hid (HB7.out.trans (hb8.mono HB7.out.size))) | (go_at_call 42; refine (fails_calls _ _ _ _ hP8).mono ?_; rintro e w' ⟨rfl, rfl⟩)); all_goals first | (exact ⟨rfl, rfl, HB8.out⟩) | (exfalso; omega))


set_option maxRecDepth 100000 in
set_option maxHeartbeats 8000000 in
theorem one_ok (ad : Addr) (p : Nat) (l : List Int) (c d : Nat) (hcap : p + l.length ≤ c) (hL : p + l.length ≤ 140737488355328) (hpos : 1 ≤ l.length) (hd : IsDig l d) (w : World) (hlt : ad.block < w.heap.size)
    (hc : ∀ j, j < l.length → w.cell? ((ad.add p).add j) = some (.int .u8 (l[j]?.getD 0))) (h1 : 1 ≤ d) (h5 : d ≤ 4) (h0 : l[0]?.getD 0 ≠ 48) (hdn : d < l.length) (hb : l[d]?.getD 0 = 32) (m : Nat) (hat : Lib.atoi (strOfNums (l.take d)).data.toList = some ((m : Int) + 1)) (hm : m < l.length) (hz : l[m]?.getD 0 = 10) (hdm : d + 1 ≤ m) (g : Nat) (hix : ix61 ((l.take m).drop (d + 1)) = (g : Int)) (hgl : g < m - (d + 1)) (hG : GOK w) (hfe : fitsErr (keyOf l d m g) (valOf l d m g) = 0) (hse : recSize (keyOf l d m g) (valOf l d m g) = m + 1) :
    Calls Tryd.prog 32 #[.slice (some ad) (p + l.length) c, .int .i64 p] w fun e w' => e = .returned (.tuple #[.agg #[.string (keyOf l d m g), .string (valOf l d m g)], .int .i64 ((p : Int) + ((m : Int) + 1))]) ∧ Below w.heap.size w w' := by
  have hp0 : (0 : Int) ≤ (p : Int) := by omega
  have hp1 : (p : Int) ≤ ((p + l.length : Nat) : Int) := by omega
  have hmf : ∀ (fn : Fn) (first cap : Array Value) (w : World), (Instr.makeFunc fn first cap).run Tryd.prog w = .ok (.func fn first cap) w := fun _ _ _ _ => rfl
  obtain ⟨hd5, hdl, hdig, hend⟩ := hd
  have hcw : ∀ j, j < l.length → ((w.alloc (.cells #[.int .i64 p] 3)).alloc (.cells #[.string ⟨#[]⟩, .string ⟨#[]⟩] 32)).cell? ((ad.add p).add j) = some (.int .u8 (l[j]?.getD 0)) := fun j hj => cell_alloc_l _ (cell_alloc_l _ (hc j hj))
  have HP := Lib.hid (show ((w.alloc (.cells #[.int .i64 p] 3)).alloc (.cells #[.string ⟨#[]⟩, .string ⟨#[]⟩] 32)).cell? ⟨w.heap.size, 0, none⟩ = some (.int .i64 p) from cell_alloc_l _ (Boxed.new w 3 (.int .i64 p)).cell)
  have HB2 := Lib.hid (show Below w.heap.size w ((w.alloc (.cells #[.int .i64 p] 3)).alloc (.cells #[.string ⟨#[]⟩, .string ⟨#[]⟩] 32)) from ((Below.refl _ _).alloc (Nat.le_refl _) _).alloc (by simp) _)
  have HC := Lib.hid hc
  have HW := Lib.hid hcw
  have HD := Lib.hid hdig
  have HE := Lib.hid hend
  clear hc hcw hdig hend
  have hz : ((d : Int) == 0) = false := beq_eq_false_iff_ne.2 (by omega)
  have h4 : decide ((4 : Int) < (d : Int)) = false := decide_eq_false (by omega)
  obtain ⟨y, hye⟩ : ∃ y, l[0]?.getD 0 = y := ⟨_, rfl⟩
  have hx0 := HW.out 0 (by omega)
  rw [hye] at hx0
  have ea : (ad.add p).add 0 = ad.add p := by unfold Addr.add; split <;> (try split) <;> simp_all
  rw [ea] at hx0
  clear ea
  have h48 : (y == 48) = false := beq_eq_false_iff_ne.2 (by omega)
  clear h0 hye
  have hl : ((d : Int) == (l.length : Int)) = false := beq_eq_false_iff_ne.2 (by omega)
  have hcv : (convert 35 9 (.slice (some (ad.add p)) d (c - p))).run Tryd.prog ((w.alloc (.cells #[.int .i64 p] 3)).alloc (.cells #[.string ⟨#[]⟩, .string ⟨#[]⟩] 32)) = .ok (.string (strOfNums (l.take d))) ((w.alloc (.cells #[.int .i64 p] 3)).alloc (.cells #[.string ⟨#[]⟩, .string ⟨#[]⟩] 32)) := conv_at _ (ad.add p) d (c - p) l (by omega) (by omega) HW.out
  have hsz : (strOfNums (l.take d)).size ≤ 18 := by rw [strOfNums_size, List.length_take]; omega
  have HAT := Lib.hid hat
  clear hat
  have hg : decide ((l.length : Int) < (m : Int) + 1) = false := decide_eq_false (by omega)
  obtain ⟨z, hze⟩ : ∃ z, l[m]?.getD 0 = z := ⟨_, rfl⟩
  have HZ := Lib.hid (hze ▸ HW.out m hm)
  have hm' : (m : Int) < (l.length : Int) := by omega
  have hm0 : (0 : Int) ≤ (m : Int) := by omega
  have hz10 : (z != 10) = false := bne_eq_false_iff_eq.2 (by omega)
  have hdm' : (d : Int) + 1 ≤ (m : Int) := by omega
  have hmc : (m : Int) ≤ ((c - p : Nat) : Int) := by omega
  clear hz hze
  obtain ⟨kf, hkf⟩ := Ev.rounds (fits_f (keyOf l d m g) (valOf l d m g))
  rw [hfe] at hkf
  have HF := Lib.hid hkf
  have hrs := rest_small hfe
  obtain ⟨ks, hks⟩ := Ev.rounds (size_f (keyOf l d m g) (valOf l d m g) (Nat.lt_of_le_of_lt hrs (by decide)))
  obtain ⟨sz, hsx⟩ : ∃ sz : Nat, recSize (keyOf l d m g) (valOf l d m g) = sz := ⟨_, rfl⟩
  rw [hsx] at hks hse
  have HS := Lib.hid hks
  have HG := Lib.hid hG
  have HR2 : ((w.alloc (.cells #[.int .i64 p] 3)).alloc (.cells #[.string ⟨#[]⟩, .string ⟨#[]⟩] 32)).heap[w.heap.size + 1]? = some (.cells #[.string ⟨#[]⟩, .string ⟨#[]⟩] 32 (0, 0)) := by have := heap_alloc_new (w.alloc (.cells #[.int .i64 p] 3)) (.cells #[.string ⟨#[]⟩, .string ⟨#[]⟩] 32); rwa [World.size_alloc] at this
  have HR2 := Lib.hid HR2
  have hse' : ((sz : Int) != (m : Int) + 1) = false := bne_eq_false_iff_eq.2 (by omega)
  clear hse hsx hks hkf hfe hG hrs
  go_enter Tryd.func32, Tryd.ntmps32
  go_wp2
  go_loopg [8] d (fun g s8 wx => ∃ i : Nat, i + g = d ∧ s8 = .int .i64 i ∧ wx = (w.alloc (.cells #[.int .i64 p] 3)).alloc (.cells #[.string ⟨#[]⟩, .string ⟨#[]⟩] 32))
  case atStart => exact ⟨0, by omega, rfl, rfl⟩
  case round =>
    obtain ⟨i, hig, rfl, rfl⟩ := hrel
    cases gk with
    | succ g =>
      have hil : (i : Int) < (l.length : Int) := by omega
      have hi4 : (i : Int) ≤ 4 := by omega
      have hx := HW.out i (by omega)
      obtain ⟨x0, x1⟩ := HD.out i (by omega)
      have hi0 : (0 : Int) ≤ (i : Int) := by omega
      go_wp2
      go_roundg g
      case measure => omega
      case rel => exact ⟨i + 1, by omega, by go_num, rfl⟩
    | zero =>
      obtain rfl : i = d := by omega
      have hi0 : (0 : Int) ≤ (i : Int) := by omega
      obtain ⟨x, hxe⟩ : ∃ x, l[i]?.getD 0 = x := ⟨_, rfl⟩
      have hx := HW.out i hdn
      rw [hxe] at hx hb
      clear hxe
      subst hb
      have hil' : (i : Int) < (l.length : Int) := by omega
      have hi4' : (i : Int) ≤ 4 := by omega
      (go_wp2_with (first | (go_at_call 43; refine (Tryd.strconv_Atoi _ _ hsz HAT.out _).mono ?_; rintro e w3 ⟨rfl, t, hw3⟩; have hP3 := cell_bw (t := t) HP.out; rw [← hw3] at hP3; have HW3 := Lib.hid (fun j (hj : j < l.length) => cell_bw (t := t) (HW.out j hj)); rw [← hw3] at HW3; have HR3 := Lib.hid (blk_b (w := w) HR2.out (Lib.bytesWorld_below _ 5 t)); rw [← hw3] at HR3; have HB3 := Lib.hid (below_bw HB2.out t); rw [← hw3] at HB3; have hz3 := cell_bw (t := t) HZ.out; rw [← hw3] at hz3; clear hw3) | (go_at_call 44; refine (cut_calls _ _ _ _ ((l.take m).drop (i + 1)) _ (mid_len hm) (by omega) (by omega) (mid_cell HW3.out hm _) (Boxed.new _ _ _).cell).mono ?_; rintro e w4 ⟨rfl, q, hw4⟩; rw [cutV_pos g hix (by omega)]; have hP5 := drewN_cell q (cell_alloc_l (.cells #[.int .u8 61] 5) hP3); rw [← hw4] at hP5; have HR5 := Lib.hid (blk_b (w := w) HR3.out (((Below.refl _ _).alloc (Nat.le_refl _) (.cells #[.int .u8 61] 5)).trans ⟨rfl, rfl, rfl, Nat.le_refl _, fun _ _ => rfl⟩ : Below w3.heap.size w3 ((w3.alloc (.cells #[.int .u8 61] 5)).drewN q))); rw [← hw4] at HR5; have HB5 := Lib.hid (below_d HB3.out (.cells #[.int .u8 61] 5) q); rw [← hw4] at HB5; have hK5 := key_conv (c := c - p - (i + 1)) hm (by omega) hgl (fun j hj => drewN_cell q (mid_cell HW3.out hm (.cells #[.int .u8 61] 5) j hj)); have hV5 := val_conv (c := c - p - (i + 1) - (g + 1)) hm (by omega) hgl (fun j hj => drewN_cell q (mid_cell HW3.out hm (.cells #[.int .u8 61] 5) j hj)); rw [← hw4] at hK5 hV5; clear hw4) | (go_at_call 29; refine (I.pax_fits.calls kf _ _ 0 _ HF.out).mono ?_; rintro e w7 ⟨rfl, hb7⟩; have hP6 := cell_alloc_l (.cells #[.string (keyOf l i m g), .string (valOf l i m g)] 32) hP5; have hP7 := (hb7.cell (World.block_lt_of_cell? _ _ hP6)).trans hP6; have HB7 := Lib.hid (below_ad HB5.out hb7); obtain ⟨hq0, hq1⟩ := two_cells (pair_kept hb7); have HR7 := Lib.hid (blk_ad HR5.out hb7); have HX7 := Lib.hid (pair_kept hb7)) | (go_at_call 14; refine (I.pax_Size.calls ks _ _ (sz : Int) w7 (HG.out.below HB7.out) HS.out).mono ?_; rintro e w8 ⟨rfl, hb8⟩; have hP8 := (hb8.cell (World.block_lt_of_cell? _ _ hP7)).trans hP7; have HB8 := Lib.hid (HB7.out.trans (hb8.mono HB7.out.size)); have HR8 := two_cells (blk_b (w := w) HR7.out hb8); have HF8 := blk_b (w := w) HR7.out hb8; obtain ⟨hr0, hr1⟩ := HR8; obtain ⟨hs0, hs1⟩ := two_cells (blk_b (w := w) HX7.out hb8))); have hfz0 : w8.frozen? ⟨w.heap.size + 1, 0, none⟩ = false := (by simp [World.frozen?, HF8]); have hfz1 : w8.frozen? ⟨w.heap.size + 1, 1, none⟩ = false := (by simp [World.frozen?, HF8]); go_region; go_wp2; obtain ⟨hz0, hz1⟩ := two_set (u0 := .string (keyOf l i m g)) (u1 := .string (valOf l i m g)) HF8; exact bodyPost_ret (v := .tuple #[.agg #[.string (keyOf l i m g), .string (valOf l i m g)], .int .i64 ((p : Int) + ((m : Int) + 1))]) (by simp [results, Tryd.f32, go_sem, hz0, hz1]) rfl ⟨rfl, ((HB8.out.setCell (p := ⟨w.heap.size + 1, 0, none⟩) (by simp) _).setCell (p := ⟨w.heap.size + 1, 1, none⟩) (by simp) _).trans ⟨rfl, rfl, rfl, Nat.le_refl _, fun _ _ => rfl⟩⟩)

end Go.Proofs.YtkkffccdkbijkaaDoor.H
