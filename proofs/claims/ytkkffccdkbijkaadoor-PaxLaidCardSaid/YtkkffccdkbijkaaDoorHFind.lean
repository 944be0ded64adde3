/- pax.Find: what its call does. -/
import Derived.Test.YtkkffccdkbijkaaDoorHGet
import Derived.Outline
namespace Go.Proofs.YtkkffccdkbijkaaDoor.H
open Go.RowKit Go.Proofs.YtkkffccdkbijkaaDoor.I Go.Proofs.YtkkffccdkbijkaaDoorW.PrintWords Go.Proofs.YtkkffccdkbijkaaDoorW.PrintLast Go.Proofs.YtkkffccdkbijkaaDoorW.PrintMore
set_option linter.unusedVariables false
set_option linter.unusedSimpArgs false
/-- A key's value in a list. -/
def findOf : List Pr → ByteArray → ByteArray × Int
  | [], _ => (⟨#[]⟩, 4)
  | p :: l, k => if p.f0.toList = k.toList then (p.f1, 0) else findOf l k
/-- Where a key stands; how many pairs there are, if nowhere. -/
def findAt : List Pr → ByteArray → Nat
  | [], _ => 0
  | p :: l, k => if p.f0.toList = k.toList then 0 else findAt l k + 1
theorem findAt_le : ∀ (l : List Pr) (k : ByteArray), findAt l k ≤ l.length
  | [], _ => Nat.le_refl _
  | p :: l, k => by have := findAt_le l k; rw [findAt]; split <;> simp <;> omega
theorem findOf_at : ∀ (l : List Pr) (k : ByteArray), findOf l k = if h : findAt l k < l.length then (l[findAt l k].f1, 0) else (⟨#[]⟩, 4)
  | [], _ => rfl
  | p :: l, k => by
    rw [findOf]
    by_cases h : p.f0.toList = k.toList
    · have e : findAt (p :: l) k = 0 := by rw [findAt, if_pos h]
      rw [if_pos h, dif_pos (by rw [e]; simp)]
      simp [e]
    · have e : findAt (p :: l) k = findAt l k + 1 := by rw [findAt, if_neg h]
      rw [if_neg h, findOf_at l k]
      by_cases h2 : findAt l k < l.length
      · rw [dif_pos h2, dif_pos (by rw [e]; simpa using h2)]
        simp [e]
      · rw [dif_neg h2, dif_neg (by rw [e]; simpa using h2)]
theorem findAt_lt : ∀ (l : List Pr) (k : ByteArray) (j : Nat) (h : j < l.length), j < findAt l k → l[j].f0.toList ≠ k.toList
  | [], _, j, h, _ => by simp at h
  | p :: l, k, j, h, hj => by
    rw [findAt] at hj
    by_cases hp : p.f0.toList = k.toList
    · rw [if_pos hp] at hj; omega
    · rw [if_neg hp] at hj
      cases j with
      | zero => exact hp
      | succ j => exact findAt_lt l k j (by simpa using h) (by omega)
theorem findAt_eq : ∀ (l : List Pr) (k : ByteArray) (h : findAt l k < l.length), l[findAt l k].f0.toList = k.toList
  | [], _, h => by simp at h
  | p :: l, k, h => by
    by_cases hp : p.f0.toList = k.toList
    · have e : findAt (p :: l) k = 0 := by rw [findAt, if_pos hp]
      simp [e, hp]
    · have e : findAt (p :: l) k = findAt l k + 1 := by rw [findAt, if_neg hp]
      have h2 : findAt l k < l.length := by rw [e] at h; simpa using h
      simp [e, findAt_eq l k h2]
/-- The closure that asks a pair for its key. -/
theorem is_calls (k v s : ByteArray) (b : Nat) (w : World) (hc : w.cell? ⟨b, 0, none⟩ = some (.string s)) :
    Calls Tryd.prog 34 #[.agg #[.string k, .string v], .pointer (some ⟨b, 0, none⟩)] w fun e w' => e = .returned (.bool (k.toList == s.toList)) ∧ Below w.heap.size w w' := by
  have hcb := cell_alloc_l (.cells #[.string k, .string v] 32) hc
  go_enter Tryd.func34, Tryd.ntmps34
  go_wp2
  go_ret
  exact ⟨rfl, (Below.refl _ _).alloc (Nat.le_refl _) _⟩
/-- slices.IndexFunc with it. -/
theorem index_calls (A : Option Addr) (c : Nat) (l : List Pr) (s : ByteArray) (b : Nat) (w : World) (hC : Kd.C k32 w A l.length l) (hn : l.length ≤ c) (hc : w.cell? ⟨b, 0, none⟩ = some (.string s)) :
    Calls Tryd.prog 33 #[.slice A l.length c, .func (.func 34) #[] #[.pointer (some ⟨b, 0, none⟩)]] w fun e w' => e = .returned (.int .i64 (if findAt l s < l.length then (findAt l s : Int) else -1)) ∧ Below w.heap.size w w' := by
  have hm := Kd.C_max hC
  have HC := Lib.hid hC
  have HCC := Lib.hid hc
  have hle := findAt_le l s
  clear hC hc
  go_enter Tryd.func33, Tryd.ntmps33
  go_wp2
  go_loopg [8] (findAt l s) (fun g s8 wx => ∃ i : Nat, i + g = findAt l s ∧ s8 = .int .i64 i ∧ Below w.heap.size w wx)
  case atStart => exact ⟨0, by omega, rfl, Below.refl _ _⟩
  case round =>
    obtain ⟨i, hig, rfl, hB⟩ := hrel
    have HB := Lib.hid hB
    clear hB
    by_cases hi : i < l.length
    · obtain ⟨ad, hAd, hca, hcb⟩ := at_T32 (Kd.C_below HC.out HB.out) (i : Int) (by omega) (by omega)
      rw [rd_at l i hi, Int.toNat_natCast] at hca hcb
      obtain ⟨x, hx⟩ : ∃ x, l[i] = x := ⟨_, rfl⟩
      rw [hx] at hca hcb
      have HXk := Lib.hid hx
      clear hx
      subst hAd
      have HBc := Lib.hid ((HB.out.cell (World.block_lt_of_cell? _ _ HCC.out)).trans HCC.out)
      cases gk with
      | succ g =>
        have hne := findAt_lt l s i hi (by omega)
        rw [HXk.out] at hne
        have hne' : (x.f0.toList == s.toList) = false := beq_eq_false_iff_ne.2 hne
        have HNE := Lib.hid hne
        clear hne
        go_wp2_with (go_at_call 34; refine (is_calls x.f0 x.f1 s b _ HBc.out).mono ?_; rintro e w1 ⟨rfl, hb1⟩)
        go_roundg g
        case measure => omega
        case rel => exact ⟨i + 1, by omega, by go_num, HB.out.trans (hb1.mono HB.out.size)⟩
      | zero =>
        obtain rfl : i = findAt l s := by omega
        have heq := findAt_eq l s hi
        rw [HXk.out] at heq
        have heq' : (x.f0.toList == s.toList) = true := beq_iff_eq.2 heq
        have HEQ := Lib.hid heq
        clear heq
        go_wp2_with (go_at_call 34; refine (is_calls x.f0 x.f1 s b _ HBc.out).mono ?_; rintro e w1 ⟨rfl, hb1⟩)
        go_ret
        exact ⟨rfl, HB.out.trans (hb1.mono HB.out.size)⟩
    · have hi' : decide (i < l.length) = false := decide_eq_false hi
      go_wp2
      go_ret
      exact ⟨rfl, HB.out⟩
theorem find_calls (A : Option Addr) (c : Nat) (l : List Pr) (s : ByteArray) (w : World) (hC : Kd.C k32 w A l.length l) (hn : l.length ≤ c) :
    Calls Tryd.prog 23 #[.slice A l.length c, .string s] w fun e w' => e = .returned (.tuple #[.string (findOf l s).1, .int .i64 (findOf l s).2]) ∧ Below w.heap.size w w' := by
  have hmf : ∀ (fn : Fn) (first cap : Array Value) (w : World), (Instr.makeFunc fn first cap).run Tryd.prog w = .ok (.func fn first cap) w := fun _ _ _ _ => rfl
  have hm := Kd.C_max hC
  have hb0 := (Below.refl w.heap.size w).alloc (Nat.le_refl _) (.cells #[.string s] 9)
  have HB0 := Lib.hid hb0
  have HC := Lib.hid (Kd.C_below hC hb0)
  have HBx := Lib.hid (Boxed.new w 9 (.string s)).cell
  have hfa := findOf_at l s
  clear hb0 hC
  by_cases hf : findAt l s < l.length
  · rw [dif_pos hf] at hfa
    obtain ⟨i, hi⟩ : ∃ i, findAt l s = i := ⟨_, rfl⟩
    have hidx := index_calls A c l s w.heap.size _ HC.out hn HBx.out
    rw [if_pos hf, hi] at hidx
    have hf2 : i < l.length := by rw [← hi]; exact hf
    obtain ⟨x, hx⟩ : ∃ x, l[i] = x := ⟨_, rfl⟩
    have hfa2 : findOf l s = (x.f1, 0) := by rw [hfa, ← hx]; simp only [hi]
    have HFA := Lib.hid hfa2
    have HID := Lib.hid hidx
    have HXk := Lib.hid hx
    have hi0 : decide ((i : Int) < 0) = false := decide_eq_false (by omega)
    clear hfa hfa2 hidx hx hf hi
    obtain ⟨ad, hAd, hca0, hcb0⟩ := at_T32 HC.out (i : Int) (by omega) (by omega)
    rw [rd_at l i hf2, Int.toNat_natCast, HXk.out] at hcb0
    have HCB := Lib.hid hcb0
    clear hca0 hcb0
    subst hAd
    go_enter Tryd.func23, Tryd.ntmps23
    go_wp2_with (go_at_call 33; refine HID.out.mono ?_; rintro e w1 ⟨rfl, hb1⟩; have hc1 := (hb1.cell (World.block_lt_of_cell? _ _ HCB.out)).trans HCB.out)
    go_ret2
    exact ⟨by rw [HFA.out]; rfl, HB0.out.trans (hb1.mono HB0.out.size)⟩
  · rw [dif_neg hf] at hfa
    have hidx := index_calls A c l s w.heap.size _ HC.out hn HBx.out
    rw [if_neg hf] at hidx
    have HFA := Lib.hid hfa
    have HID := Lib.hid hidx
    clear hfa hidx hf
    go_enter Tryd.func23, Tryd.ntmps23
    go_wp2_with (go_at_call 33; refine HID.out.mono ?_; rintro e w1 ⟨rfl, hb1⟩)
    go_ret2
    exact ⟨by rw [HFA.out]; rfl, HB0.out.trans (hb1.mono HB0.out.size)⟩
end Go.Proofs.YtkkffccdkbijkaaDoor.H
namespace Go.Proofs.YtkkffccdkbijkaaDoor.I
open Go.RowKit Go.Proofs.YtkkffccdkbijkaaDoor.H Go.Proofs.YtkkffccdkbijkaaDoorW.PrintWords Go.Proofs.YtkkffccdkbijkaaDoorW.PrintLast Go.Proofs.YtkkffccdkbijkaaDoorW.PrintMore
def pax_Find.f (l0 : List S32) (a1 : ByteArray) : Option (ByteArray × Int) := some (findOf l0 a1)
theorem pax_Find.calls (A0 : Option Addr) (c0 : Nat) (l0 : List S32) (a1 : ByteArray) (r0 : ByteArray) (r1 : Int) (w : World) (h0 : Kd.C k32 w A0 l0.length l0) (n0 : l0.length ≤ c0) (h : pax_Find.f l0 a1 = some (r0, r1)) :
    Calls Tryd.prog 23 #[.slice A0 l0.length c0, .string a1] w fun e w' => e = .returned (.tuple #[.string r0, .int .i64 r1]) ∧ Below w.heap.size w w' := by
  have := find_calls A0 c0 l0 a1 w h0 n0
  rw [Option.some.inj h] at this
  exact this
end Go.Proofs.YtkkffccdkbijkaaDoor.I
