/- strconv.Itoa and strconv.AppendInt at base 10, in the form that the printed texts call them by. -/
import Derived.Test.YtkkffccdkbijkaaDoorHStr
import Derived.Test.YtkkffccdkbijkaaDoorHG2
import Derived.Test.YtkkffccdkbijkaaDoorShelf
import Derived.Test.YtkkffccdkbijkaaDoorWKept
import Derived.Maps.AppendAt
import Derived.Lib.ItoaMem
import Derived.Lib.BufferKept
import Derived.Lib.OwnKind
import Derived.OwnWalk
import Derived.BigGuard
import Derived.CellFam
namespace Go.Proofs.YtkkffccdkbijkaaDoor.H
open Go.RowKit Go.Sort Go.Lib Go.Proofs.YtkkffccdkbijkaaDoorW.PrintWords
set_option linter.unusedVariables false

theorem info5 : (Tryd.prog.info? 5).map (fun i => (i.zero, i.size, i.bytes)) = some (some (.int .u8 0), 1, 1) := by kernel_rfl

def itoa (n : Int) : ByteArray := ⟨(Lib.itoa n).toArray⟩

theorem dec_le (u : Nat) (hu : u < 18446744073709551616) : (Lib.decDigits u).length ≤ 20 := by
  rw [Lib.decDigits_length]
  rcases Nat.eq_zero_or_pos u with rfl | h1
  · rw [Lib.nDigits_small (by omega)]; omega
  · have := Lib.numDigits_eq u h1 hu; split at this <;> omega

set_option maxHeartbeats 6400000 in
set_option maxRecDepth 100000 in
/-- internal/strconv.AppendUint(dst, u, 10): the row's own cells, then the numeral; all but that row stays. -/
theorem appUint_small (B n u : Nat) (hu : u < 100) (sv : Value) (xs : List Value) (w : World) (hown : w.ownsRow B 5 1 sv n xs) (hBw : B ≤ w.heap.size) (hlim : n + 20 ≤ 140737488355328) :
    Calls Tryd.prog 77 #[sv, .int .u64 u, .int .i64 10] w fun e w' => ∃ v', e = .returned v' ∧ w'.ownsRow B 5 1 v' (n + (Lib.decDigits u).length) (xs ++ Lib.byteCells (Lib.decDigits u)) ∧ w.grownBy w' sv.ownBlock ∧ (v'.ownBlock = sv.ownBlock ∨ ∃ b, v'.ownBlock = some b ∧ w.heap.size ≤ b) := by
  have hlen := dec_le u (by omega)
  have hsz : (⟨(Lib.decDigits u).toArray⟩ : ByteArray).size = (Lib.decDigits u).length := by simp [ByteArray.size]
  go_enter Tryd.func77, Tryd.ntmps77
  go_wp2_with (first
    | (go_at_call 69; refine (Tryd.internal_strconv_small u hu _).mono ?_; rintro e w' ⟨rfl, rfl⟩)
    | (at_builtin; refine own_append_str B rfl _ _ 35 9 5 rfl Tryd.underlying35 Tryd.underlying9 info5 _ _ _ rfl hown ⟨(Lib.decDigits u).toArray⟩ rfl (by rw [hsz]; omega) hBw ?_))
  intro v' w1 hown' hgrow hat
  go_wp2
  go_ret
  exact ⟨v', rfl, by first | exact hown' | (rw [hsz] at hown'; exact hown'), hgrow, hat⟩

set_option maxHeartbeats 12800000 in
set_option maxRecDepth 100000 in
theorem appUint_big (B n u : Nat) (hu : 100 ≤ u) (hu64 : u < 18446744073709551616) (sv : Value) (xs : List Value) (w : World) (hown : w.ownsRow B 5 1 sv n xs) (hBw : B ≤ w.heap.size) (hlim : n + 20 ≤ 140737488355328) (htab : Lib.TabIs Tryd.prog w "internal/strconv.uint64pow10" .u64 Lib.pow10Tab) :
    Calls Tryd.prog 77 #[sv, .int .u64 u, .int .i64 10] w fun e w' => ∃ v', e = .returned v' ∧ w'.ownsRow B 5 1 v' (n + (Lib.decDigits u).length) (xs ++ Lib.byteCells (Lib.decDigits u)) ∧ w.grownBy w' sv.ownBlock ∧ (v'.ownBlock = sv.ownBlock ∨ ∃ b, v'.ownBlock = some b ∧ w.heap.size ≤ b) := by
  obtain ⟨i0, hi, hz0, hz1, hz2⟩ := info_parts info5
  have hnd20 : Lib.nDigits u ≤ 20 := by have := dec_le u hu64; rwa [Lib.decDigits_length] at this
  have hal : Tryd.prog.arrayLen 104 = 24 := by simp [Program.arrayLen, Tryd.underlying104]
  have hsl : ∀ W, (Instr.sliceAt 104 (.pointer (some ⟨w.heap.size, 0, none⟩)) none (some (.int .i64 (Lib.nDigits u : Int))) none).run Tryd.prog W = .ok (.slice (some ⟨w.heap.size, 0, none⟩) (Lib.nDigits u) 24) W := fun W => by
    rw [run_sliceAt_array_h W 104 ⟨w.heap.size, 0, none⟩ (by simp [Program.arrayLen, Program.elem, Tryd.underlying104]) .i64 (Lib.nDigits u : Int) (by omega) (by rw [hal]; omega)]
    go_simp
  have hH0 := Lib.holds_zero0 w 104 (Lib.nDigits u) (by omega)
  have hfmt := Tryd.internal_strconv_formatBase10 w.heap.size 0 24 u (Array.replicate (Lib.nDigits u) 0) (w.alloc (.cells Lib.zeros24 104)) hH0 (by rw [Array.size_replicate]; exact Lib.lt_pow_nDigits u) hu64 (by rw [Array.size_replicate]; omega)
  rw [Array.size_replicate] at hfmt
  have HH0 := Lib.hid hH0
  have iu : (100 : Int) ≤ (u : Int) := by omega
  clear hH0 hal
  go_enter Tryd.func77, Tryd.ntmps77
  go_wp2_with (first
    | (go_at_call 70; refine (Tryd.internal_strconv_numDigits u (by omega) hu64 _ (Lib.tabIs_alloc htab _)).mono ?_; rintro e w' ⟨rfl, rfl⟩)
    | (go_at_call 71; refine hfmt.mono ?_))
  rintro e w' ⟨rfl, k, v', dk, rfl, hF⟩
  have hcells : ∀ j u', (Lib.byteCells (Lib.decDigits u))[j]? = some u' → ((putRow (fun (b : UInt8) => Value.int .u8 (b.toNat : Int)) (w.alloc (.cells Lib.zeros24 104)) w.heap.size 0 dk).drewN k).cell? ((⟨w.heap.size, 0, none⟩ : Addr).add j) = some u' := by
    intro j u' hj
    have hjl : j < (Lib.decDigits u).length := by
      have h5 := (List.getElem?_eq_some_iff.1 hj).1
      rwa [Lib.byteCells_length] at h5
    have e5 : (Lib.byteCells (Lib.decDigits u))[j]? = some (Value.int .u8 ((Lib.decDigits u)[j].toNat : Int)) := by simp [Lib.byteCells, hjl]
    rw [e5] at hj
    cases hj
    rw [Lib.row_is_numeral hF j hjl, Lib.add_plain, World.cell?_drewN]
    exact cell?_putRow (fun (b : UInt8) => Value.int .u8 (b.toNat : Int)) _ w.heap.size 0 _ dk HH0.out (by rw [hF.size, Array.size_replicate]) j (by rw [hF.size]; rw [Lib.decDigits_length] at hjl; exact hjl)
  obtain ⟨os, eo⟩ := Lib.fin_at w (.cells Lib.zeros24 104) dk k 0
  have hown2 : ((putRow (fun (b : UInt8) => Value.int .u8 (b.toNat : Int)) (w.alloc (.cells Lib.zeros24 104)) w.heap.size 0 dk).drewN k).ownsRow B 5 1 sv n xs := by rw [eo]; exact Lib.ownsRow_grow hown k os
  have hbw : Below w.heap.size w ((putRow (fun (b : UInt8) => Value.int .u8 (b.toNat : Int)) (w.alloc (.cells Lib.zeros24 104)) w.heap.size 0 dk).drewN k) := by rw [eo]; exact Lib.below_grow w.heap.size w (Nat.le_refl _) k os
  generalize (putRow (fun (b : UInt8) => Value.int .u8 (b.toNat : Int)) (w.alloc (.cells Lib.zeros24 104)) w.heap.size 0 dk).drewN k = W2 at hcells hown2 hbw ⊢
  have hsz2 : w.heap.size ≤ W2.heap.size := hbw.size
  clear eo HH0 hfmt
  go_wp2_with (at_builtin; refine wpList_append_own_at _ rfl _ _ 35 rfl B 5 i0 (.int .u8 0) 1 1 Tryd.underlying35 hi hz0 hz1 hz2 rfl (by decide) _ _ _ rfl hown2 ⟨w.heap.size, 0, none⟩ (Lib.nDigits u) 24 (Lib.byteCells (Lib.decDigits u)) rfl ?c0 hcells ?c2 ?c3 ?c4 ?c5 ?_)
  case c0 => rw [Lib.byteCells_length, Lib.decDigits_length, Nat.mul_one]
  case c2 => intro u' hu'; simp only [Lib.byteCells, List.mem_map] at hu'; obtain ⟨b, _, rfl⟩ := hu'; rfl
  case c3 => unfold maxLen; omega
  case c4 => omega
  case c5 => omega
  intro v2 w3 hown' hgrow _ hat
  go_wp2
  go_ret
  rw [Lib.decDigits_length]
  refine ⟨v2, rfl, hown', (grown_of_below hbw _).trans hgrow, hat.imp_right fun h => ⟨_, h, hsz2⟩⟩

set_option maxHeartbeats 6400000 in
theorem appInt_inner (B n u : Nat) (hu64 : u ≤ 9223372036854775807) (sv : Value) (xs : List Value) (w : World) (hown : w.ownsRow B 5 1 sv n xs) (hBw : B ≤ w.heap.size) (hlim : n + 20 ≤ 140737488355328) (htab : Lib.TabIs Tryd.prog w "internal/strconv.uint64pow10" .u64 Lib.pow10Tab) :
    Calls Tryd.prog 53 #[sv, .int .i64 u, .int .i64 10] w fun e w' => ∃ v', e = .returned v' ∧ w'.ownsRow B 5 1 v' (n + (Lib.decDigits u).length) (xs ++ Lib.byteCells (Lib.decDigits u)) ∧ w.grownBy w' sv.ownBlock ∧ (v'.ownBlock = sv.ownBlock ∨ ∃ b, v'.ownBlock = some b ∧ w.heap.size ≤ b) := by
  have key : Calls Tryd.prog 77 #[sv, .int .u64 u, .int .i64 10] w fun e w' => ∃ v', e = .returned v' ∧ w'.ownsRow B 5 1 v' (n + (Lib.decDigits u).length) (xs ++ Lib.byteCells (Lib.decDigits u)) ∧ w.grownBy w' sv.ownBlock ∧ (v'.ownBlock = sv.ownBlock ∨ ∃ b, v'.ownBlock = some b ∧ w.heap.size ≤ b) := by
    by_cases h : u < 100
    · exact appUint_small B n u h sv xs w hown hBw hlim
    · exact appUint_big B n u (by omega) (by omega) sv xs w hown hBw hlim htab
  go_enter Tryd.func53, Tryd.ntmps53
  go_wp2_with (go_at_call 77; refine key.mono ?_; rintro e w2 ⟨v2, rfl, h⟩)
  go_wp2
  first | go_ret | go_ret2
  exact ⟨v2, rfl, h⟩
theorem appInt (B n u : Nat) (hu64 : u ≤ 9223372036854775807) (sv : Value) (xs : List Value) (w : World) (hown : w.ownsRow B 5 1 sv n xs) (hBw : B ≤ w.heap.size) (hlim : n + 20 ≤ 140737488355328) (htab : Lib.TabIs Tryd.prog w "internal/strconv.uint64pow10" .u64 Lib.pow10Tab) :
    Calls Tryd.prog 41 #[sv, .int .i64 u, .int .i64 10] w fun e w' => ∃ v', e = .returned v' ∧ w'.ownsRow B 5 1 v' (n + (Lib.decDigits u).length) (xs ++ Lib.byteCells (Lib.decDigits u)) ∧ w.grownBy w' sv.ownBlock ∧ (v'.ownBlock = sv.ownBlock ∨ ∃ b, v'.ownBlock = some b ∧ w.heap.size ≤ b) := by
  go_enter Tryd.func41, Tryd.ntmps41
  go_wp2_with (go_at_call 53; refine (appInt_inner B n u hu64 sv xs w hown hBw hlim htab).mono ?_; rintro e w2 ⟨v2, rfl, h⟩)
  go_wp2
  first | go_ret | go_ret2
  exact ⟨v2, rfl, h⟩
end Go.Proofs.YtkkffccdkbijkaaDoor.H
namespace Go.Proofs.YtkkffccdkbijkaaDoor.I
open Go.RowKit Go.Proofs.YtkkffccdkbijkaaDoor.H Go.Proofs.YtkkffccdkbijkaaDoorW.PrintWords
set_option linter.unusedVariables false

def strconv_Itoa.f (a0 : Int) : Option ByteArray := if -9223372036854775808 ≤ a0 ∧ a0 ≤ 9223372036854775807 then some (itoa a0) else none
theorem strconv_Itoa.calls (a0 : Int) (r : ByteArray) (w : World) (hG : GOK w) (h : strconv_Itoa.f a0 = some r) :
    Calls Tryd.prog 28 #[.int .i64 a0] w fun e w' => e = .returned (.string r) ∧ Below w.heap.size w w' := by
  unfold strconv_Itoa.f at h
  split at h
  · rename_i hh
    cases h
    refine (Tryd.strconv_Itoa a0 hh.1 hh.2 w hG.tab).mono ?_
    rintro e w' ⟨he, k, os, rfl⟩
    exact ⟨he, Lib.below_grow w.heap.size w (Nat.le_refl _) k os⟩
  · cases h

def digs (u : Nat) : List Int := (Lib.decDigits u).map fun b => (b.toNat : Int)
def strconv_AppendInt.f (l0 : List Int) (a1 a2 : Int) : Option (List Int) := if 0 ≤ a1 ∧ a1 ≤ 9223372036854775807 ∧ a2 = 10 ∧ l0.length + 20 ≤ 140737488355328 then some (l0 ++ digs a1.toNat) else none
theorem strconv_AppendInt.calls (P0_ : Nat → Prop) (u : Value) (l0 : List Int) (a1 a2 : Int) (r : List Int) (w0 w : World) (hB : Below w0.heap.size w0 w) (ho0 : Kd.R (Kd.int .u8) 5 w w0.heap.size P0_ u l0) (hG : GOK w0) (h : strconv_AppendInt.f l0 a1 a2 = some r) :
    Calls Tryd.prog 41 #[u, .int .i64 a1, .int .i64 a2] w fun e w' => ∃ v0_ : Value, e = .returned (v0_) ∧ Kd.R (Kd.int .u8) 5 w' w0.heap.size (fun k_ => (P0_ k_ ∨ w.heap.size ≤ k_)) v0_ r ∧ Below w0.heap.size w0 w' ∧ Kept w w' (fun k_ => P0_ k_) := by
  unfold strconv_AppendInt.f at h
  split at h
  case isFalse => cases h
  case isTrue hh =>
    obtain ⟨h0, h1, rfl, h3⟩ := hh
    cases h
    obtain ⟨n, rfl⟩ : ∃ n : Nat, a1 = n := ⟨a1.toNat, by omega⟩
    have hO := Kd.own_of_R ho0
    refine (appInt w0.heap.size l0.length n (by omega) u _ w hO hB.size h3 (hG.below hB).tab).mono ?_
    rintro e w' ⟨v', rfl, hown, hg, hat⟩
    have hc : encs (Value.int .u8) (l0 ++ digs (n : Int).toNat) = encs (Value.int .u8) l0 ++ Lib.byteCells (Lib.decDigits n) := by
      rw [encs_append]
      simp [encs, digs, Lib.byteCells]
    have hl : (l0 ++ digs (n : Int).toNat).length = l0.length + (Lib.decDigits n).length := by simp [digs]
    refine ⟨v', rfl, Kd.R_of_own (h1 := fun _ => rfl) (by rw [hl, hc]; exact hown) ?_, hB.grown hg hB.size (own_base hO), Kept.of_grown hg (Kept.refl _ _) (fun k hk => .inl (ho0.1 k hk))⟩
    intro k hk
    rcases hat with e1 | ⟨b, e1, hb⟩
    · exact .inl (ho0.1 k (e1.symm.trans hk))
    · rw [e1] at hk; cases hk; exact .inr hb
end Go.Proofs.YtkkffccdkbijkaaDoor.I
