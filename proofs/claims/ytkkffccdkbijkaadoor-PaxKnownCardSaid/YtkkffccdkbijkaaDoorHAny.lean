/- strings.ContainsAny(s, "\x00\n="), whatever the bytes of s. -/
import Derived.Test.YtkkffccdkbijkaaDoorShelf
import Derived.Lib.OthersKept
import Derived.Lib.IndexAny
import Derived.Laws.RangeAny
import Derived.Laws.Runes
import Derived.BigQuiet
import Derived.WalkMore
import Derived.ScopeJumps
import Derived.LoopN
import Derived.Laws.RangeString
import Derived.Below
import Derived.WalkKit
import Derived.Lib.Hide
namespace Go.Proofs.YtkkffccdkbijkaaDoor.H
open Go.RowKit Go.Lib
set_option linter.unusedVariables false
set_option linter.unusedSimpArgs false

theorem get_k (s : ByteArray) (i : Nat) (h : i < s.size) : s.get! i = s[i]'h := by
  simp [ByteArray.get!, getElem!_pos, h]
  rfl
/-- What a rune that is none of ASCII's takes is bytes that are none of ASCII's. -/
theorem decode_span (s : ByteArray) (pos : Nat) (h : pos < s.size) (ha : 128 ≤ (s[pos]'h).toNat) (k : Nat) (hk : k < (Utf8.decode s pos).2) : ∃ hb : pos + k < s.size, 128 ≤ (s[pos + k]'hb).toNat := by
  rcases Nat.eq_zero_or_pos k with rfl | hk0
  · exact ⟨h, ha⟩
  have hn : ¬ (s[pos]'h).toNat < 128 := by omega
  have cont : ∀ j, (decide (pos + j < s.size) && (s.get! (pos + j)).toNat / 64 == 2) = true → ∃ hb : pos + j < s.size, 128 ≤ (s[pos + j]'hb).toNat := by
    intro j hj
    simp only [Bool.and_eq_true, decide_eq_true_eq, beq_iff_eq] at hj
    refine ⟨hj.1, ?_⟩
    rw [get_k s _ hj.1] at hj
    omega
  have h1 := cont 1; have h2 := cont 2; have h3 := cont 3
  clear cont
  unfold Utf8.decode at hk
  simp only [get_at s pos h, hn, if_false] at hk
  split at hk
  · rename_i hh
    rw [Bool.and_eq_true] at hh
    split at hk
    · obtain rfl : k = 1 := by omega
      exact h1 hh.2
    · omega
  · split at hk
    · rename_i hh
      rw [Bool.and_eq_true, Bool.and_eq_true] at hh
      split at hk
      · obtain rfl | rfl : k = 1 ∨ k = 2 := by omega
        · exact h1 hh.1.2
        · exact h2 hh.2
      · omega
    · split at hk
      · rename_i hh
        rw [Bool.and_eq_true, Bool.and_eq_true, Bool.and_eq_true] at hh
        split at hk
        · obtain rfl | rfl | rfl : k = 1 ∨ k = 2 ∨ k = 3 := by omega
          · exact h1 hh.1.1.2
          · exact h2 hh.1.2
          · exact h3 hh.2
        · omega
      · omega

theorem wr2 : IntKind.i64.wrap 2 = 2 := by decide
theorem wr3 : IntKind.i64.wrap 3 = 3 := by decide
attribute [local go_sem] wr2 wr3
/-- The three bytes that no key has. -/
def bars : ByteArray := ⟨#[0, 10, 61]⟩
theorem valid_is (r : Int) (w : World) : Calls Tryd.prog 99 #[.int .i32 r] w fun e w' => e = .returned (.bool (Lib.validRune r)) ∧ w' = w := Tryd.utf8_ValidRune r w

theorem enc2 (r : Int) (h : 128 ≤ r) (h2 : r < 2048) : ∃ a b : UInt8, Utf8.encode r = ⟨#[a, b]⟩ ∧ 128 ≤ b.toNat := by
  obtain ⟨n, rfl⟩ : ∃ n : Nat, r = n := ⟨r.toNat, by omega⟩
  have hv : Utf8.valid (n : Int) = true := by simp [Utf8.valid]; omega
  refine ⟨UInt8.ofNat (192 + n / 64), UInt8.ofNat (128 + n % 64), ?_, ?_⟩
  · unfold Utf8.encode
    simp only [hv, if_true, Int.toNat_natCast]
    rw [if_neg (by omega), if_pos (by omega)]
  · simp; omega
theorem enc3 (r : Int) (h : 2048 ≤ r) (h2 : r < 65536) (hv : Utf8.valid r = true) : ∃ a b c : UInt8, Utf8.encode r = ⟨#[a, b, c]⟩ ∧ 128 ≤ c.toNat := by
  obtain ⟨n, rfl⟩ : ∃ n : Nat, r = n := ⟨r.toNat, by omega⟩
  refine ⟨UInt8.ofNat (224 + n / 4096), UInt8.ofNat (128 + n / 64 % 64), UInt8.ofNat (128 + n % 64), ?_, ?_⟩
  · unfold Utf8.encode
    simp only [hv, if_true, Int.toNat_natCast]
    rw [if_neg (by omega), if_neg (by omega), if_pos (by omega)]
  · simp; omega
theorem valid_of {r : Int} (h : Lib.validRune r = true) : Utf8.valid r = true := by
  simp only [Lib.validRune, decide_eq_true_eq] at h
  simp only [Utf8.valid, Bool.or_eq_true, Bool.and_eq_true, decide_eq_true_eq]
  omega
theorem enc4 (r : Int) (h : 65536 ≤ r) (hv : Utf8.valid r = true) : ∃ a b c d : UInt8, Utf8.encode r = ⟨#[a, b, c, d]⟩ := by
  obtain ⟨n, rfl⟩ : ∃ n : Nat, r = n := ⟨r.toNat, by omega⟩
  refine ⟨UInt8.ofNat (240 + n / 262144), UInt8.ofNat (128 + n / 4096 % 64), UInt8.ofNat (128 + n / 64 % 64), UInt8.ofNat (128 + n % 64), ?_⟩
  unfold Utf8.encode
  simp only [hv, if_true, Int.toNat_natCast]
  rw [if_neg (by omega), if_neg (by omega), if_neg (by omega)]

set_option maxHeartbeats 4000000 in
set_option maxRecDepth 1000000 in
theorem indexRune_bad (r : Int) (h0 : 128 ≤ r) (h1 : r ≤ 2147483647) (h2 : r ≠ 65533) (hv : Lib.validRune r = false) (w : World) :
    Calls Tryd.prog 73 #[.string bars, .int .i32 r] w fun e w' => e = .returned (.int .i64 (-1)) ∧ Below w.heap.size w w' := by
  unfold bars
  go_enter Tryd.func73, Tryd.ntmps73
  go_wp2_with (go_at_call 99; refine (valid_is _ _).mono ?_; rintro e w' ⟨rfl, rfl⟩; rw [hv])
  go_ret
  exact ⟨rfl, Below.refl _ _⟩

theorem ix_end (s : ByteArray) (n : Nat) (w : World) (x : Int) (hx : 128 ≤ x) (hx2 : x < 256) (hs : s = bars) (hn : 2 ≤ n) :
    Calls Tryd.prog 98 #[.string (s.extract n s.size), .int .u8 x] w fun e w' => e = .returned (.int .i64 (-1)) ∧ w' = w := by
  refine (Tryd.strings_IndexByte _ x w).mono ?_
  rintro e w' ⟨rfl, rfl⟩
  refine ⟨?_, rfl⟩
  subst hs
  have hne : x.toNat.toUInt8 ≠ 61 := fun e => by
    have := congrArg UInt8.toNat e
    simp at this; omega
  have key : ∀ l : List UInt8, (∀ y ∈ l, y = 61) → Lib.indexByte l x.toNat.toUInt8 = -1 := by
    intro l
    induction l with
    | nil => intro _; rfl
    | cons y l ih =>
      intro h
      rw [Lib.indexByte, h y (by simp), ih (fun z hz => h z (by simp [hz]))]
      simp [Ne.symm hne]
  rw [key]
  intro y hy
  rw [Lib.extract_to_end] at hy
  have hb : bars.data.toList = [0, 10, 61] := rfl
  rw [hb] at hy
  obtain rfl | h3 : n = 2 ∨ 3 ≤ n := by omega
  · simpa using hy
  · rw [List.drop_eq_nil_of_le (by simp; omega)] at hy; cases hy

set_option maxHeartbeats 8000000 in
set_option maxRecDepth 1000000 in
theorem indexRune_2 (r : Int) (h0 : 128 ≤ r) (h1 : r < 2048) (hv : Lib.validRune r = true) (hr0 : r ≠ 65533) (w : World) :
    Calls Tryd.prog 73 #[.string bars, .int .i32 r] w fun e w' => e = .returned (.int .i64 (-1)) ∧ Below w.heap.size w w' := by
  obtain ⟨a, b, hE, hb⟩ := enc2 r h0 h1
  have hb2 : b.toNat < 256 := b.toNat_lt
  have hr : (r == 65533) = false := beq_eq_false_iff_ne.2 hr0
  have H := fun w => ix_end bars 2 w (b.toNat : Int) (by omega) (by omega) rfl (by omega)
  have hne : ((((⟨#[0, 10, 61]⟩ : ByteArray)[1]'(by decide)).toNat : Int) != (((⟨#[a, b]⟩ : ByteArray)[1]'(by simp [ByteArray.size])).toNat : Int)) = true := bne_iff_ne.2 (by show (10 : Int) ≠ (b.toNat : Int); omega)
  have hcv : ∀ W, (convert 21 9 (Value.int .i32 r)).run Tryd.prog W = .ok (.string ⟨#[a, b]⟩) W := fun W => by rw [run_convert_int_string W _ _ _ _ (by kernel_rfl) Tryd.underlying9, hE]
  have H2 : ∀ W, Calls Tryd.prog 98 #[Value.string ((⟨#[0, 10, 61]⟩ : ByteArray).extract 2 3), Value.int .u8 (((⟨#[a, b]⟩ : ByteArray)[1]'(by simp [ByteArray.size])).toNat : Int)] W fun e w' => e = Ending.returned (Value.int IntKind.i64 (-1)) ∧ w' = W := fun W => H W
  have h128 : 128 ≤ r := by omega
  clear h0 h1 H
  unfold bars
  go_enter Tryd.func73, Tryd.ntmps73
  go_wp2_with (go_at_call 99; refine (valid_is _ _).mono ?_; rintro e w' ⟨rfl, rfl⟩; rw [hv])
  go_step3
  go_wp2
  refine wp_loop_rounds 1 ?_
  rw [rounds_succ]
  go_wp2
  go_step3
  go_wp2
  go_quiet (fail)
  go_wp2
  go_quiet (first | (go_at_call 98; refine (H2 _).mono fun e w'' h => ⟨h.1, _, h.2⟩))
  go_wp2
  rw [Exit.noGoto_ret]
  go_wp2
  rw [Exit.noGoto_ret]
  go_ret
  exact ⟨rfl, ⟨rfl, rfl, rfl, Nat.le_refl _, fun _ _ => rfl⟩⟩
set_option maxHeartbeats 8000000 in
set_option maxRecDepth 1000000 in
theorem indexRune_3 (r : Int) (h0 : 2048 ≤ r) (h1 : r < 65536) (hv : Lib.validRune r = true) (hr0 : r ≠ 65533) (w : World) :
    Calls Tryd.prog 73 #[.string bars, .int .i32 r] w fun e w' => e = .returned (.int .i64 (-1)) ∧ Below w.heap.size w w' := by
  obtain ⟨a, b, c, hE, hb⟩ := enc3 r h0 h1 (valid_of hv)
  have hb2 : c.toNat < 256 := c.toNat_lt
  have hr : (r == 65533) = false := beq_eq_false_iff_ne.2 hr0
  have H := fun w => ix_end bars 3 w (c.toNat : Int) (by omega) (by omega) rfl (by omega)
  have hne : ((((⟨#[0, 10, 61]⟩ : ByteArray)[2]'(by decide)).toNat : Int) != (((⟨#[a, b, c]⟩ : ByteArray)[2]'(by simp [ByteArray.size])).toNat : Int)) = true := bne_iff_ne.2 (by show (61 : Int) ≠ (c.toNat : Int); omega)
  have hcv : ∀ W, (convert 21 9 (Value.int .i32 r)).run Tryd.prog W = .ok (.string ⟨#[a, b, c]⟩) W := fun W => by rw [run_convert_int_string W _ _ _ _ (by kernel_rfl) Tryd.underlying9, hE]
  have H2 : ∀ W, Calls Tryd.prog 98 #[Value.string ((⟨#[0, 10, 61]⟩ : ByteArray).extract 3 3), Value.int .u8 (((⟨#[a, b, c]⟩ : ByteArray)[2]'(by simp [ByteArray.size])).toNat : Int)] W fun e w' => e = Ending.returned (Value.int IntKind.i64 (-1)) ∧ w' = W := fun W => H W
  have h128 : 128 ≤ r := by omega
  clear h0 h1 H
  unfold bars
  go_enter Tryd.func73, Tryd.ntmps73
  go_wp2_with (go_at_call 99; refine (valid_is _ _).mono ?_; rintro e w' ⟨rfl, rfl⟩; rw [hv])
  go_step3
  go_wp2
  refine wp_loop_rounds 1 ?_
  rw [rounds_succ]
  go_wp2
  go_step3
  go_wp2
  go_quiet (fail)
  go_wp2
  go_quiet (first | (go_at_call 98; refine (H2 _).mono fun e w'' h => ⟨h.1, _, h.2⟩))
  go_wp2
  rw [Exit.noGoto_ret]
  go_wp2
  rw [Exit.noGoto_ret]
  go_ret
  exact ⟨rfl, ⟨rfl, rfl, rfl, Nat.le_refl _, fun _ _ => rfl⟩⟩
set_option maxHeartbeats 8000000 in
set_option maxRecDepth 1000000 in
theorem indexRune_4 (r : Int) (h0 : 65536 ≤ r) (hv : Lib.validRune r = true) (w : World) :
    Calls Tryd.prog 73 #[.string bars, .int .i32 r] w fun e w' => e = .returned (.int .i64 (-1)) ∧ Below w.heap.size w w' := by
  obtain ⟨a, b, c, d, hE⟩ := enc4 r h0 (valid_of hv)
  have hr : (r == 65533) = false := beq_eq_false_iff_ne.2 (by omega)
  have hcv : ∀ W, (convert 21 9 (Value.int .i32 r)).run Tryd.prog W = .ok (.string ⟨#[a, b, c, d]⟩) W := fun W => by rw [run_convert_int_string W _ _ _ _ (by kernel_rfl) Tryd.underlying9, hE]
  have h128 : 128 ≤ r := by omega
  clear h0
  unfold bars
  go_enter Tryd.func73, Tryd.ntmps73
  go_wp2_with (go_at_call 99; refine (valid_is _ _).mono ?_; rintro e w' ⟨rfl, rfl⟩; rw [hv])
  go_step3
  go_wp2
  refine wp_loop_rounds 1 ?_
  rw [rounds_succ]
  go_wp2
  rw [Exit.noGoto_ret]
  go_ret
  exact ⟨rfl, Below.refl _ _⟩
theorem below_iter (w : World) (s : ByteArray) (p : Nat) : Below w.heap.size w (w.iter s p) := by
  have := (Below.refl w.heap.size w).alloc (Nat.le_refl _) (.stringIter s p)
  exact this
set_option maxHeartbeats 8000000 in
set_option maxRecDepth 1000000 in
theorem indexRune_err (w : World) :
    Calls Tryd.prog 73 #[.string bars, .int .i32 65533] w fun e w' => e = .returned (.int .i64 (-1)) ∧ Below w.heap.size w w' := by
  have n0 := fun ty => run_next_ascii (P := Tryd.prog) w bars 0 ty (by decide) (by decide)
  have n1 := fun ty => run_next_ascii (P := Tryd.prog) w bars 1 ty (by decide) (by decide)
  have n2 := fun ty => run_next_ascii (P := Tryd.prog) w bars 2 ty (by decide) (by decide)
  have n3 := run_next_end (P := Tryd.prog) w bars 3
  have e0 : bars[0] = 0 := rfl
  have e1 : bars[1] = 10 := rfl
  have e2 : bars[2] = 61 := rfl
  unfold bars at n0 n1 n2 n3 e0 e1 e2 ⊢
  go_enter Tryd.func73, Tryd.ntmps73
  go_wp2
  refine wp_loop_rounds 4 ?_
  rw [rounds_succ]
  go_wp2
  rw [rounds_succ]
  go_wp2
  rw [rounds_succ]
  go_wp2
  rw [rounds_succ]
  go_wp2
  go_ret
  exact ⟨rfl, below_iter w _ _⟩

/-- A rune that is none of ASCII's is none of the three. -/
theorem indexRune_high (r : Int) (h0 : 128 ≤ r) (h1 : r ≤ 2147483647) (w : World) :
    Calls Tryd.prog 73 #[.string bars, .int .i32 r] w fun e w' => e = .returned (.int .i64 (-1)) ∧ Below w.heap.size w w' := by
  by_cases h2 : r = 65533
  · subst h2; exact indexRune_err w
  cases hv : Lib.validRune r with
  | false => exact indexRune_bad r h0 h1 h2 hv w
  | true =>
    by_cases h3 : r < 2048
    · exact indexRune_2 r h0 h3 hv h2 w
    by_cases h4 : r < 65536
    · exact indexRune_3 r (by omega) h4 hv h2 w
    exact indexRune_4 r (by omega) hv w
theorem indexRune_low (x : UInt8) (hx : x.toNat < 128) (w : World) :
    Calls Tryd.prog 73 #[.string bars, .int .i32 (x.toNat : Int)] w fun e w' => e = .returned (.int .i64 (Lib.indexByte bars.data.toList x)) ∧ w' = w := by
  have := Tryd.strings_IndexRune_ascii bars (x.toNat : Int) w (by omega) (by omega)
  have hback : ((x.toNat : Int)).toNat.toUInt8 = x := by simp
  rwa [hback] at this

theorem noAny_span {s chars : List UInt8} {i n : Nat} (h : Lib.NoAny s chars i) (hn : ∀ k, k < n → ∀ b, s[i + k]? = some b → chars.contains b = false) : Lib.NoAny s chars (i + n) := by
  induction n with
  | zero => exact h
  | succ n ih =>
    have := ih (fun k hk => hn k (by omega))
    intro j b hj hb
    by_cases e : j = i + n
    · subst e; exact hn n (by omega) b hb
    · exact this j b (by omega) hb
theorem bars_high (b : UInt8) (h : 128 ≤ b.toNat) : bars.data.toList.contains b = false := by
  have hb : bars.data.toList = [0, 10, 61] := rfl
  rw [hb]
  rw [List.contains_eq_any_beq]
  simp only [List.any_cons, List.any_nil, Bool.or_false, Bool.or_eq_false_iff, beq_eq_false_iff_ne]
  refine ⟨fun e => ?_, fun e => ?_, fun e => ?_⟩ <;> (subst e; revert h; decide)

set_option maxHeartbeats 8000000 in
set_option maxRecDepth 1000000 in
theorem indexAny_short (s : ByteArray) (h8 : s.size ≤ 8) (w : World) :
    Calls Tryd.prog 52 #[.string s, .string bars] w fun e w' => e = .returned (.int .i64 (Lib.indexAny s.data.toList bars.data.toList)) ∧ Below w.heap.size w w' := by
  have h8z : decide ((8 : Int) < (s.size : Int)) = false := decide_eq_false (by omega)
  have hemp : bars.toList.isEmpty = false := by kernel_rfl
  have hn1 : ((bars.size : Int) == 1) = false := by kernel_rfl
  go_enter Tryd.func52, Tryd.ntmps52
  go_wp2_with (go_at_call 74; refine (Tryd.strings_shouldUseASCIISet _ _).mono ?_; rintro e w' ⟨rfl, hw⟩; rw [hw, h8z])
  go_loopg [9, 10] s.size (fun g _ _ wx => ∃ i : Nat, i ≤ s.size ∧ s.size - i = g ∧ Below w.heap.size w wx ∧ wx.heap[w.heap.size]? = some (.stringIter s i) ∧ Lib.NoAny s.data.toList bars.data.toList i)
  case atStart => exact ⟨0, by omega, by omega, below_iter w _ _, heap_alloc_new w _, Lib.NoAny.zero _ _⟩
  case round =>
    obtain ⟨i, hi, hg, hB, hit, hno⟩ := hrel
    have HN := Lib.hid hno
    have HB := Lib.hid hB
    have HT := Lib.hid hit
    clear hno hB
    by_cases hlt : i < s.size
    · have hin : ∀ b, s.data.toList[i]? = some b → b = s[i] := fun b hb => by rw [Lib.data_getElem? s i hlt] at hb; exact (Option.some.inj hb).symm
      by_cases hx : (s[i]'hlt).toNat < 128
      · have hnx := fun ty => Lib.run_next_ascii_at (P := Tryd.prog) wr w.heap.size s i ty hit hlt hx
        have hit2 := Lib.iterAt_heap wr w.heap.size s i (i + 1) hit
        have hB2 := Lib.below_iterAt HB.out (Nat.le_refl _) s (i + 1)
        generalize hW : wr.iterAt w.heap.size s (i + 1) = W at hnx hit2 hB2
        have HB2 := Lib.hid hB2
        obtain ⟨x, hxe⟩ : ∃ x : UInt8, s[i]'hlt = x := ⟨_, rfl⟩
        have hxl : s.data.toList[i]? = some x := by rw [← hxe]; exact Lib.data_getElem? s i hlt
        rw [hxe] at hnx hx
        have HX := Lib.hid hxl
        have hcon := Lib.contains_iff_indexByte bars.data.toList x
        clear hin hxl hB2 hW hit hxe
        cases hin : bars.data.toList.contains x
        · rw [hin] at hcon
          have hlt0 : ¬ ((0 : Int) ≤ Lib.indexByte bars.data.toList x) := of_decide_eq_false hcon.symm
          clear hcon
          go_wp2_with (go_at_call 73; refine (indexRune_low x hx _).mono ?_; rintro e w' ⟨rfl, hw⟩; rw [hw])
          go_roundg (s.size - (i + 1))
          case measure => omega
          case rel => exact ⟨i + 1, by omega, rfl, HB2.out, hit2, HN.out.succ HX.out hin⟩
        · rw [hin] at hcon
          have hge : (0 : Int) ≤ Lib.indexByte bars.data.toList x := of_decide_eq_true hcon.symm
          clear hcon
          go_wp2_with (go_at_call 73; refine (indexRune_low x hx _).mono ?_; rintro e w' ⟨rfl, hw⟩; rw [hw])
          go_ret
          exact ⟨by rw [Lib.indexAny_hit HN.out HX.out hin]; rfl, HB2.out⟩
      · have hnx := fun ty => Lib.run_next_any_at (P := Tryd.prog) wr w.heap.size s i ty hit hlt
        obtain ⟨d1, d2⟩ := decode_high s i hlt (by omega)
        have d3 := decode_le s i
        have d4 := decode_span s i hlt (by omega)
        obtain ⟨c, hc⟩ : ∃ c, (Utf8.decode s i).1 = c := ⟨_, rfl⟩
        obtain ⟨n, hn⟩ : ∃ n, (Utf8.decode s i).2 = n := ⟨_, rfl⟩
        rw [hc] at hnx d1 d3
        rw [hn] at hnx d2 d4
        have hit2 := Lib.iterAt_heap wr w.heap.size s i (i + n) hit
        have hB2 := Lib.below_iterAt HB.out (Nat.le_refl _) s (i + n)
        have hz : w.heap.size < (wr.iterAt w.heap.size s (i + n)).heap.size := (Array.getElem?_eq_some_iff.1 hit2).1
        generalize hW : wr.iterAt w.heap.size s (i + n) = W at hnx hit2 hB2 hz
        have HB2 := Lib.hid hB2
        have HI2 := Lib.hid hit2
        have HZ := Lib.hid hz
        have HD := Lib.hid d4
        have hsz : i + n ≤ s.size := by
          rcases Nat.lt_or_ge (i + n) (s.size + 1) with h | h
          · omega
          · obtain ⟨h1, _⟩ := d4 (n - 1) (by omega)
            omega
        have hlt0 : ¬ ((0 : Int) ≤ -1) := by omega
        clear hc hn hB2 hit2 hW hit hin hz d4
        go_wp2_with (go_at_call 73; refine (indexRune_high (c : Int) (by omega) (by omega) _).mono ?_; rintro e w' ⟨rfl, hbw⟩)
        go_roundg (s.size - (i + n))
        case measure => omega
        case rel =>
          refine ⟨i + n, hsz, rfl, HB2.out.trans (hbw.mono (Nat.le_of_lt HZ.out)), (hbw.block _ HZ.out).trans HI2.out, noAny_span HN.out fun k hk b hb => ?_⟩
          obtain ⟨h1, h2⟩ := HD.out k hk
          rw [Lib.data_getElem? s (i + k) h1] at hb
          cases hb
          exact bars_high _ h2
    · obtain rfl : i = s.size := by omega
      have hnx := fun ty => Lib.run_next_end_at (P := Tryd.prog) wr w.heap.size s s.size ty hit hlt
      go_wp2
      go_ret
      exact ⟨by rw [Lib.indexAny_none (by rw [← Lib.size_eq]; exact HN.out)]; rfl, HB.out⟩

theorem indexAny_any (s : ByteArray) (hs : s.size < 4294967281) (w : World) :
    Calls Tryd.prog 52 #[.string s, .string bars] w fun e w' => e = .returned (.int .i64 (Lib.indexAny s.data.toList bars.data.toList)) ∧ Below w.heap.size w w' := by
  by_cases h8 : s.size ≤ 8
  · exact indexAny_short s h8 w
  · refine (Tryd.strings_IndexAny_long (fun w => by kernel_rfl) s bars w (by decide) (by omega) hs (by decide) ?_).mono fun e w' ⟨h1, h2⟩ => ⟨h1, ?_⟩
    · intro j b hj
      have hb : bars.data.toList = [0, 10, 61] := rfl
      rw [hb] at hj
      have := List.mem_of_getElem? hj
      simp only [List.mem_cons, List.not_mem_nil, or_false] at this
      rcases this with rfl | rfl | rfl <;> decide
    · rw [h2]
      exact ((Below.refl _ _).alloc (Nat.le_refl _) _).alloc (by simp) _
theorem containsAny_any (s : ByteArray) (hs : s.size < 4294967281) (w : World) :
    Calls Tryd.prog 40 #[.string s, .string bars] w fun e w' => e = .returned (.bool (decide (0 ≤ Lib.indexAny s.data.toList bars.data.toList))) ∧ Below w.heap.size w w' := by
  go_enter Tryd.func40, Tryd.ntmps40
  go_wp2_with (go_at_call 52; refine (indexAny_any s hs _).mono ?_; rintro e w' ⟨rfl, hb⟩)
  go_ret
  exact ⟨rfl, hb⟩
/-- Some byte of s is one of the three. -/
def barred (s : ByteArray) : Bool := decide (0 ≤ Lib.indexAny s.data.toList [0, 10, 61])
end Go.Proofs.YtkkffccdkbijkaaDoor.H
namespace Go.Proofs.YtkkffccdkbijkaaDoor.I
open Go.RowKit Go.Proofs.YtkkffccdkbijkaaDoor.H
def strings_ContainsAny.f (a0 a1 : ByteArray) : Option Bool := if a1.data.toList = [0, 10, 61] ∧ a0.size < 4294967281 then some (barred a0) else none
theorem strings_ContainsAny.calls (a0 a1 : ByteArray) (r : Bool) (w : World) (h : strings_ContainsAny.f a0 a1 = some r) :
    Calls Tryd.prog 40 #[.string a0, .string a1] w fun e w' => e = .returned (.bool r) ∧ Below w.heap.size w w' := by
  unfold strings_ContainsAny.f at h
  split at h
  case isFalse => cases h
  case isTrue hh =>
    cases h
    obtain rfl : a1 = bars := by
      have h1 := hh.1
      cases a1 with | mk d => cases d with | mk l => exact congrArg (fun l : List UInt8 => (⟨⟨l⟩⟩ : ByteArray)) h1
    exact containsAny_any a0 hh.2 w
end Go.Proofs.YtkkffccdkbijkaaDoor.I
