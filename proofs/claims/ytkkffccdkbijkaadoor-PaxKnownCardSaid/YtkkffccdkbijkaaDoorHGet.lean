/- pax.Get: what its call does. -/
import Derived.Test.YtkkffccdkbijkaaDoorHOneP
import Derived.Test.YtkkffccdkbijkaaDoorHCatch
import Derived.Deep.QuietTactic
import Derived.BigQuiet
import Derived.Outline
namespace Go.Proofs.YtkkffccdkbijkaaDoor.H
open Go.RowKit Go.Lib Go.Proofs.YtkkffccdkbijkaaDoor.I Go.Proofs.YtkkffccdkbijkaaDoorW.PrintWords Go.Proofs.YtkkffccdkbijkaaDoorW.PrintLast Go.Proofs.YtkkffccdkbijkaaDoorW.PrintMore
attribute [local go_sem high] str_leq str_gtr
set_option linter.unusedVariables false
set_option linter.unusedSimpArgs false

/-- The records that stand in a row of bytes. -/
def getL : Nat → List Pr → Nat → List Int → List Pr × Int × Int
  | 0, out, _, _ => (out, 0, 0)
  | f + 1, out, p, l =>
    if l = [] then (out, 0, 0)
    else if out.length = 64 then ([], p, 3)
    else match oneOf l with
      | .error c => ([], p, c)
      | .ok (k, v, n) => if ∃ u ∈ (out.getLast?).map (·.f0), Op.bytesLess u.toList k.toList = false then ([], p, 92) else getL f (out ++ [⟨k, v⟩]) (p + n) (l.drop n)
def getOf (l : List Int) : List Pr × Int × Int := getL l.length [] 0 l
theorem getL_end (f : Nat) (out : List Pr) (p : Nat) : getL f out p [] = (out, 0, 0) := by cases f <;> simp [getL]
theorem getL_full {f : Nat} {out : List Pr} {p : Nat} {l : List Int} (hl : l ≠ []) (h : out.length = 64) : getL (f + 1) out p l = ([], (p : Int), 3) := by
  rw [getL, if_neg hl, if_pos h]
theorem getL_err {f : Nat} {out : List Pr} {p : Nat} {l : List Int} {c : Int} (hl : l ≠ []) (h : out.length ≠ 64) (e : oneOf l = .error c) : getL (f + 1) out p l = ([], (p : Int), c) := by
  rw [getL, if_neg hl, if_neg h, e]
theorem getL_ord {f : Nat} {out : List Pr} {p n : Nat} {l : List Int} {k v : ByteArray} (hl : l ≠ []) (h : out.length ≠ 64) (e : oneOf l = .ok (k, v, n)) (z : Pr) (h0 : 0 < out.length) (hb : Op.bytesLess (out.getD (out.length - 1) z).f0.toList k.toList = false) : getL (f + 1) out p l = ([], (p : Int), 92) := by
  rw [getL, if_neg hl, if_neg h, e]
  dsimp only
  rw [if_pos]
  refine ⟨(out.getD (out.length - 1) z).f0, ?_, hb⟩
  rw [List.getLast?_eq_getElem?, List.getElem?_eq_getElem (by omega), List.getD_eq_getElem?_getD, List.getElem?_eq_getElem (by omega)]
  simp
theorem getL_go {f : Nat} {out : List Pr} {p n : Nat} {l : List Int} {k v : ByteArray} (hl : l ≠ []) (h : out.length ≠ 64) (e : oneOf l = .ok (k, v, n)) (z : Pr) (hb : 0 < out.length → Op.bytesLess (out.getD (out.length - 1) z).f0.toList k.toList = true) : getL (f + 1) out p l = getL f (out ++ [⟨k, v⟩]) (p + n) (l.drop n) := by
  rw [getL, if_neg hl, if_neg h, e]
  dsimp only
  rw [if_neg]
  rintro ⟨u, hu, hf⟩
  have h0 : 0 < out.length := by
    rcases Nat.eq_zero_or_pos out.length with h0 | h0
    · rw [List.eq_nil_of_length_eq_zero h0] at hu; simp at hu
    · exact h0
  have := hb h0
  rw [List.getLast?_eq_getElem?, List.getElem?_eq_getElem (by omega)] at hu
  rw [List.getD_eq_getElem?_getD, List.getElem?_eq_getElem (by omega)] at this
  obtain rfl : out[out.length - 1].f0 = u := by simpa using hu
  rw [Option.getD_some] at this
  rw [this] at hf
  cases hf

/-- How long a record is that was read. -/
theorem oneOf_len {l : List Int} {k v : ByteArray} {n : Nat} (h : oneOf l = .ok (k, v, n)) : 1 ≤ n ∧ n ≤ l.length := by
  unfold oneOf at h
  dsimp only at h
  split at h
  · cases h
  · split at h
    · cases h
    · rename_i hn
      split at h
      · cases h
      · split at h
        · cases h
        · split at h
          · cases h
          · rename_i hs
            injection h with h
            obtain ⟨rfl, rfl, rfl⟩ := by simpa using h
            have := fun hf => rec_small (k := keyOf l (digN 5 l) (numFrom 0 (l.take (digN 5 l)) - 1) (ix61 ((l.take (numFrom 0 (l.take (digN 5 l)) - 1)).drop (digN 5 l + 1))).toNat) (v := valOf l (digN 5 l) (numFrom 0 (l.take (digN 5 l)) - 1) (ix61 ((l.take (numFrom 0 (l.take (digN 5 l)) - 1)).drop (digN 5 l + 1))).toNat) hf
            simp only [not_or, Decidable.not_not, Nat.not_lt] at hn hs
            rename_i _ hf
            have := this (by simpa using hf)
            omega

/-- slices.Clip of pairs. -/
theorem clip_calls (A : Option Addr) (n c : Nat) (w : World) (hn : n ≤ c) (hm : n ≤ 9223372036854775807) :
    Calls Tryd.prog 26 #[.slice A n c] w fun e w' => e = .returned (.slice A n n) ∧ w = w' := by
  have hc' : (n : Int) ≤ (c : Int) := by omega
  go_enter Tryd.func26, Tryd.ntmps26
  go_wp2
  go_ret
  exact ⟨rfl, rfl⟩

/-- pax.one, a place in a row. -/
theorem one_at (A : Option Addr) (c p : Nat) (l : List Int) (w W : World) (hC : Kd.C (Kd.int .u8) w A l.length l) (hb : Below w.heap.size w W) (hcap : l.length ≤ c) (hL : l.length ≤ 140737488355328) (hpl : p < l.length) (hG : GOK w) :
    Calls Tryd.prog 32 #[.slice A l.length c, .int .i64 p] W (OneEnd p (l.drop p) W) := by
  obtain ⟨ad, rfl, hcell⟩ := hC.2.2 (by omega)
  have hlen : l.length = p + (l.drop p).length := by rw [List.length_drop]; omega
  have hcl : ∀ j, j < l.length → w.cell? (ad.add j) = some (.int .u8 (l[j]?.getD 0)) := fun j hj => by
    obtain ⟨cs, h1, h2, h3⟩ := hcell j l[j] (List.getElem?_eq_getElem hj)
    obtain rfl : cs = [.int .u8 l[j]] := h2
    have := h3 0 _ rfl
    rw [List.getElem?_eq_getElem hj]
    simpa [Kd.int, Kd.scalar] using this
  have hlt : ad.block < w.heap.size := by
    have := World.block_lt_of_cell? _ _ (hcl p hpl)
    rwa [add_block] at this
  rw [hlen]
  refine one_calls ad p (l.drop p) c (by omega) (by omega) (by rw [List.length_drop]; omega) W (Nat.lt_of_lt_of_le hlt hb.size) (fun j hj => ?_) (hG.below hb)
  have e : (ad.add p).add j = ad.add (p + j) := by
    unfold Addr.add
    by_cases h1 : p = 0 <;> by_cases h2 : j = 0 <;> simp [h1, h2, Nat.add_assoc]
  rw [e, (hb.cell (by rw [add_block]; exact hlt)), hcl (p + j) (by rw [List.length_drop] at hj; omega), List.getElem?_drop]
theorem one_err {A : Option Addr} {c p : Nat} {l : List Int} {w W : World} {cd : Int} (hC : Kd.C (Kd.int .u8) w A l.length l) (hb : Below w.heap.size w W) (hcap : l.length ≤ c) (hL : l.length ≤ 140737488355328) (hpl : p < l.length) (hG : GOK w) (h : oneOf (l.drop p) = .error cd) :
    Calls Tryd.prog 32 #[.slice A l.length c, .int .i64 p] W fun e w' => e = .panicked [{ v := .iface 65 (.agg #[.int .i64 p, .int .i64 cd]), recovered := false }] ∧ Below W.heap.size W w' := by
  refine (one_at A c p l w W hC hb hcap hL hpl hG).mono fun e w' he => ?_
  unfold OneEnd at he
  rw [h] at he
  exact he
theorem one_yes {A : Option Addr} {c p n : Nat} {l : List Int} {w W : World} {k v : ByteArray} (hC : Kd.C (Kd.int .u8) w A l.length l) (hb : Below w.heap.size w W) (hcap : l.length ≤ c) (hL : l.length ≤ 140737488355328) (hpl : p < l.length) (hG : GOK w) (h : oneOf (l.drop p) = .ok (k, v, n)) :
    Calls Tryd.prog 32 #[.slice A l.length c, .int .i64 p] W fun e w' => e = .returned (.tuple #[.agg #[.string k, .string v], .int .i64 ((p : Int) + (n : Int))]) ∧ Below W.heap.size W w' := by
  refine (one_at A c p l w W hC hb hcap hL hpl hG).mono fun e w' he => ?_
  unfold OneEnd at he
  rw [h] at he
  exact he

/-- What holds at the head of each round: so many records read. -/
structure GInv (l : List Int) (w : World) (r : List Pr × Int × Int) (g : Nat) (out : List Pr) (p : Nat) (v : Value) (wx : World) : Prop where
  hp : p ≤ l.length
  hg : l.length - p ≤ g
  hr : getL g out p (l.drop p) = r
  ho : out.length ≤ 64
  b0 : wx.heap[w.heap.size]? = some (.cells #[v] 22 (0, 0))
  b1 : wx.heap[w.heap.size + 1]? = some (.cells #[.int .i64 p] 3 (0, 0))
  b2 : wx.heap[w.heap.size + 1 + 1]? = some (.cells #[.int .i64 0] 24 (0, 0))
  hR : Kd.R k32 32 wx (w.heap.size + 1 + 1 + 1) (fun k => w.heap.size + 1 + 1 + 1 ≤ k) v out
  hB : Below w.heap.size w wx
theorem one_frozen {W : World} {b : Nat} {v : Value} {t : TypeId} (h : W.heap[b]? = some (.cells #[v] t (0, 0))) : W.frozen? ⟨b, 0, none⟩ = false := by simp [World.frozen?, h]
theorem one_cell {W : World} {b : Nat} {v : Value} {t : TypeId} (h : W.heap[b]? = some (.cells #[v] t (0, 0))) : W.cell? ⟨b, 0, none⟩ = some v := (blk_cell h 0).trans rfl
theorem info_pr : (Tryd.prog.info? 32).map (fun i => (i.zero, i.size, i.bytes)) = some (some (.agg #[.string ⟨#[]⟩, .string ⟨#[]⟩]), 2, 32) := by kernel_rfl
theorem blk_step {W W' : World} {b base q : Nat} {o o' : Obj} (h : W.heap[b]? = some o) (hb : Below base ((W.alloc o').drewN q) W') (hlt : b < base) : W'.heap[b]? = some o :=
  (hb.block b hlt).trans ((Below.heap_alloc W o' b (Array.getElem?_eq_some_iff.1 h).1).trans h)
theorem set3b {W : World} {B : Nat} {v0 v1 v2 x0 x1 x2 : Value} (c0 : W.cell? ⟨B, 0, none⟩ = some v0) (c1 : W.cell? ⟨B + 1, 0, none⟩ = some v1) (c2 : W.cell? ⟨B + 1 + 1, 0, none⟩ = some v2) :
    (((W.setCell ⟨B, 0, none⟩ x0).setCell ⟨B + 1, 0, none⟩ x1).setCell ⟨B + 1 + 1, 0, none⟩ x2).cell? ⟨B, 0, none⟩ = some x0 ∧ (((W.setCell ⟨B, 0, none⟩ x0).setCell ⟨B + 1, 0, none⟩ x1).setCell ⟨B + 1 + 1, 0, none⟩ x2).cell? ⟨B + 1, 0, none⟩ = some x1 ∧ (((W.setCell ⟨B, 0, none⟩ x0).setCell ⟨B + 1, 0, none⟩ x1).setCell ⟨B + 1 + 1, 0, none⟩ x2).cell? ⟨B + 1 + 1, 0, none⟩ = some x2 := set3 (x0 := x0) (x1 := x1) (x2 := x2) c0 c1 c2
theorem put2 {W : World} {B : Nat} {v0 v1 v2 x0 x1 : Value} {t0 t1 t2 : TypeId} (h0 : W.heap[B]? = some (.cells #[v0] t0 (0, 0))) (h1 : W.heap[B + 1]? = some (.cells #[v1] t1 (0, 0))) (h2 : W.heap[B + 1 + 1]? = some (.cells #[v2] t2 (0, 0))) :
    ((W.setCell ⟨B, 0, none⟩ x0).setCell ⟨B + 1, 0, none⟩ x1).heap[B]? = some (.cells #[x0] t0 (0, 0)) ∧ ((W.setCell ⟨B, 0, none⟩ x0).setCell ⟨B + 1, 0, none⟩ x1).heap[B + 1]? = some (.cells #[x1] t1 (0, 0)) ∧ ((W.setCell ⟨B, 0, none⟩ x0).setCell ⟨B + 1, 0, none⟩ x1).heap[B + 1 + 1]? = some (.cells #[v2] t2 (0, 0)) := by
  have e1 : (W.setCell ⟨B, 0, none⟩ x0).heap[B]? = some (.cells #[x0] t0 (0, 0)) := by simpa using blk_set h0 0 x0
  have e2 : (W.setCell ⟨B, 0, none⟩ x0).heap[B + 1]? = some (.cells #[v1] t1 (0, 0)) := (Below.heap_setCell _ _ _ _ (by simp)).trans h1
  have e3 : (W.setCell ⟨B, 0, none⟩ x0).heap[B + 1 + 1]? = some (.cells #[v2] t2 (0, 0)) := (Below.heap_setCell _ _ _ _ (by simp; omega)).trans h2
  exact ⟨(Below.heap_setCell _ _ _ _ (by simp)).trans e1, by simpa using blk_set e2 0 x1, (Below.heap_setCell _ _ _ _ (by simp)).trans e3⟩

theorem start0 (w : World) : (((w.alloc (.cells #[.slice none 0 0] 22)).alloc (.cells #[.int .i64 0] 3)).alloc (.cells #[.int .i64 0] 24)).heap[w.heap.size]? = some (.cells #[.slice none 0 0] 22 (0, 0)) := by
  have h := heap_alloc_new w (.cells #[.slice none 0 0] 22)
  rw [Below.heap_alloc _ _ _ (by simp; omega), Below.heap_alloc _ _ _ (by simp)]
  exact h
theorem start1 (w : World) : (((w.alloc (.cells #[.slice none 0 0] 22)).alloc (.cells #[.int .i64 0] 3)).alloc (.cells #[.int .i64 0] 24)).heap[w.heap.size + 1]? = some (.cells #[.int .i64 ((0 : Nat) : Int)] 3 (0, 0)) := by
  have h := heap_alloc_new (w.alloc (.cells #[.slice none 0 0] 22)) (.cells #[.int .i64 0] 3)
  rw [World.size_alloc] at h
  rw [Below.heap_alloc _ _ _ (by simp)]
  exact h
theorem start2 (w : World) : (((w.alloc (.cells #[.slice none 0 0] 22)).alloc (.cells #[.int .i64 0] 3)).alloc (.cells #[.int .i64 0] 24)).heap[w.heap.size + 1 + 1]? = some (.cells #[.int .i64 0] 24 (0, 0)) := by
  have h := heap_alloc_new ((w.alloc (.cells #[.slice none 0 0] 22)).alloc (.cells #[.int .i64 0] 3)) (.cells #[.int .i64 0] 24)
  rwa [World.size_alloc, World.size_alloc] at h
theorem start3 (w : World) : Below w.heap.size w (((w.alloc (.cells #[.slice none 0 0] 22)).alloc (.cells #[.int .i64 0] 3)).alloc (.cells #[.int .i64 0] 24)) := (((Below.refl _ _).alloc (Nat.le_refl _) _).alloc (by simp) _).alloc (by simp; omega) _
set_option maxRecDepth 100000 in
set_option maxHeartbeats 16000000 in
theorem get_calls (A : Option Addr) (c : Nat) (l : List Int) (w : World) (hC : Kd.C (Kd.int .u8) w A l.length l) (hcap : l.length ≤ c) (hL : l.length ≤ 140737488355328) (hG : GOK w) :
    Calls Tryd.prog 19 #[.slice A l.length c] w fun e w' => ∃ v, e = .returned (.tuple #[v, .int .i64 (getOf l).2.1, .int .i64 (getOf l).2.2]) ∧ Kd.V k32 32 w' w.heap.size (fun k_ => w.heap.size ≤ k_) v (getOf l).1 ∧ Below w.heap.size w w' := by
  have hmf : ∀ (fn : Fn) (first cap : Array Value) (w : World), (Instr.makeFunc fn first cap).run Tryd.prog w = .ok (.func fn first cap) w := fun _ _ _ _ => rfl
  obtain ⟨r, hr⟩ : ∃ r, getOf l = r := ⟨_, rfl⟩
  rw [hr]
  have HR := Lib.hid hr
  have HC := Lib.hid hC
  have HG := Lib.hid hG
  clear hr hC hG
  go_enter_defers Tryd.func19, Tryd.ntmps19
  go_wp2
  go_loopg [] (l.length) (fun g wx => ∃ out p v, GInv l w r g out p v wx)
  case atStart => exact ⟨[], 0, .slice none 0 0, Nat.zero_le _, Nat.le_refl _, HR.out, Nat.zero_le _, start0 w, start1 w, start2 w, Kd.R_nil _ _ _ _ _, start3 w⟩
  case round =>
    obtain ⟨out, p, v, hp, hg, hr', ho, b0, b1, b2, hR, hB⟩ := hrel
    obtain ⟨A2, c2, rfl, hle2, hC2⟩ := Kd.R_reads hR
    have HB0 := Lib.hid b0
    have HB1 := Lib.hid b1
    have HB2 := Lib.hid b2
    have hc0 := one_cell b0
    have hc1 := one_cell b1
    have HRR := Lib.hid hr'
    have HBB := Lib.hid hB
    have HRo := Lib.hid hR
    have HCo := Lib.hid hC2
    clear b0 b1 b2 hr' hB hR hC2
    by_cases hpl : p < l.length
    · obtain ⟨g, rfl⟩ : ∃ g, gk = g + 1 := ⟨gk - 1, by omega⟩
      have HN := Lib.hid (show l.drop p ≠ [] by intro e; have := congrArg List.length e; rw [List.length_drop, List.length_nil] at this; omega)
      by_cases h64 : out.length = 64
      · have HR2 := Lib.hid (HRR.out.symm.trans (getL_full HN.out h64))
        go_wp2
        refine leaves_cons (f := 31) (args := #[.pointer (some ⟨w.heap.size, 0, none⟩), .pointer (some ⟨w.heap.size + 1, 0, none⟩), .pointer (some ⟨w.heap.size + 1 + 1, 0, none⟩)]) (by simp) (by simp [go_sem]) ?_
        refine (catch_broken w.heap.size (p : Int) 3 _ _ _ [] _ HB0.out HB1.out HB2.out).mono ?_
        rintro e u' w'' ⟨rfl, rfl, k0, k1, k2, hb9⟩
        simp [Leaves, settle, results, Tryd.results19, go_sem, k0, k1, k2]
        rw [HR2.out]
        exact ⟨_, ⟨rfl, rfl, rfl⟩, Kd.V_nil _ _ _ _ _, HBB.out.trans hb9⟩

      · have h64' : (out.length == 64) = false := beq_eq_false_iff_ne.2 h64
        obtain ⟨o, ho1⟩ : ∃ o, oneOf (l.drop p) = o := ⟨_, rfl⟩
        cases o with
        | error cd =>
          have HO1 := Lib.hid ho1
          clear ho1
          have HR2 := Lib.hid (HRR.out.symm.trans (getL_err HN.out h64 HO1.out))
          go_wp2_with (go_at_call 32; refine (one_err HC.out HBB.out hcap hL hpl HG.out HO1.out).mono ?_; rintro e w1 ⟨rfl, hb1⟩)
          refine leaves_cons (f := 31) (args := #[.pointer (some ⟨w.heap.size, 0, none⟩), .pointer (some ⟨w.heap.size + 1, 0, none⟩), .pointer (some ⟨w.heap.size + 1 + 1, 0, none⟩)]) (by simp) (by simp [go_sem]) ?_
          refine (catch_broken w.heap.size (p : Int) cd _ _ _ [] _ (blk_b (w := w) HB0.out hb1) (blk_b (w := w) HB1.out hb1) (blk_b (w := w) HB2.out hb1)).mono ?_
          rintro e u' w'' ⟨rfl, rfl, k0, k1, k2, hb9⟩
          simp [Leaves, settle, results, Tryd.results19, go_sem, k0, k1, k2]
          rw [HR2.out]
          exact ⟨_, ⟨rfl, rfl, rfl⟩, Kd.V_nil _ _ _ _ _, (HBB.out.trans (hb1.mono HBB.out.size)).trans hb9⟩

        | ok x =>
          obtain ⟨k, v, n⟩ := x
          have HO1 := Lib.hid ho1
          clear ho1
          have hlen := oneOf_len HO1.out
          rw [List.length_drop] at hlen
          obtain ⟨hn1, hn2⟩ := hlen
          have hw1 : (-9223372036854775808 : Int) ≤ (p : Int) + (n : Int) := by omega
          have hw2 : (p : Int) + (n : Int) ≤ 9223372036854775807 := by omega
          rcases Nat.eq_zero_or_pos out.length with h0 | h0
          · have h0' : decide (0 < out.length) = false := decide_eq_false (by omega)
            have H0 := Lib.hid h0
            clear h0
            go_wp2_with (go_at_call 32; refine (one_yes HC.out HBB.out hcap hL hpl HG.out HO1.out).mono ?_; rintro e w1 ⟨rfl, hb1⟩; have HC1 := Lib.hid (blk_b (w := w) HB0.out hb1); have HC2 := Lib.hid (blk_b (w := w) HB1.out hb1); have HC3 := Lib.hid (blk_b (w := w) HB2.out hb1); have hd0 := fun o => al_cell o (one_cell HC1.out); have hd1 := fun o => al_cell o (one_cell HC2.out))
            go_quiet (fail)
            have HBW := Lib.hid (below_d hb1 (.cells #[.string k, .string v] 32) nq)
            have HRW := Lib.hid (Kd.R_below HRo.out HBW.out)
            have HSE := Lib.hid (show ((w1.alloc (.cells #[.string k, .string v] 32)).drewN nq).heap.size = w1.heap.size + 1 from World.size_alloc _ _)
            have HSZ := Lib.hid (show w.heap.size + 1 + 1 + 1 ≤ ((w1.alloc (.cells #[.string k, .string v] 32)).drewN nq).heap.size from by have := blk_lt HC3.out; simp [World.drewN]; omega)
            go_wp2_with (at_builtin; refine Kd.R_append k32 (w0 := ((w1.alloc (.cells #[.string k, .string v] 32)).drewN nq)) (w.heap.size + 1 + 1 + 1) rfl (.tmp 42) (.tmp 44) 22 32 _ 32 rfl Tryd.underlying22 info_pr rfl (by decide) (by decide) (.slice A2 out.length c2) out ⟨k, v⟩ [.string k, .string v] (fun k => w.heap.size + 1 + 1 + 1 ≤ k) (fun _ => False) rfl (by rw [HSE.out]; rfl) (k32_mkM _ _ _ ⟨k, v⟩) (fun _ h => h.elim) (fun k hk => Nat.le_trans HSZ.out hk) HRW.out (Below.refl _ _) HSZ.out (by omega) ?_; intro v1 w2 hR1 hB2 hg1 hat1; clear hg1 hat1; obtain ⟨A9, c9, hv9⟩ := Kd.R_slice hR1; rw [List.length_append, List.length_singleton] at hv9; subst hv9; have HR1 := Lib.hid hR1; have HB3 := Lib.hid hB2; clear hR1 hB2; have HE0 := Lib.hid (blk_step HC1.out HB3.out (by omega)); have HE1 := Lib.hid (blk_step HC2.out HB3.out (by omega)); have HE2 := Lib.hid (blk_step HC3.out HB3.out (by omega)); have he0 := one_cell HE0.out; have he1 := one_cell HE1.out; have hf0 := one_frozen HE0.out; have hf1 := one_frozen HE1.out)
            go_roundg g
            case measure => omega
            case rel =>
              obtain ⟨z0, z1, z2⟩ := put2 (x0 := .slice A9 (out.length + 1) c9) (x1 := .int .i64 ((p : Int) + (n : Int))) HE0.out HE1.out HE2.out
              exact ⟨out ++ [⟨k, v⟩], p + n, .slice A9 (out.length + 1) c9, by omega, by omega, by rw [← List.drop_drop, ← getL_go HN.out h64 HO1.out z32 (fun h => absurd h (by have := H0.out; omega))]; exact HRR.out, by rw [List.length_append, List.length_singleton]; omega, z0, by rw [Int.natCast_add]; exact z1, z2, Kd.R_far (p := ⟨w.heap.size + 1, 0, none⟩) (Kd.R_far (p := ⟨w.heap.size, 0, none⟩) HR1.out (fun k hk => by simp; omega) _) (fun k hk => by simp; omega) _, ((HBB.out.trans ((HBW.out.mono HBB.out.size).trans (HB3.out.mono (by omega)))).setCell (p := ⟨w.heap.size, 0, none⟩) (Nat.le_refl _) _).setCell (p := ⟨w.heap.size + 1, 0, none⟩) (Nat.le_succ _) _⟩

          · have h0' : decide (0 < out.length) = true := decide_eq_true h0
            obtain ⟨ad2, rfl, hq2, _⟩ := at_T32 HCo.out ((out.length - 1 : Nat) : Int) (by omega) (by omega)
            unfold rd_T32 at hq2
            rw [Int.toNat_natCast] at hq2
            obtain ⟨u, hu⟩ : ∃ u, (out.getD (out.length - 1) z32).f0 = u := ⟨_, rfl⟩
            rw [hu] at hq2
            have HU := Lib.hid hu
            clear hu
            cases hbl : Op.bytesLess u.toList k.toList with
            | true =>
              have HBL := Lib.hid hbl
              have hbl' := hbl
              clear hbl
              go_wp2_with (go_at_call 32; refine (one_yes HC.out HBB.out hcap hL hpl HG.out HO1.out).mono ?_; rintro e w1 ⟨rfl, hb1⟩; have HC1 := Lib.hid (blk_b (w := w) HB0.out hb1); have HC2 := Lib.hid (blk_b (w := w) HB1.out hb1); have HC3 := Lib.hid (blk_b (w := w) HB2.out hb1); have hd0 := fun o => al_cell o (one_cell HC1.out); have hd1 := fun o => al_cell o (one_cell HC2.out))
              have hq3 := al_cell (.cells #[.string k, .string v] 32) ((hb1.cell (World.block_lt_of_cell? _ _ hq2)).trans hq2)
              have i1 : IntKind.i64.wrap ((out.length : Int) - 1) = ((out.length - 1 : Nat) : Int) := by rw [IntWalk.i64_in _ (by omega)]; omega
              have i2 : out.length - 1 < out.length := by omega
              have i3 : (0 : Int) ≤ ((out.length - 1 : Nat) : Int) := by omega
              go_quiet (fail)
              have HBW := Lib.hid (below_d hb1 (.cells #[.string k, .string v] 32) nq)
              have HRW := Lib.hid (Kd.R_below HRo.out HBW.out)
              have HSE := Lib.hid (show ((w1.alloc (.cells #[.string k, .string v] 32)).drewN nq).heap.size = w1.heap.size + 1 from World.size_alloc _ _)
              have HSZ := Lib.hid (show w.heap.size + 1 + 1 + 1 ≤ ((w1.alloc (.cells #[.string k, .string v] 32)).drewN nq).heap.size from by have := blk_lt HC3.out; simp [World.drewN]; omega)
              go_wp2_with (at_builtin; refine Kd.R_append k32 (w0 := ((w1.alloc (.cells #[.string k, .string v] 32)).drewN nq)) (w.heap.size + 1 + 1 + 1) rfl (.tmp 42) (.tmp 44) 22 32 _ 32 rfl Tryd.underlying22 info_pr rfl (by decide) (by decide) (.slice (some ad2) out.length c2) out ⟨k, v⟩ [.string k, .string v] (fun k => w.heap.size + 1 + 1 + 1 ≤ k) (fun _ => False) rfl (by rw [HSE.out]; rfl) (k32_mkM _ _ _ ⟨k, v⟩) (fun _ h => h.elim) (fun k hk => Nat.le_trans HSZ.out hk) HRW.out (Below.refl _ _) HSZ.out (by omega) ?_; intro v1 w2 hR1 hB2 hg1 hat1; clear hg1 hat1; obtain ⟨A9, c9, hv9⟩ := Kd.R_slice hR1; rw [List.length_append, List.length_singleton] at hv9; subst hv9; have HR1 := Lib.hid hR1; have HB3 := Lib.hid hB2; clear hR1 hB2; have HE0 := Lib.hid (blk_step HC1.out HB3.out (by omega)); have HE1 := Lib.hid (blk_step HC2.out HB3.out (by omega)); have HE2 := Lib.hid (blk_step HC3.out HB3.out (by omega)); have he0 := one_cell HE0.out; have he1 := one_cell HE1.out; have hf0 := one_frozen HE0.out; have hf1 := one_frozen HE1.out)
              go_roundg g
              case measure => omega
              case rel =>
                obtain ⟨z0, z1, z2⟩ := put2 (x0 := .slice A9 (out.length + 1) c9) (x1 := .int .i64 ((p : Int) + (n : Int))) HE0.out HE1.out HE2.out
                exact ⟨out ++ [⟨k, v⟩], p + n, .slice A9 (out.length + 1) c9, by omega, by omega, by rw [← List.drop_drop, ← getL_go HN.out h64 HO1.out z32 (fun h => by rw [HU.out]; exact HBL.out)]; exact HRR.out, by rw [List.length_append, List.length_singleton]; omega, z0, by rw [Int.natCast_add]; exact z1, z2, Kd.R_far (p := ⟨w.heap.size + 1, 0, none⟩) (Kd.R_far (p := ⟨w.heap.size, 0, none⟩) HR1.out (fun k hk => by simp; omega) _) (fun k hk => by simp; omega) _, ((HBB.out.trans ((HBW.out.mono HBB.out.size).trans (HB3.out.mono (by omega)))).setCell (p := ⟨w.heap.size, 0, none⟩) (Nat.le_refl _) _).setCell (p := ⟨w.heap.size + 1, 0, none⟩) (Nat.le_succ _) _⟩

            | false =>
              have HBL := Lib.hid hbl
              have hbl' := hbl
              clear hbl
              have HR2 := Lib.hid (HRR.out.symm.trans (getL_ord HN.out h64 HO1.out z32 h0 (by rw [HU.out]; exact HBL.out)))
              go_wp2_with (go_at_call 32; refine (one_yes HC.out HBB.out hcap hL hpl HG.out HO1.out).mono ?_; rintro e w1 ⟨rfl, hb1⟩; have HC1 := Lib.hid (blk_b (w := w) HB0.out hb1); have HC2 := Lib.hid (blk_b (w := w) HB1.out hb1); have HC3 := Lib.hid (blk_b (w := w) HB2.out hb1); have hd0 := fun o => al_cell o (one_cell HC1.out); have hd1 := fun o => al_cell o (one_cell HC2.out))
              have hq3 := al_cell (.cells #[.string k, .string v] 32) ((hb1.cell (World.block_lt_of_cell? _ _ hq2)).trans hq2)
              have i1 : IntKind.i64.wrap ((out.length : Int) - 1) = ((out.length - 1 : Nat) : Int) := by rw [IntWalk.i64_in _ (by omega)]; omega
              have i2 : out.length - 1 < out.length := by omega
              have i3 : (0 : Int) ≤ ((out.length - 1 : Nat) : Int) := by omega
              go_quiet (fail)
              go_wp2
              refine leaves_cons (f := 31) (args := #[.pointer (some ⟨w.heap.size, 0, none⟩), .pointer (some ⟨w.heap.size + 1, 0, none⟩), .pointer (some ⟨w.heap.size + 1 + 1, 0, none⟩)]) (by simp) (by simp [go_sem]) ?_
              refine (catch_broken w.heap.size (p : Int) 92 _ _ _ [] _ (blk_step HC1.out (Below.refl (w.heap.size + 1) _) (by omega)) (blk_step HC2.out (Below.refl (w.heap.size + 1 + 1) _) (by omega)) (blk_step HC3.out (Below.refl (w.heap.size + 1 + 1 + 1) _) (by omega))).mono ?_
              rintro e u' w'' ⟨rfl, rfl, k0, k1, k2, hb9⟩
              simp [Leaves, settle, results, Tryd.results19, go_sem, k0, k1, k2]
              rw [HR2.out]
              exact ⟨_, ⟨rfl, rfl, rfl⟩, Kd.V_nil _ _ _ _ _, (HBB.out.trans ((below_d hb1 (.cells #[.string k, .string v] 32) nq).mono HBB.out.size)).trans hb9⟩

    · have hpl' : decide (p < l.length) = false := decide_eq_false hpl
      have HR2 := Lib.hid (show r = (out, 0, 0) from HRR.out.symm.trans (by rw [List.drop_eq_nil_of_le (by omega)]; exact getL_end _ _ _))
      have hc2 := one_cell HB2.out
      have hf0 := one_frozen HB0.out
      have hf1 := one_frozen HB1.out
      have hf2 := one_frozen HB2.out
      have hgn : gk = gk := rfl
      go_wp2_with (go_at_call 26; refine (clip_calls A2 out.length c2 _ hle2 (by omega)).mono ?_; rintro e w' ⟨rfl, rfl⟩)
      refine leaves_cons (f := 31) (args := #[.pointer (some ⟨w.heap.size, 0, none⟩), .pointer (some ⟨w.heap.size + 1, 0, none⟩), .pointer (some ⟨w.heap.size + 1 + 1, 0, none⟩)]) (by simp) (by simp [go_sem]) ?_
      refine (catch_idle _ _ _ _).mono ?_
      rintro e u' w'' ⟨rfl, rfl, rfl⟩
      obtain ⟨k0, k1, k2⟩ := set3b (B := w.heap.size) (x0 := .slice A2 out.length out.length) (x1 := .int .i64 0) (x2 := .int .i64 0) hc0 hc1 hc2
      have HE := Lib.hid (Kd.R_far (p := ⟨w.heap.size + 1 + 1, 0, none⟩) (Kd.R_far (p := ⟨w.heap.size + 1, 0, none⟩) (Kd.R_far (p := ⟨w.heap.size, 0, none⟩) HRo.out (fun k hk => by simp; omega) (.slice A2 out.length out.length)) (fun k hk => by simp; omega) (.int .i64 0)) (fun k hk => by simp; omega) (.int .i64 0))
      have HW := Lib.hid (((HBB.out.setCell (p := ⟨w.heap.size, 0, none⟩) (Nat.le_refl _) (.slice A2 out.length out.length)).setCell (p := ⟨w.heap.size + 1, 0, none⟩) (Nat.le_succ _) (.int .i64 0)).setCell (p := ⟨w.heap.size + 1 + 1, 0, none⟩) (Nat.le_add_right _ 2) (.int .i64 0))
      simp [Leaves, settle, results, Tryd.results19, go_sem, k0, k1, k2]
      rw [HR2.out]
      exact ⟨_, ⟨rfl, rfl, rfl⟩, Kd.V_mk (Nat.le_refl _) (Kd.F_mono (Kd.V_F (base := 0) (Kd.R_V HE.out)) (fun k hk => by omega)), HW.out⟩
end Go.Proofs.YtkkffccdkbijkaaDoor.H
namespace Go.Proofs.YtkkffccdkbijkaaDoor.I
open Go.RowKit Go.Proofs.YtkkffccdkbijkaaDoor.H Go.Proofs.YtkkffccdkbijkaaDoorW.PrintWords Go.Proofs.YtkkffccdkbijkaaDoorW.PrintLast Go.Proofs.YtkkffccdkbijkaaDoorW.PrintMore
set_option linter.unusedVariables false
def pax_Get.f (l0 : List Int) : Option (List S32 × Int × Int) := if l0.length ≤ 140737488355328 then some (getOf l0) else none
theorem pax_Get.calls (A0 : Option Addr) (c0 : Nat) (l0 : List Int) (r0 : List S32) (r1 r2 : Int) (w : World) (h0 : Kd.C (Kd.int .u8) w A0 l0.length l0) (hc : l0.length ≤ c0) (hG : GOK w) (h : pax_Get.f l0 = some (r0, r1, r2)) :
    Calls Tryd.prog 19 #[.slice A0 l0.length c0] w fun e w' => ∃ v0_ : Value, e = .returned (.tuple #[v0_, .int .i64 r1, .int .i64 r2]) ∧ Kd.V k32 32 w' w.heap.size (fun k_ => w.heap.size ≤ k_) v0_ r0 ∧ Below w.heap.size w w' := by
  unfold pax_Get.f at h
  split at h
  · rename_i hl
    injection h with h
    have := get_calls A0 c0 l0 w h0 hc hl hG
    rw [h] at this
    exact this
  · cases h
end Go.Proofs.YtkkffccdkbijkaaDoor.I
