/- name.Lead: what its call does, as far as its error goes. -/
import Derived.Test.YtlinghjgnomflaaDoorHCheck
import Derived.Test.YtlinghjgnomflaaDoorHLeadP
import Derived.Test.YtlinghjgnomflaaDoorHG
import Derived.Maps.OwnIn
import Derived.Maps.AppendAt
import Derived.WalkSmall
namespace Go.Proofs.YtlinghjgnomflaaDoor.H
open Go.RowKit Go.Shelf
attribute [local go_sem] Oper.semAt_some

theorem nul_in (s : ByteArray) (n : Nat) (w : World) : CallsIn Fence.wide n Tryd.prog 43 #[.string s, .int .u8 0] w fun e w' => e = .returned (.int .i64 (ixb s 0)) ∧ w = w' :=
  inw ((indexByte_is s 0 0 rfl w).mono fun _ _ h => ⟨h.1, h.2.symm⟩)
/-- The row of parts in a new block. -/
def rowOf (a : ByteArray) : Obj := .cells ((parts0 a).map Value.string).toArray 9
theorem split_in (a : ByteArray) (ha : a.size ≤ 400) (n : Nat) (w : World) (hm : GOK w) (k : Nat) (hk : (parts0 a).length = k + 1) : CallsIn Fence.wide n Tryd.prog 67 #[.string a, .string ⟨#[47]⟩] w fun e w' =>
    e = .returned (.slice (some ⟨w.heap.size, 0, none⟩) (k + 1) (k + 1)) ∧ w.alloc (rowOf a) = w' := by
  obtain ⟨m, hm⟩ := hm.maxLen
  refine inw ((Tryd.strings_Split a slash m w (by omega) hm (by decide)).mono fun e w' h => ?_)
  rw [← hk, parts0_length]
  exact ⟨h.1, h.2.symm⟩

theorem own_slice' {w : World} {base n : Nat} {e : TypeId} {size : Nat} {v : Value} {xs : List Value} (h : w.ownsRow base e size v n xs) : ∃ A c, v = .slice A n c := by
  rcases h.2 with ⟨rfl, rfl⟩ | ⟨g, cap, cur, rfl, _⟩
  · exact ⟨none, 0, rfl⟩
  · exact ⟨_, cap, rfl⟩
theorem pop_form {w : World} {base d c : Nat} {e : TypeId} {A : Option Addr} {xs : List Value} (h : w.ownsRow base e 1 (.slice A (d + 1) c) (d + 1) xs) : ∃ g, A = some ⟨g, 0, none⟩ ∧ d + 1 ≤ c := by
  rcases h.2 with ⟨_, h0⟩ | ⟨g, cap, cur, hv, _, _, hc, _⟩
  · omega
  · cases hv; exact ⟨g, rfl, hc⟩
theorem infoS : (Tryd.prog.info? 9).map (fun i => (i.zero, i.size, i.bytes)) = some (some (.string ⟨#[]⟩), 1, 16) := by kernel_rfl
theorem row0 (a : ByteArray) (k : Nat) (hk : (parts0 a).length = k + 1) (hkb : k ≤ 401) (W : World) {base : Nat} (hb : base ≤ W.heap.size) :
    (W.alloc (rowOf a)).ownsRow base 9 1 (.slice (some ⟨W.heap.size, 0, none⟩) k (k + 1)) k (((parts0 a).take k).map Value.string) := by
  have hl : ((parts0 a).take k).length = k := by rw [List.length_take]; omega
  refine ⟨by rw [List.length_map, hl]; omega, .inr ⟨W.heap.size, k + 1, ((parts0 a).map Value.string).toArray, rfl, hb, World.alloc_heap_new W _, by omega, by unfold maxLen; omega, by simp [hk], ?_⟩⟩
  simp [List.map_take]

/-- Between two rounds: the parts that stand, as many as the depth; all else as it was. -/
def LI (_a b : ByteArray) (k : Nat) (w : World) (r : Nat) (pre : List (Pc b)) (W : World) : Prop :=
  ((∃ v, Boxed W (r + 1) 97 v ∧ ∃ (d : Nat) (xs : List ByteArray), W.ownsRow w.heap.size 9 1 v d (xs.map Value.string) ∧ (∀ g, v.ownBlock = some g → g = r ∨ r + 1 + 1 < g) ∧ leadD k (pre.map (·.1)) = some d ∧ (∀ x ∈ xs, x.size ≤ 400)) ∧
    r + 1 + 1 < W.heap.size ∧ w.heap.size + 1 < r ∧ Boxed W w.heap.size 9 (.string ⟨#[]⟩) ∧ Boxed W (w.heap.size + 1) 27 (.int .i64 0)) ∧ Below w.heap.size w W
/-- A round has left: out of the root. -/
def LX (_a b : ByteArray) (k : Nat) (w : World) (c : Code) (pre : List (Pc b)) (W : World) : Prop :=
  (c = .ret ∧ leadD k (pre.map (·.1)) = none ∧ Boxed W w.heap.size 9 (.string ⟨#[]⟩) ∧ Boxed W (w.heap.size + 1) 27 (.int .i64 83)) ∧ Below w.heap.size w W
theorem boxed_own {W W' : World} {row : Option Nat} {B : Nat} {t : TypeId} {v : Value} (h : Boxed W B t v) (hg : W.grownBy W' row) (hr : ∀ r, row = some r → ∃ o : Obj, W.heap[r]? = some o ∧ o.isCells = false) : Boxed W' B t v :=
  h.kept hg (fun e => by obtain ⟨o, ho, hc⟩ := hr B e.symm; rw [show W.heap[B]? = _ from h] at ho; cases ho; cases hc)
theorem li_own (a b : ByteArray) (k : Nat) (w : World) (r B : Nat) (hB : w.heap.size ≤ B) : OwnFrom B (LI a b k w r) := by
  refine OwnFrom.and (Own.from ?_ B) (ownFrom_below (Nat.le_refl _) hB)
  rintro pre W W' row ⟨⟨v, hv, d, xs, hrow, hne, hd, hx⟩, hs, hwr, b0, b1⟩ hg hr
  refine ⟨⟨v, boxed_own hv hg hr, d, xs, hrow.kept hg ?_, hne, hd, hx⟩, Nat.lt_of_lt_of_le hs hg.size, hwr, boxed_own b0 hg hr, boxed_own b1 hg hr⟩
  rcases hrow.2 with ⟨rfl, _⟩ | ⟨g, cap, cur, rfl, _, hgb, _⟩
  · exact .inl rfl
  · refine .inr fun e' => ?_
    obtain ⟨o, ho, hc⟩ := hr g (by simpa [Value.ownBlock] using e'.symm)
    rw [hgb] at ho; cases ho; cases hc
theorem lx_own (a b : ByteArray) (k : Nat) (w : World) (B : Nat) (hB : w.heap.size ≤ B) : ∀ c, OwnFrom B (LX a b k w c) := by
  intro c
  refine OwnFrom.and (Own.from ?_ B) (ownFrom_below (Nat.le_refl _) hB)
  rintro pre W W' row ⟨e, hd, b0, b1⟩ hg hr
  exact ⟨e, hd, boxed_own b0 hg hr, boxed_own b1 hg hr⟩

theorem leadD_snoc {b : ByteArray} (k : Nat) (pre : List (Pc b)) (x : Pc b) (d : Nat) (h : leadD k (pre.map (·.1)) = some d) : leadD k ((pre ++ [x]).map (·.1)) = leadD d [x.1] := by
  rw [List.map_append, leadD_append, h]; rfl
theorem step_skip {b : ByteArray} {k : Nat} {pre : List (Pc b)} {x : Pc b} {d : Nat} (h : leadD k (pre.map (·.1)) = some d) (hx : x.1.2.size = 0 ∨ x.1.2.toList = [46]) : leadD k ((pre ++ [x]).map (·.1)) = some d := by
  rw [leadD_snoc k pre x d h, leadD, if_pos hx, leadD]
theorem step_up {b : ByteArray} {k : Nat} {pre : List (Pc b)} {x : Pc b} {d : Nat} (h : leadD k (pre.map (·.1)) = some d) (h0 : x.1.2.size ≠ 0) (h1 : x.1.2.toList = [46, 46]) : leadD k ((pre ++ [x]).map (·.1)) = if d = 0 then none else some (d - 1) := by
  rw [leadD_snoc k pre x d h, leadD, if_neg (fun e => e.elim h0 (fun e => by rw [h1] at e; cases e)), if_pos h1, leadD]
theorem step_in {b : ByteArray} {k : Nat} {pre : List (Pc b)} {x : Pc b} {d : Nat} (h : leadD k (pre.map (·.1)) = some d) (h0 : x.1.2.size ≠ 0) (h1 : x.1.2.toList ≠ [46]) (h2 : x.1.2.toList ≠ [46, 46]) : leadD k ((pre ++ [x]).map (·.1)) = some (d + 1) := by
  rw [leadD_snoc k pre x d h, leadD, if_neg (fun e => e.elim h0 h1), if_neg h2, leadD]

theorem join_in (xs : List ByteArray) (hx : ∀ x ∈ xs, x.size ≤ 400) (d : Nat) (hd : d ≤ 802) (v : Value) (W : World) {base : Nat} (hrow : W.ownsRow base 9 1 v d (xs.map Value.string)) (n : Nat) :
    CallsIn Fence.wide n Tryd.prog 68 #[v, .string ⟨#[47]⟩] W fun e w' => (∃ r, e = .returned (.string r)) ∧ Below W.heap.size W w' := by
  have hl : xs.length = d := by have := hrow.1; simpa using this
  rcases Nat.eq_zero_or_pos d with h0 | h0
  · subst h0
    obtain ⟨A, c, rfl⟩ := own_slice' hrow
    refine inw ((Tryd.strings_Join_none A c _ W).mono fun e w' h => ?_)
    obtain ⟨h1, rfl⟩ := h
    exact ⟨⟨_, h1⟩, Below.refl _ _⟩
  · obtain ⟨d, rfl⟩ : ∃ m, d = m + 1 := ⟨d - 1, by omega⟩
    obtain ⟨A, c, rfl⟩ := own_slice' hrow
    obtain ⟨g, rfl, hgc⟩ := pop_form hrow
    have hcs := hrow.cells (g := g) rfl
    have hg : g < W.heap.size := by
      obtain ⟨x, hx0⟩ : ∃ x, xs[0]? = some x := ⟨_, List.getElem?_eq_getElem (by omega)⟩
      exact World.block_lt_of_cell? W _ (hcs 0 _ (by rw [List.getElem?_map, hx0]; rfl))
    have key := Tryd.strings_Join g 0 c xs ⟨#[47]⟩ W (fun j x hj => ?_) hg (by omega) (by omega) ?_
    · rw [hl] at key
      exact inw (key.mono fun e w' h => ⟨⟨_, h.1⟩, h.2⟩)
    · have h := hcs j (.string x) (by rw [List.getElem?_map, hj]; rfl)
      have e : (⟨g, 0, none⟩ : Addr).add j = ⟨g, 0 + j, none⟩ := by unfold Addr.add; split <;> simp_all
      rwa [e] at h
    · have := join_le [47] 400 (xs.map (·.data.toList)) (fun l h => by obtain ⟨x, hx', rfl⟩ := List.mem_map.1 h; rw [← Lib.size_eq]; exact hx x hx')
      rw [List.length_map, hl] at this
      refine Nat.le_trans this ?_
      have : (d + 1) * (400 + [(47 : UInt8)].length) ≤ 802 * 401 := Nat.mul_le_mul hd (by decide)
      omega

set_option maxRecDepth 100000 in
set_option maxHeartbeats 2000000 in
theorem lead_in (a b : ByteArray) (ha : (check a).2 = 0) (hb0 : b.size ≠ 0) (hb : b.size ≤ 400) (hnul : ixb b 0 < 0) (hst : b.toList.head? ≠ some 47) (n : Nat) (hn : 4 ≤ n) (w : World) (hm : GOK w) :
    CallsIn Fence.wide n Tryd.prog 59 #[.string a, .string b] w fun e w' => (∃ r, e = .returned (.tuple #[.string r, .int .i64 (leadErr a b)])) ∧ Below w.heap.size w w' := by
  have h1 : 1 ≤ n := by omega
  have haz : a.size ≤ 400 := by
    refine Nat.le_of_not_lt fun h => ?_
    rw [check, if_pos h] at ha; cases ha
  obtain ⟨k, hk⟩ : ∃ k, (parts0 a).length = k + 1 := ⟨_, parts0_length a⟩
  have hkb : k ≤ 401 := by have := parts0_le a; omega
  have HK := Lib.hid hk
  clear hk
  have C1 := fun W => inw (n := n - 1) (check_calls a W)
  rw [ha] at C1
  have HA := Lib.hid ha
  clear ha
  have hs0 : b.toList.isEmpty = false := by
    cases h : b.toList.isEmpty
    · rfl
    · exact absurd ((toList_nil b).1 h) hb0
  have hlb : (b.size : Int) ≤ 400 := by omega
  have hp0 : 0 < b.size := by omega
  have hst0 : (((b[0]'hp0).toNat : Int) == 47) = false := by
    refine beq_eq_false_iff_ne.2 fun e => hst ?_
    rw [Lib.toList_data, List.head?_eq_getElem?, Lib.data_getElem? b 0 hp0]
    exact congrArg some (UInt8.toNat_inj.1 (show (b[0]'hp0).toNat = 47 by omega))
  have HST := Lib.hid hst
  clear hst
  refine callsIn_of_wp_marks Tryd.func59 rfl trivial ?_ rfl
  simp only [Tryd.ntmps59, List.size_toArray, List.length_cons, List.length_nil, Nat.reduceAdd, Nat.reduceSub, Array.replicate_succ, Array.replicate_zero, List.push_toArray, List.append_toArray, List.nil_append, List.cons_append]
  gi_wp2_with (refine ⟨trivial, ?_⟩; gi_at_call 29; refine (C1 _).mono ?_; rintro e w1 ⟨rfl, hb1⟩)
  have hB2 : Below w.heap.size w ((w.alloc (.cells #[.string ⟨#[]⟩] 9)).alloc (.cells #[.int .i64 0] 27)) := ((Below.refl _ w).alloc (Nat.le_refl _) _).alloc (by simp) _
  have hm1 : GOK w1 := (hm.below hB2).below hb1
  have hsz : w.heap.size + 1 + 1 ≤ w1.heap.size := by have := hb1.size; simpa using this
  have c0 := cell_new_l w (.string ⟨#[]⟩) 9
  have c1 := cell_new_l (w.alloc (.cells #[.string ⟨#[]⟩] 9)) (.int .i64 0) 27
  simp only [World.size_alloc] at c1
  have x0 := (hb1.cell (p := ⟨w.heap.size, 0, none⟩) (by simp; omega)).trans (cell_alloc_l _ c0.1)
  have y0 := (hb1.frozen (p := ⟨w.heap.size, 0, none⟩) (by simp; omega)).trans (frozen_alloc_l _ c0.1 c0.2)
  have x1 := (hb1.cell (p := ⟨w.heap.size + 1, 0, none⟩) (by simp)).trans c1.1
  have y1 := (hb1.frozen (p := ⟨w.heap.size + 1, 0, none⟩) (by simp)).trans c1.2
  have b0 : Boxed w1 w.heap.size 9 (.string ⟨#[]⟩) := (hb1.block _ (by simp; omega)).trans ((Boxed.new w 9 (.string ⟨#[]⟩)).alloc _)
  have b1 : Boxed w1 (w.heap.size + 1) 27 (.int .i64 0) := (hb1.block _ (by simp)).trans (by have := Boxed.new (w.alloc (.cells #[.string ⟨#[]⟩] 9)) 27 (.int .i64 0); rwa [World.size_alloc] at this)
  have hBw : Below w.heap.size w w1 := hB2.trans (hb1.mono (by simp; omega))
  have HM := Lib.hid hm1
  clear hm1 hm hb1 hB2 c0 c1
  gi_wp2_with (first
    | (refine ⟨trivial, ?_⟩; gi_at_call 43; refine (nul_in _ _ _).mono ?_; rintro e w' ⟨rfl, rfl⟩)
    | (refine ⟨trivial, ?_⟩; gi_at_call 67; refine (split_in a haz _ _ HM.out k HK.out).mono ?_; rintro e w2 ⟨rfl, rfl⟩)
    | (refine ⟨trivial, ?_⟩; gi_at_call 42; refine (each_in _ _ _).mono ?_; rintro e w' ⟨rfl, rfl⟩))
  have hR : (w1.alloc (rowOf a)).ownsRow w.heap.size 9 1 (.slice (some ⟨w1.heap.size, 0, none⟩) k (k + 1)) k (((parts0 a).take k).map Value.string) := row0 a k HK.out hkb w1 (by omega)
  have bP := Boxed.new (w1.alloc (rowOf a)) 97 (.slice (some ⟨w1.heap.size, 0, none⟩) k (k + 1))
  have bB := Boxed.new ((w1.alloc (rowOf a)).alloc (.cells #[.slice (some ⟨w1.heap.size, 0, none⟩) k (k + 1)] 97)) 9 (.string b)
  simp only [World.size_alloc] at bP bB
  have hB3 : Below w.heap.size w (((w1.alloc (rowOf a)).alloc (.cells #[.slice (some ⟨w1.heap.size, 0, none⟩) k (k + 1)] 97)).alloc (.cells #[.string b] 9)) := ((hBw.alloc (by omega) _).alloc (by simp; omega) _).alloc (by simp; omega) _
  refine wpIn_rangeFunc_ownG rfl h1 (gf := 57) (lb := #[.pointer (some ⟨w1.heap.size + 1 + 1, 0, none⟩)]) rfl trivial (enters_of Tryd.func57 (by kernel_rfl) rfl)
    (each_stops b hb (n - 1) (w1.heap.size + 1 + 1) (by omega) _ bB) kb_t kb_b (Below.refl _ _) (fun _ => rfl)
    (LI a b k w w1.heap.size) (LX a b k w) (li_own a b k w w1.heap.size _ (by simp; omega)) (lx_own a b k w _ (by simp; omega))
    ?start ?a1 ?assign ?body ?done ?stop
  case start =>
    refine ⟨⟨⟨_, bP.alloc _, k, _, (hR.alloc _).alloc _, fun g hg => by simp [Value.ownBlock] at hg; omega, rfl, ?_⟩, by simp, by omega, ?_, ?_⟩, hB3⟩
    · intro x hx
      exact Nat.le_trans (splitB_sizes slash _ a x (List.mem_of_mem_take hx)) haz
    · exact ((b0.alloc _).alloc _).alloc _
    · exact ((b1.alloc _).alloc _).alloc _
  case assign =>
    intro l x W K hK
    dsimp only [encPc]
    gi_wp2
    exact hK
  case body =>
    rintro l pre ⟨⟨i, t⟩, hx⟩ W ⟨⟨⟨v, hv, d, xs, hrow, hne, hd, hxs⟩, hs, hwr, z0, z1⟩, hB⟩ hlen
    obtain ⟨A, c, rfl⟩ := own_slice' hrow
    have hd2 : d ≤ 802 := by have := leadD_le _ _ _ hd; simp at this; omega
    have hc := hv.cell
    have hfz := hv.frozen
    have zc0 := z0.cell
    have zf0 := z0.frozen
    have zc1 := z1.cell
    have zf1 := z1.frozen
    simp only at hx
    have HD := Lib.hid hd
    have HN := Lib.hid hne
    clear hd hne
    obtain ⟨i0, hi, hz0, hz1, hz2⟩ := info_parts infoS
    have hdi : (0 : Int) ≤ (d : Int) := by omega
    cases e0 : t.toList.isEmpty with
    | true =>
      gi_wp2
      exact ⟨KeepsFrom.refl _ _, fun x => x, ⟨⟨_, hv, d, xs, hrow, HN.out, step_skip HD.out (.inl ((toList_nil t).1 e0)), hxs⟩, hs, hwr, z0, z1⟩, hB⟩
    | false =>
    cases e1 : (t.toList == [46]) with
    | true =>
      gi_wp2
      exact ⟨KeepsFrom.refl _ _, fun x => x, ⟨⟨_, hv, d, xs, hrow, HN.out, step_skip HD.out (.inr (eq_of_beq e1)), hxs⟩, hs, hwr, z0, z1⟩, hB⟩
    | false =>
    cases e2 : (t.toList == [46, 46]) with
    | true =>
      rcases Nat.eq_zero_or_pos d with hd0 | hd0
      · subst hd0
        gi_wp2
        have e := step_up (x := ⟨(i, t), hx⟩) HD.out (fun e => by rw [(toList_nil t).2 e] at e0; cases e0) (eq_of_beq e2)
        rw [if_pos rfl] at e
        exact ⟨((KeepsOthers.setCell _ _ _).trans (KeepsOthers.setCell _ _ _)).from _, ⟨rfl, e, (z0.set _).kept (grownBy_setCell' _ _ _) (by simp), (z1.kept (grownBy_setCell' _ _ _) (by simp)).set _⟩, (hB.setCell (p := ⟨w.heap.size, 0, none⟩) (Nat.le_refl _) _).setCell (p := ⟨w.heap.size + 1, 0, none⟩) (by simp) _⟩
      · obtain ⟨d, rfl⟩ : ∃ m, d = m + 1 := ⟨d - 1, by omega⟩
        obtain ⟨g, rfl, hgc⟩ := pop_form hrow
        have hgc' : (d : Int) ≤ (c : Int) := by omega
        gi_wp2
        have e := step_up (x := ⟨(i, t), hx⟩) HD.out (fun e => by rw [(toList_nil t).2 e] at e0; cases e0) (eq_of_beq e2)
        rw [if_neg (by omega)] at e
        have hne := HN.out g (by simp [Value.ownBlock])
        obtain ⟨xs', x0, rfl⟩ : ∃ xs' x0, xs = xs' ++ [x0] := by
          have hl := hrow.1
          rcases List.eq_nil_or_concat xs with rfl | ⟨xs', x0, rfl⟩
          · simp at hl
          · exact ⟨xs', x0, by simp⟩
        have hrow' := hrow
        rw [List.map_append] at hrow'
        have hp := ownsRow_pop (last := [Value.string x0]) (by have := hrow.1; simp at this ⊢; omega) hrow'
        refine ⟨(KeepsOthers.setCell _ _ _).from _, fun x => x.kept (grownBy_setCell' _ _ _) (by simp), ⟨⟨_, hv.set _, d, xs', hp.kept (grownBy_setCell' _ _ _) (.inr (by simp [Value.ownBlock]; omega)), HN.out, e, fun x hx => hxs x (by simp [hx])⟩, by simpa using hs, hwr, ?_, ?_⟩, hB.setCell (p := ⟨w1.heap.size + 1, 0, none⟩) (by show w.heap.size ≤ w1.heap.size + 1; omega) _⟩
        · exact z0.kept (grownBy_setCell' _ _ _) (by simp; omega)
        · exact z1.kept (grownBy_setCell' _ _ _) (by simp; omega)
    | false =>
      gi_wp2_with (gi_at_builtin; refine wpListIn_append_own_at _ rfl _ _ 97 rfl w.heap.size 9 i0 (.string ⟨#[]⟩) 1 16 Tryd.underlying97 hi hz0 hz1 hz2 rfl (by decide) _ d _ rfl (hrow.alloc _) ⟨W.heap.size, 0, none⟩ 1 1 [.string t] rfl rfl (cell_one_new _ _ _) (by simp [Value.oneCell']) (by unfold maxLen; omega) (by omega) (by have := hB.size; simp; omega) ?_; intro v' w2 hown' hgrow _ hat; replace hgrow : (W.alloc (.cells #[.string t] 9)).grownBy w2 (Value.slice A d c).ownBlock := hgrow; replace hat : v'.ownBlock = (Value.slice A d c).ownBlock ∨ v'.ownBlock = some (W.alloc (.cells #[.string t] 9)).heap.size := hat; obtain ⟨g', cap', rfl⟩ := ownsRow_succ hown'; obtain ⟨hv1, hv2, hr2, hk2, hb2⟩ := hv.appended (by decide) hrow hB.size (by omega) hown' hgrow; have hc1 := hv1.cell; have hf1 := hv1.frozen)
      have e := step_in (x := ⟨(i, t), hx⟩) HD.out (fun e => by rw [(toList_nil t).2 e] at e0; cases e0) (beq_eq_false_iff_ne.1 e1) (beq_eq_false_iff_ne.1 e2)
      have far : ∀ j, j ≠ w1.heap.size → j ≤ w1.heap.size + 1 + 1 → some j ≠ (Value.slice A d c).ownBlock := fun j h1 h2 e => by
        have := HN.out j e.symm; omega
      have keep : ∀ {j ty u}, Boxed W j ty u → j ≠ w1.heap.size → j ≠ w1.heap.size + 1 → j ≤ w1.heap.size + 1 + 1 → Boxed (w2.setCell ⟨w1.heap.size + 1, 0, none⟩ (.slice (some ⟨g', 0, none⟩) (d + 1) cap')) j ty u :=
        fun {j ty u} h h1 h2 h3 => ((h.alloc _).kept hgrow (far j h1 h3)).kept (grownBy_setCell' _ _ _) (by simpa using h2)
      refine ⟨hk2.from _, fun x => keep x (by omega) (by omega) (by omega), ⟨⟨_, hv2, d + 1, xs ++ [t], by rw [List.map_append]; exact hr2, ?_, e, ?_⟩, ?_, hwr, keep z0 (by omega) (by omega) (by omega), keep z1 (by omega) (by omega) (by omega)⟩, hB.trans hb2⟩
      · intro g hg
        rcases hat with hat | hat
        · exact HN.out g (hat.symm.trans hg)
        · rw [hat] at hg; simp at hg; omega
      · intro x hx'
        rcases List.mem_append.1 hx' with h | h
        · exact hxs x h
        · simp at h; subst h; omega
      · have := hk2.size; omega
  case done =>
    rintro D ys W hD hS ⟨⟨⟨v, hv, d, xs, hrow, hne, hd, hxs⟩, hs, hwr, z0, z1⟩, hB⟩ hK
    have hd2 : d ≤ 802 := by
      have := leadD_le _ _ _ hd
      have h2 := pcs_length b b.size 0 (by omega) (by omega)
      rw [hS] at this; omega
    have he : leadErr a b = 0 := by
      rw [hS] at hd
      rw [leadErr, if_neg (by rw [HA.out]; simp), if_neg hb0, if_neg (by omega), if_neg (by omega), if_neg HST.out, ← parts0_pcs, HK.out, Nat.add_sub_cancel, hd]
      rfl
    have hc := hv.cell
    have J := fun k => join_in xs hxs d (by omega) v W hrow k
    have HE := Lib.hid he
    have HR := Lib.hid hrow
    have HD := Lib.hid hd
    clear he hS hrow hd hne
    gi_wp2_with (refine ⟨trivial, ?_⟩; gi_at_call 68; refine (J _).mono ?_; rintro e w3 ⟨⟨r, rfl⟩, hb3⟩; have s0 := (hb3.block _ z0.lt).trans z0; have s1 := (hb3.block _ z1.lt).trans z1; replace s0 : Boxed w3 w.heap.size 9 (.string ⟨#[]⟩) := s0; replace s1 : Boxed w3 (w.heap.size + 1) 27 (.int .i64 0) := s1; have sc0 := s0.cell; have sf0 := s0.frozen; have sc1 := s1.cell; have sf1 := s1.frozen)
    have hDl : D < W.heap.size := (Array.getElem?_eq_some_iff.1 hK).1
    have hK3 := (hb3.block D hDl).trans hK
    have t0 : Boxed ((w3.setCell ⟨w.heap.size, 0, none⟩ (.string r)).setCell ⟨w.heap.size + 1, 0, none⟩ (.int .i64 0)) w.heap.size 9 (.string r) := (s0.set _).kept (grownBy_setCell' _ _ _) (by simp)
    have t1 : Boxed ((w3.setCell ⟨w.heap.size, 0, none⟩ (.string r)).setCell ⟨w.heap.size + 1, 0, none⟩ (.int .i64 0)) (w.heap.size + 1) 27 (.int .i64 0) := (s1.kept (grownBy_setCell' _ _ _) (by simp)).set _
    have hK' := ((KeepsOthers.setCell w3 ⟨w.heap.size, 0, none⟩ (.string r)).trans (KeepsOthers.setCell _ ⟨w.heap.size + 1, 0, none⟩ (.int .i64 0))).same D _ hK3 rfl
    refine ⟨by simp, .inl ⟨_, _, rfl, run_takeDeferred hK', ?_⟩⟩
    have hc5 := cell_kept t0.cell (grownBy_putObj' _ D (.deferred none)) (fun r e => by cases e; exact ⟨_, hK', rfl⟩)
    have hc6 := cell_kept t1.cell (grownBy_putObj' _ D (.deferred none)) (fun r e => by cases e; exact ⟨_, hK', rfl⟩)
    have hBF : Below w.heap.size w ((w3.setCell ⟨w.heap.size, 0, none⟩ (.string r)).setCell ⟨w.heap.size + 1, 0, none⟩ (.int .i64 0)) :=
      ((hB.trans (hb3.mono (by omega))).setCell (p := ⟨w.heap.size, 0, none⟩) (Nat.le_refl _) _).setCell (p := ⟨w.heap.size + 1, 0, none⟩) (by simp) _
    refine ⟨.tuple #[.string r, .int .i64 0], ?_, ⟨r, by rw [HE.out]⟩, hBF.trans (belowK_b (w := w) (Nat.le_refl _) _ D _ _ (by simp at hD; omega) hK' rfl rfl)⟩
    simp [results, Tryd.f59, go_sem, hc5, hc6]
  case stop =>
    rintro D c pre W hD hpre ⟨⟨rfl, hd, z0, z1⟩, hB⟩ hK
    have he : leadErr a b = 83 := by
      obtain ⟨r, hr⟩ := hpre
      rw [leadErr, if_neg (by rw [HA.out]; simp), if_neg hb0, if_neg (by omega), if_neg (by omega), if_neg HST.out, ← parts0_pcs, HK.out, Nat.add_sub_cancel, ← hr, leadD_append, hd]
      rfl
    have HE := Lib.hid he
    clear he hpre hd
    gi_wp2
    refine ⟨by simp, .inl ⟨_, _, rfl, run_takeDeferred hK, ?_⟩⟩
    have hc5 := cell_kept z0.cell (grownBy_putObj' _ D (.deferred none)) (fun r e => by cases e; exact ⟨_, hK, rfl⟩)
    have hc6 := cell_kept z1.cell (grownBy_putObj' _ D (.deferred none)) (fun r e => by cases e; exact ⟨_, hK, rfl⟩)
    refine ⟨.tuple #[.string ⟨#[]⟩, .int .i64 83], ?_, ⟨_, by rw [HE.out]⟩, hB.trans (belowK_b (w := w) (Nat.le_refl _) W D _ _ (by simp at hD; omega) hK rfl rfl)⟩
    simp [results, Tryd.f59, go_sem, hc5, hc6]

theorem fin2 {w w1 : World} {u0 u1 : Value} (s0 : Boxed w1 w.heap.size 9 u0) (s1 : Boxed w1 (w.heap.size + 1) 27 u1) (hB : Below w.heap.size w w1) (e : Int) :
    ((w1.setCell ⟨w.heap.size, 0, none⟩ (.string ⟨#[]⟩)).setCell ⟨w.heap.size + 1, 0, none⟩ (.int .i64 e)).cell? ⟨w.heap.size, 0, none⟩ = some (.string ⟨#[]⟩) ∧
    ((w1.setCell ⟨w.heap.size, 0, none⟩ (.string ⟨#[]⟩)).setCell ⟨w.heap.size + 1, 0, none⟩ (.int .i64 e)).cell? ⟨w.heap.size + 1, 0, none⟩ = some (.int .i64 e) ∧
    Below w.heap.size w ((w1.setCell ⟨w.heap.size, 0, none⟩ (.string ⟨#[]⟩)).setCell ⟨w.heap.size + 1, 0, none⟩ (.int .i64 e)) :=
  ⟨((s0.set _).kept (grownBy_setCell' _ _ _) (by simp)).cell, ((s1.kept (grownBy_setCell' _ _ _) (by simp)).set _).cell, (hB.setCell (p := ⟨w.heap.size, 0, none⟩) (Nat.le_refl _) _).setCell (p := ⟨w.heap.size + 1, 0, none⟩) (by simp) _⟩

/-- The ways that end ahead of the pieces. -/
theorem lead_out (a b : ByteArray) (h : ¬ ((check a).2 = 0 ∧ b.size ≠ 0 ∧ b.size ≤ 400 ∧ ixb b 0 < 0 ∧ b.toList.head? ≠ some 47)) (n : Nat) (hn : 4 ≤ n) (w : World) :
    CallsIn Fence.wide n Tryd.prog 59 #[.string a, .string b] w fun e w' => (∃ r, e = .returned (.tuple #[.string r, .int .i64 (leadErr a b)])) ∧ Below w.heap.size w w' := by
  have h1 : 1 ≤ n := by omega
  obtain ⟨p, q, hpq⟩ : ∃ p q, check a = (p, q) := ⟨_, _, rfl⟩
  have C1 := fun W => inw (n := n - 1) (check_calls a W)
  rw [hpq] at C1 h
  have HP := Lib.hid hpq
  clear hpq
  dsimp only at C1 h
  refine callsIn_of_wp Tryd.func59 rfl trivial ?_ rfl
  simp only [Tryd.ntmps59, List.size_toArray, List.length_cons, List.length_nil, Nat.reduceAdd, Nat.reduceSub, Array.replicate_succ, Array.replicate_zero, List.push_toArray, List.append_toArray, List.nil_append, List.cons_append]
  have B1 : ∀ w1, Below (w.heap.size + 1 + 1) ((w.alloc (.cells #[.string ⟨#[]⟩] 9)).alloc (.cells #[.int .i64 0] 27)) w1 → Boxed w1 w.heap.size 9 (.string ⟨#[]⟩) ∧ Boxed w1 (w.heap.size + 1) 27 (.int .i64 0) ∧ Below w.heap.size w w1 := fun w1 hb1 =>
    ⟨(hb1.block _ (by omega)).trans ((Boxed.new w 9 (.string ⟨#[]⟩)).alloc _), (hb1.block _ (by omega)).trans (by have := Boxed.new (w.alloc (.cells #[.string ⟨#[]⟩] 9)) 27 (.int .i64 0); rwa [World.size_alloc] at this),
      (((Below.refl _ w).alloc (Nat.le_refl _) _).alloc (by simp) _).trans (hb1.mono (by omega))⟩
  by_cases hq : q = 0
  · subst hq
    by_cases hb0 : b.size = 0
    · have e := Lib.hid (show leadErr a b = 80 by rw [leadErr, HP.out, if_neg (by simp), if_pos hb0])
      have hs0 := (toList_nil b).2 hb0
      clear h hb0
      gi_wp2_with (refine ⟨trivial, ?_⟩; gi_at_call 29; refine (C1 _).mono ?_; rintro e w1 ⟨rfl, hb1⟩; obtain ⟨s0, s1, hBw⟩ := B1 w1 (by simpa using hb1); have c0 := s0.cell; have f0 := s0.frozen; have c1 := s1.cell; have f1 := s1.frozen)
      have F := fin2 s0 s1 hBw 80
      exact bodyPost_ret (v := .tuple #[.string ⟨#[]⟩, .int .i64 80]) (by simp [results, Tryd.f59, go_sem, F.1, F.2.1]) rfl ⟨⟨_, by rw [e.out]⟩, F.2.2⟩
    · have hs0 : b.toList.isEmpty = false := by
        cases h : b.toList.isEmpty
        · rfl
        · exact absurd ((toList_nil b).1 h) hb0
      by_cases hb : b.size ≤ 400
      · have hlb : (b.size : Int) ≤ 400 := by omega
        by_cases hnul : ixb b 0 < 0
        · have hst : b.toList.head? = some 47 := Classical.byContradiction fun hst => h ⟨rfl, hb0, hb, hnul, hst⟩
          have hp0 : 0 < b.size := by omega
          have hst0 : (((b[0]'hp0).toNat : Int) == 47) = true := by
            rw [Lib.toList_data, List.head?_eq_getElem?, Lib.data_getElem? b 0 hp0] at hst
            have := Option.some.inj hst
            simp [this]
          have e := Lib.hid (show leadErr a b = 83 by rw [leadErr, HP.out, if_neg (by simp), if_neg hb0, if_neg (by omega), if_neg (by omega), if_pos hst])
          clear h hb0 hst
          gi_wp2_with (first
            | (refine ⟨trivial, ?_⟩; gi_at_call 29; refine (C1 _).mono ?_; rintro e w1 ⟨rfl, hb1⟩; obtain ⟨s0, s1, hBw⟩ := B1 w1 (by simpa using hb1); have c0 := s0.cell; have f0 := s0.frozen; have c1 := s1.cell; have f1 := s1.frozen)
            | (refine ⟨trivial, ?_⟩; gi_at_call 43; refine (nul_in _ _ _).mono ?_; rintro e w' ⟨rfl, rfl⟩))
          have F := fin2 s0 s1 hBw 83
          exact bodyPost_ret (v := .tuple #[.string ⟨#[]⟩, .int .i64 83]) (by simp [results, Tryd.f59, go_sem, F.1, F.2.1]) rfl ⟨⟨_, by rw [e.out]⟩, F.2.2⟩
        · have hnul' : 0 ≤ ixb b 0 := by omega
          have e := Lib.hid (show leadErr a b = 82 by rw [leadErr, HP.out, if_neg (by simp), if_neg hb0, if_neg (by omega), if_pos hnul'])
          clear h hb0 hnul
          gi_wp2_with (first
            | (refine ⟨trivial, ?_⟩; gi_at_call 29; refine (C1 _).mono ?_; rintro e w1 ⟨rfl, hb1⟩; obtain ⟨s0, s1, hBw⟩ := B1 w1 (by simpa using hb1); have c0 := s0.cell; have f0 := s0.frozen; have c1 := s1.cell; have f1 := s1.frozen)
            | (refine ⟨trivial, ?_⟩; gi_at_call 43; refine (nul_in _ _ _).mono ?_; rintro e w' ⟨rfl, rfl⟩))
          have F := fin2 s0 s1 hBw 82
          exact bodyPost_ret (v := .tuple #[.string ⟨#[]⟩, .int .i64 82]) (by simp [results, Tryd.f59, go_sem, F.1, F.2.1]) rfl ⟨⟨_, by rw [e.out]⟩, F.2.2⟩
      · have hlb : (400 : Int) < (b.size : Int) := by omega
        have e := Lib.hid (show leadErr a b = 2 by rw [leadErr, HP.out, if_neg (by simp), if_neg hb0, if_pos (by omega)])
        clear h hb0 hb
        gi_wp2_with (refine ⟨trivial, ?_⟩; gi_at_call 29; refine (C1 _).mono ?_; rintro e w1 ⟨rfl, hb1⟩; obtain ⟨s0, s1, hBw⟩ := B1 w1 (by simpa using hb1); have c0 := s0.cell; have f0 := s0.frozen; have c1 := s1.cell; have f1 := s1.frozen)
        have F := fin2 s0 s1 hBw 2
        exact bodyPost_ret (v := .tuple #[.string ⟨#[]⟩, .int .i64 2]) (by simp [results, Tryd.f59, go_sem, F.1, F.2.1]) rfl ⟨⟨_, by rw [e.out]⟩, F.2.2⟩
  · have e := Lib.hid (show leadErr a b = q by rw [leadErr, HP.out, if_pos hq])
    have hq1 : (q != 0) = true := by simpa using hq
    have hq2 : (q == 0) = false := by simpa using hq
    clear h hq
    gi_wp2_with (refine ⟨trivial, ?_⟩; gi_at_call 29; refine (C1 _).mono ?_; rintro e w1 ⟨rfl, hb1⟩; obtain ⟨s0, s1, hBw⟩ := B1 w1 (by simpa using hb1); have c0 := s0.cell; have f0 := s0.frozen; have c1 := s1.cell; have f1 := s1.frozen)
    have F := fin2 s0 s1 hBw q
    exact bodyPost_ret (v := .tuple #[.string ⟨#[]⟩, .int .i64 q]) (by simp [results, Tryd.f59, go_sem, F.1, F.2.1]) rfl ⟨⟨_, by rw [e.out]⟩, F.2.2⟩

/-- name.Lead, whatever the texts: its error. -/
theorem lead_calls (a b : ByteArray) (w : World) (hG : GOK w) :
    Calls Tryd.prog 59 #[.string a, .string b] w fun e w' => (∃ r, e = .returned (.tuple #[.string r, .int .i64 (leadErr a b)])) ∧ Below w.heap.size w w' := by
  by_cases h : (check a).2 = 0 ∧ b.size ≠ 0 ∧ b.size ≤ 400 ∧ ixb b 0 < 0 ∧ b.toList.head? ≠ some 47
  · exact callsIn_wide.1 (lead_in a b h.1 h.2.1 h.2.2.1 h.2.2.2.1 h.2.2.2.2 4 (Nat.le_refl _) w hG)
  · exact callsIn_wide.1 (lead_out a b h 4 (Nat.le_refl _) w)
end Go.Proofs.YtlinghjgnomflaaDoor.H
