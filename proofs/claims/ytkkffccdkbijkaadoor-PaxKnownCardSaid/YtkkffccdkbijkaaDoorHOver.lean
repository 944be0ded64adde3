/- pax.Over: what its call does. -/
import Derived.Test.YtkkffccdkbijkaaDoorHMap
import Derived.Test.YtkkffccdkbijkaaDoorHGet
import Derived.Test.YtkkffccdkbijkaaDoorHRecs
import Derived.Test.YtkkffccdkbijkaaDoorItr
import Derived.Maps.Own
import Derived.Maps.OwnOps
import Derived.Maps.OwnSet
import Derived.Outline
namespace Go.Proofs.YtkkffccdkbijkaaDoor.H
open Go.RowKit Go.Proofs.YtkkffccdkbijkaaDoor.I Go.Proofs.YtkkffccdkbijkaaDoorW.PrintWords Go.Proofs.YtkkffccdkbijkaaDoorW.PrintLast Go.Proofs.YtkkffccdkbijkaaDoorW.PrintMore
open Go.Proofs (encStr)
set_option linter.unusedVariables false
set_option linter.unusedSimpArgs false

/-- A list laid over another one, or what is wrong. -/
def overOf (l m : List Pr) : List Pr × Int := if (putOf l).2.2 ≠ 0 then ([], (putOf l).2.2) else if (putOf m).2.2 ≠ 0 then ([], (putOf m).2.2) else if 64 < (merge l m).length then ([], 3) else (merge l m, 0)

/-- How a pair in the map reads. -/
def Rp : Value → Option (DataW Unit × List MemPlace)
  | .agg ⟨[.string k, .string v]⟩ => some (encD ⟨k, v⟩, [])
  | _ => none
theorem Rp_inv {v : Value} {p : Pr} {ps : List MemPlace} (h : Rp v = some (encD p, ps)) : v = .agg #[.string p.f0, .string p.f1] := by
  unfold Rp at h
  split at h
  · rename_i k v
    injection h with h
    simp only [Prod.mk.injEq] at h
    have h1 := h.1
    unfold encD at h1
    simp only [DataW.agg.injEq, List.cons.injEq, DataW.lit.injEq, Lit.string.injEq, and_true] at h1
    obtain ⟨e0, e1⟩ := h1
    have f0 : k = p.f0 := by cases k; cases hp : p.f0; rw [hp] at e0; congr 1; exact Array.toList_inj.1 e0
    have f1 : v = p.f1 := by cases v; cases hp : p.f1; rw [hp] at e1; congr 1; exact Array.toList_inj.1 e1
    rw [f0, f1]
  · cases h
theorem key_of (s : ByteArray) (h : s.size ≤ maxLen) : _root_.Go.keyOf Tryd.prog 9 (.string s) = some (.string s.data.toList) := by
  simp [_root_.Go.keyOf, mapKey, Tryd.underlying9, h]
theorem zero_pr (w : World) : (zeroValue 32).run Tryd.prog w = .ok (.agg #[.string ⟨#[]⟩, .string ⟨#[]⟩]) w := by kernel_rfl
/-- What a lookup hands back. -/
theorem look_at {W : World} {b n : Nat} {f : List Pr} (h : W.ownsMap Tryd.prog 9 Rp b n (mapOf f)) {s : ByteArray} (hs : s.size ≤ maxLen) {p : Pr} (hp : lastOf f s.data.toList = some p) :
    (Instr.lookup 53 (.map (some b)) (.string s) false).run Tryd.prog W = .ok (.agg #[.string p.f0, .string p.f1]) W := by
  obtain ⟨v, ps, hrun, hv⟩ := h.lookup (Maps.string_keyed Tryd.underlying9) Tryd.underlying53 (zero_pr W) (show Rp (.agg #[.string ⟨#[]⟩, .string ⟨#[]⟩]) = some (encD ⟨⟨#[]⟩, ⟨#[]⟩⟩, []) from rfl) (key_of s hs)
  rw [mapOf_at, hp] at hv
  rw [hrun, Rp_inv hv]
theorem good_asc : ∀ {l : List Pr} {q : Option ByteArray}, Good q l → Asc l ∧ ∀ u ∈ q, ∀ p ∈ l, u.data.toList < key p
  | [], _, _ => ⟨List.Pairwise.nil, fun _ _ p hp => by cases hp⟩
  | x :: l, q, h => by
    obtain ⟨h1, h2, h3⟩ := h
    obtain ⟨a, b⟩ := good_asc h3
    have hx : ∀ p ∈ l, key x < key p := fun p hp => b x.f0 rfl p hp
    refine ⟨List.pairwise_cons.2 ⟨hx, a⟩, fun u hu p hp => ?_⟩
    have hux : u.data.toList < key x := by
      rcases Classical.em (u.data.toList < key x) with h | h
      · exact h
      · exact absurd ⟨u, hu, by rw [bytesLess_eq, Lib.toList_data, Lib.toList_data]; exact decide_eq_false h⟩ h2
    rcases List.mem_cons.1 hp with rfl | hp
    · exact hux
    · exact List.lt_trans hux (hx p hp)
theorem good_fits : ∀ {l : List Pr} {q : Option ByteArray}, Good q l → ∀ p ∈ l, fitsErr p.f0 p.f1 = 0
  | [], _, _, p, hp => by cases hp
  | x :: l, q, h, p, hp => by
    rcases List.mem_cons.1 hp with rfl | hp
    · exact h.1
    · exact good_fits h.2.2 p hp

/-- The lists that are done. -/
def done (l m : List Pr) (i : Nat) : List Pr := if i = 0 then [] else if i = 1 then l else l ++ m
structure OInv (A0 : Option Addr) (c0 : Nat) (l : List Pr) (A1 : Option Addr) (c1 : Nat) (m : List Pr) (w : World) (f : List Pr) (wx : World) : Prop where
  own : wx.ownsMap Tryd.prog 9 Rp w.heap.size f.length (mapOf f)
  blk : wx.heap[w.heap.size + 1]? = some (.cells #[.slice A0 l.length c0, .slice A1 m.length c1] 22 (0, 0))
  hB : Below w.heap.size w wx
theorem OInv.below {A0 : Option Addr} {c0 : Nat} {l : List Pr} {A1 : Option Addr} {c1 : Nat} {m : List Pr} {w : World} {f : List Pr} {wx w1 : World} (h : OInv A0 c0 l A1 c1 m w f wx) (hb : Below wx.heap.size wx w1) : OInv A0 c0 l A1 c1 m w f w1 :=
  ⟨h.own.kept (grown_of_below hb none) (by simp), blk_b (w := w) h.blk hb, h.hB.trans (hb.mono h.hB.size)⟩
theorem OInv.put {A0 : Option Addr} {c0 : Nat} {l : List Pr} {A1 : Option Addr} {c1 : Nat} {m : List Pr} {w : World} {f : List Pr} {wx w1 : World} {o : Obj} {p : Pr} (h : OInv A0 c0 l A1 c1 m w f wx) (ho : w1.ownsMap Tryd.prog 9 Rp w.heap.size (f.length + 1) ((mapOf f).put (.string p.f0.data.toList) (encD p))) (hg : (wx.alloc o).grownBy w1 (some w.heap.size)) : OInv A0 c0 l A1 c1 m w (f ++ [p]) w1 := by
  have hlt := h.own.lt
  refine ⟨by rw [mapOf_snoc, List.length_append]; exact ho, ?_, (h.hB.alloc h.hB.size o).grown hg (by simp; omega) (fun k hk => by injection hk with hk; omega)⟩
  have hl2 := blk_lt h.blk
  exact (hg.block _ (by simp; omega) (fun e => by injection e with e; omega)).trans ((Below.heap_alloc _ _ _ hl2).trans h.blk)
theorem ok_good {l : List Pr} {b : List Int} {q e : Int} (h : putOf l = (b, q, e)) (he : e = 0) : l.length ≤ 64 ∧ Good none l := by
  unfold putOf at h
  by_cases hl : 64 < l.length
  · rw [if_pos hl] at h
    simp only [Prod.mk.injEq] at h
    omega
  · rw [if_neg hl] at h
    exact ⟨by omega, putL_bad _ _ _ _ (by rw [h]; exact he)⟩
theorem map_size {l m : List Pr} (hl : Asc l) (hm : Asc m) : Maps.size (mapOf (l ++ m)) = (merge l m).length := by
  have h1 := (strKeys_nodup (mapOf_str (l ++ m)).1).2
  have h2 := congrArg List.length (merge_keys hl hm (List.Perm.refl _))
  rw [List.length_mergeSort, List.length_map] at h2
  omega
/-- The keys in order, as a row of texts. -/
theorem sorted_row {W w2 : World} {b : Nat} {v : Value} {ss : List (List UInt8)} {D : DataW Unit} {M : List Pr} (hS : ss.Perm (strKeys D)) (hk : ss.mergeSort (fun x y => decide (x ≤ y)) = M.map key)
    (hrow : w2.ownsRow (W.alloc (.cells #[.map (some b)] 53)).heap.size 9 1 v ss.length ((ss.mergeSort (fun x y => decide (x ≤ y))).map encStr)) (hb : Below (W.alloc (.cells #[.map (some b)] 53)).heap.size (W.alloc (.cells #[.map (some b)] 53)) w2) :
    ∃ A c, v = .slice A M.length c ∧ M.length ≤ c ∧ ReadsOf Value.string (⟨#[]⟩ : ByteArray) w2 A M.length (M.map (·.f0)) ∧ Below W.heap.size W w2 := by
  have hl : ss.length = M.length := by have := congrArg List.length hk; rwa [List.length_mergeSort, List.length_map] at this
  have e : (M.map key).map encStr = encs Value.string (M.map (·.f0)) := by
    unfold encs
    rw [List.map_map, List.map_map]
    rfl
  rw [hk, e, hl] at hrow
  obtain ⟨A, c, rfl, hc, hr⟩ := own_reads_of_le (d := (⟨#[]⟩ : ByteArray)) hrow
  exact ⟨A, c, rfl, hc, hr, ((Below.refl _ _).alloc (Nat.le_refl _) _).trans (hb.mono (by simp))⟩
/-- How the call ends. -/
def OverEnd (r : List Pr × Int) (w : World) (e : Ending) (w' : World) : Prop := ∃ v, e = .returned (.tuple #[v, .int .i64 r.2]) ∧ Kd.V k32 32 w' w.heap.size (fun k_ => w.heap.size ≤ k_) v r.1 ∧ Below w.heap.size w w'
theorem over_e0 {l m : List Pr} {b : List Int} {q e : Int} (h : putOf l = (b, q, e)) (he : e ≠ 0) : overOf l m = ([], e) := by unfold overOf; rw [h, if_pos he]
theorem over_e1 {l m : List Pr} {b b' : List Int} {q q' e : Int} (h : putOf l = (b, q, 0)) (h' : putOf m = (b', q', e)) (he : e ≠ 0) : overOf l m = ([], e) := by unfold overOf; rw [h, if_neg (by simp), h', if_pos he]
theorem over_ok {l m : List Pr} {b b' : List Int} {q q' : Int} (h : putOf l = (b, q, 0)) (h' : putOf m = (b', q', 0)) : overOf l m = if 64 < (merge l m).length then ([], 3) else (merge l m, 0) := by unfold overOf; rw [h, if_neg (by simp), h', if_neg (by simp)]

theorem start_inv (A0 : Option Addr) (c0 : Nat) (l : List Pr) (A1 : Option Addr) (c1 : Nat) (m : List Pr) (w : World) : OInv A0 c0 l A1 c1 m w (done l m 0) ((w.alloc (.map #[] 0)).alloc (.cells #[.slice A0 l.length c0, .slice A1 m.length c1] 22)) := by
  refine ⟨(World.ownsMap_made w Tryd.prog 9 Rp).alloc _, ?_, ((Below.refl _ _).alloc (Nat.le_refl _) _).alloc (by simp) _⟩
  have h := heap_alloc_new (w.alloc (.map #[] 0)) (.cells #[.slice A0 l.length c0, .slice A1 m.length c1] 22)
  rwa [World.size_alloc] at h
set_option maxRecDepth 100000 in
set_option maxHeartbeats 16000000 in
theorem over_calls (A0 : Option Addr) (c0 : Nat) (l : List Pr) (A1 : Option Addr) (c1 : Nat) (m : List Pr) (w : World) (C0 : Kd.C k32 w A0 l.length l) (n0 : l.length ≤ c0) (C1 : Kd.C k32 w A1 m.length m) (n1 : m.length ≤ c1) (hG : GOK w) :
    Calls Tryd.prog 10 #[.slice A0 l.length c0, .slice A1 m.length c1] w (OverEnd (overOf l m) w) := by
  have hmm := @run_makeMap Tryd.prog
  obtain ⟨kp0, hk0⟩ := Ev.rounds (put_f l)
  obtain ⟨kp1, hk1⟩ := Ev.rounds (put_f m)
  obtain ⟨r, hr⟩ : ∃ r, overOf l m = r := ⟨_, rfl⟩
  rw [hr]
  have HR := Lib.hid hr
  have HG := Lib.hid hG
  have C0h := Lib.hid C0
  have C1h := Lib.hid C1
  clear hr hG C0 C1
  have ml0 := Kd.C_max C0h.out
  have ml1 := Kd.C_max C1h.out
  obtain ⟨⟨b0, p0, e0⟩, hx0⟩ : ∃ x, putOf l = x := ⟨_, rfl⟩
  obtain ⟨⟨b1, p1, e1⟩, hx1⟩ : ∃ x, putOf m = x := ⟨_, rfl⟩
  rw [hx0] at hk0
  rw [hx1] at hk1
  have HK0 := Lib.hid hk0
  have HK1 := Lib.hid hk1
  have HX0 := Lib.hid hx0
  have HX1 := Lib.hid hx1
  clear hk0 hk1 hx0 hx1
  have HI := Lib.hid (start_inv A0 c0 l A1 c1 m w)
  go_enter Tryd.func10, Tryd.ntmps10
  go_wp2
  go_loopg [22] 2 (fun g s22 wx => ∃ i : Nat, i + g = 2 ∧ s22 = .int .i64 i ∧ (1 ≤ i → e0 = 0) ∧ (2 ≤ i → e1 = 0) ∧ OInv A0 c0 l A1 c1 m w (done l m i) wx)
  case atStart => exact ⟨0, rfl, rfl, fun h => absurd h (by decide), fun h => absurd h (by decide), HI.out⟩
  case round =>
    obtain ⟨i, hig, rfl, hE0, hE1, hI⟩ := hrel
    have HO := Lib.hid hI.own
    have HBk := Lib.hid hI.blk
    have HB := Lib.hid hI.hB
    have HE0 := Lib.hid hE0
    have HE1 := Lib.hid hE1
    clear hI hE0 hE1
    rcases (show i = 0 ∨ i = 1 ∨ i = 2 by omega) with rfl | rfl | rfl
    · have hc := (blk_cell HBk.out 0).trans rfl
      have hI := OInv.mk HO.out HBk.out HB.out
      have HI1 := Lib.hid hI
      clear hI
      by_cases hz : e0 = 0
      · have hz' : (e0 != 0) = false := bne_eq_false_iff_eq.2 hz
        have HZ := Lib.hid hz
        clear hz
        go_wp2_with (go_at_call 18; refine (I.pax_Put.calls kp0 A0 c0 l _ _ _ _ (Kd.C_below C0h.out HB.out) n0 (HG.out.below HB.out) HK0.out).mono ?_; rintro e w1 ⟨v1, rfl, hR1, hb1⟩; obtain ⟨A9, c9, rfl⟩ := Kd.R_slice hR1; clear hR1; have HI2 := Lib.hid (HI1.out.below hb1))
        obtain ⟨wo, rfl⟩ : ∃ wo : World, wo = wr := ⟨_, rfl⟩
        obtain ⟨go, rfl⟩ : ∃ go : Nat, go = gk := ⟨_, rfl⟩
        go_loopg [37] (l.length) (fun g s37 wy => ∃ k : Nat, k + g = l.length ∧ s37 = .int .i64 k ∧ OInv A0 c0 l A1 c1 m w (done l m 0 ++ l.take k) wy)
        case atStart => exact ⟨0, by omega, rfl, by rw [List.take_zero, List.append_nil]; exact HI2.out⟩
        case round =>
          obtain ⟨k, hkg, rfl, hJ⟩ := hrel
          have HJ := Lib.hid hJ
          clear hJ
          by_cases hk : k < l.length
          · obtain ⟨g, rfl⟩ : ∃ g, gk = g + 1 := ⟨gk - 1, by omega⟩
            obtain ⟨ad, hAd, hca, hcb⟩ := at_T32 (Kd.C_below C0h.out HJ.out.hB) (k : Int) (by omega) (by omega)
            rw [rd_at l k hk, Int.toNat_natCast] at hca hcb
            obtain ⟨x, hx⟩ : ∃ x, l[k] = x := ⟨_, rfl⟩
            rw [hx] at hca hcb
            have HXk := Lib.hid hx
            clear hx
            subst hAd
            have hkey := key_of x.f0 (by unfold maxLen; have := (fits_ok (good_fits (ok_good HX0.out HZ.out).2 x (by rw [← HXk.out]; exact List.getElem_mem hk))).2.1; omega)
            have HKY := Lib.hid hkey
            clear hkey
            have hln : (done l m 0 ++ l.take k).length < maxLen := by
              have h1 := (ok_good HX0.out HZ.out).1
              have h0 : (done l m 0).length = 0 := rfl
              unfold maxLen
              rw [List.length_append, List.length_take]
              omega
            have HLN := Lib.hid hln
            clear hln
            have hown := HJ.out.own.alloc (.cells #[.string x.f0, .string x.f1] 32)
            have HOW := Lib.hid hown
            clear hown
            go_wp2_with (at_mapUpdate; refine wpList_mapUpdate_own _ rfl _ _ _ 53 rfl 9 32 (Maps.string_keyed Tryd.underlying9) Tryd.underlying53 Rp w.heap.size _ _ rfl HOW.out HLN.out (.string x.f0) (.agg #[.string x.f0, .string x.f1]) (.string x.f0.data.toList) rfl rfl HKY.out (encD x) [] rfl ?_; intro w3 hown3 hgrow3; have HJ2 := Lib.hid (HJ.out.put hown3 hgrow3); clear hown3 hgrow3)
            go_roundg g
            case measure => omega
            case rel => exact ⟨k + 1, by omega, by go_num, by rw [List.take_succ_eq_append_getElem hk, HXk.out, ← List.append_assoc]; exact HJ2.out⟩
          · have hk' : decide (k < l.length) = false := decide_eq_false hk
            have e : done l m (0 + 1) = done l m 0 ++ l.take k := by rw [List.take_of_length_le (by omega)]; rfl
            have HF := Lib.hid (show OInv A0 c0 l A1 c1 m w (done l m (0 + 1)) wr from by rw [e]; exact HJ.out)
            clear e
            go_wp2
            go_roundg 1
            case measure => omega
            case rel => exact ⟨0 + 1, by omega, rfl, fun _ => HZ.out, fun h => absurd h (by decide), HF.out⟩
      · have hz' : (e0 != 0) = true := bne_iff_ne.2 hz
        have HZ := Lib.hid hz
        clear hz
        have HR2 := Lib.hid (HR.out.symm.trans (over_e0 HX0.out HZ.out))
        go_wp2_with (go_at_call 18; refine (I.pax_Put.calls kp0 A0 c0 l _ _ _ _ (Kd.C_below C0h.out HB.out) n0 (HG.out.below HB.out) HK0.out).mono ?_; rintro e w1 ⟨v1, rfl, hR1, hb1⟩; obtain ⟨A9, c9, rfl⟩ := Kd.R_slice hR1; clear hR1)
        go_ret2
        exact ⟨.slice none 0 0, by rw [HR2.out]; rfl, by rw [HR2.out]; exact Kd.V_nil _ _ _ _ _, HB.out.trans (hb1.mono HB.out.size)⟩
    · have hc := (blk_cell HBk.out 1).trans rfl
      have hI := OInv.mk HO.out HBk.out HB.out
      have HI1 := Lib.hid hI
      clear hI
      by_cases hz : e1 = 0
      · have hz' : (e1 != 0) = false := bne_eq_false_iff_eq.2 hz
        have HZ := Lib.hid hz
        clear hz
        go_wp2_with (go_at_call 18; refine (I.pax_Put.calls kp1 A1 c1 m _ _ _ _ (Kd.C_below C1h.out HB.out) n1 (HG.out.below HB.out) HK1.out).mono ?_; rintro e w1 ⟨v1, rfl, hR1, hb1⟩; obtain ⟨A9, c9, rfl⟩ := Kd.R_slice hR1; clear hR1; have HI2 := Lib.hid (HI1.out.below hb1))
        obtain ⟨wo, rfl⟩ : ∃ wo : World, wo = wr := ⟨_, rfl⟩
        obtain ⟨go, rfl⟩ : ∃ go : Nat, go = gk := ⟨_, rfl⟩
        go_loopg [37] (m.length) (fun g s37 wy => ∃ k : Nat, k + g = m.length ∧ s37 = .int .i64 k ∧ OInv A0 c0 l A1 c1 m w (done l m 1 ++ m.take k) wy)
        case atStart => exact ⟨0, by omega, rfl, by rw [List.take_zero, List.append_nil]; exact HI2.out⟩
        case round =>
          obtain ⟨k, hkg, rfl, hJ⟩ := hrel
          have HJ := Lib.hid hJ
          clear hJ
          by_cases hk : k < m.length
          · obtain ⟨g, rfl⟩ : ∃ g, gk = g + 1 := ⟨gk - 1, by omega⟩
            obtain ⟨ad, hAd, hca, hcb⟩ := at_T32 (Kd.C_below C1h.out HJ.out.hB) (k : Int) (by omega) (by omega)
            rw [rd_at m k hk, Int.toNat_natCast] at hca hcb
            obtain ⟨x, hx⟩ : ∃ x, m[k] = x := ⟨_, rfl⟩
            rw [hx] at hca hcb
            have HXk := Lib.hid hx
            clear hx
            subst hAd
            have hkey := key_of x.f0 (by unfold maxLen; have := (fits_ok (good_fits (ok_good HX1.out HZ.out).2 x (by rw [← HXk.out]; exact List.getElem_mem hk))).2.1; omega)
            have HKY := Lib.hid hkey
            clear hkey
            have hln : (done l m 1 ++ m.take k).length < maxLen := by
              have h1 := (ok_good HX1.out HZ.out).1
              have h0 : (done l m 1).length ≤ 64 := (ok_good HX0.out (HE0.out (by decide))).1
              unfold maxLen
              rw [List.length_append, List.length_take]
              omega
            have HLN := Lib.hid hln
            clear hln
            have hown := HJ.out.own.alloc (.cells #[.string x.f0, .string x.f1] 32)
            have HOW := Lib.hid hown
            clear hown
            go_wp2_with (at_mapUpdate; refine wpList_mapUpdate_own _ rfl _ _ _ 53 rfl 9 32 (Maps.string_keyed Tryd.underlying9) Tryd.underlying53 Rp w.heap.size _ _ rfl HOW.out HLN.out (.string x.f0) (.agg #[.string x.f0, .string x.f1]) (.string x.f0.data.toList) rfl rfl HKY.out (encD x) [] rfl ?_; intro w3 hown3 hgrow3; have HJ2 := Lib.hid (HJ.out.put hown3 hgrow3); clear hown3 hgrow3)
            go_roundg g
            case measure => omega
            case rel => exact ⟨k + 1, by omega, by go_num, by rw [List.take_succ_eq_append_getElem hk, HXk.out, ← List.append_assoc]; exact HJ2.out⟩
          · have hk' : decide (k < m.length) = false := decide_eq_false hk
            have e : done l m (1 + 1) = done l m 1 ++ m.take k := by rw [List.take_of_length_le (by omega)]; rfl
            have HF := Lib.hid (show OInv A0 c0 l A1 c1 m w (done l m (1 + 1)) wr from by rw [e]; exact HJ.out)
            clear e
            go_wp2
            go_roundg 0
            case measure => omega
            case rel => exact ⟨1 + 1, by omega, rfl, fun _ => HE0.out (by decide), fun _ => HZ.out, HF.out⟩
      · have hz' : (e1 != 0) = true := bne_iff_ne.2 hz
        have HZ := Lib.hid hz
        clear hz
        have HR2 := Lib.hid (HR.out.symm.trans (over_e1 (by rw [HX0.out, HE0.out (by decide)]) HX1.out HZ.out))
        go_wp2_with (go_at_call 18; refine (I.pax_Put.calls kp1 A1 c1 m _ _ _ _ (Kd.C_below C1h.out HB.out) n1 (HG.out.below HB.out) HK1.out).mono ?_; rintro e w1 ⟨v1, rfl, hR1, hb1⟩; obtain ⟨A9, c9, rfl⟩ := Kd.R_slice hR1; clear hR1)
        go_ret2
        exact ⟨.slice none 0 0, by rw [HR2.out]; rfl, by rw [HR2.out]; exact Kd.V_nil _ _ _ _ _, HB.out.trans (hb1.mono HB.out.size)⟩
    · have hz0 := HE0.out (by decide)
      have hz1 := HE1.out (by decide)
      obtain ⟨g0l, g0⟩ := ok_good HX0.out hz0
      obtain ⟨g1l, g1⟩ := ok_good HX1.out hz1
      have ga0 := (good_asc g0).1
      have ga1 := (good_asc g1).1
      have hfo := HR.out.symm.trans (over_ok (by rw [HX0.out, hz0]) (by rw [HX1.out, hz1]))
      have hms := map_size ga0 ga1
      have hmm2 : ∀ x ∈ merge l m, x.f0.size ≤ maxLen := fun x hx => by
        have hfx : fitsErr x.f0 x.f1 = 0 := by
          rcases (merge_mem _ l m (Nat.le_refl _) ga0 ga1 x).1 hx with h | ⟨h, _⟩
          · exact good_fits g1 x h
          · exact good_fits g0 x h
        have := (fits_ok hfx).2.1
        unfold maxLen
        omega
      have HML := Lib.hid (fun x (hx : x ∈ merge l m) => merge_last ga0 ga1 hx)
      have HMK := Lib.hid (fun (ss : List (List UInt8)) (h : ss.Perm (strKeys (mapOf (l ++ m)))) => merge_keys ga0 ga1 h)
      have HMM := Lib.hid hmm2
      have HO2 := Lib.hid (show wr.ownsMap Tryd.prog 9 Rp w.heap.size (l ++ m).length (mapOf (l ++ m)) from HO.out)
      obtain ⟨M, hM⟩ : ∃ M, merge l m = M := ⟨_, rfl⟩
      rw [hM] at hfo hms HML HMK HMM
      have HSZ := Lib.hid hms
      have HFO := Lib.hid hfo
      clear hz0 hz1 g0 g1 g0l g1l ga0 ga1 hfo hms hmm2 HO hM HE0 HE1
      by_cases h64 : 64 < M.length
      · have HR2 := Lib.hid (HFO.out.trans (if_pos h64))
        have h64' : decide ((64 : Int) < (M.length : Int)) = true := decide_eq_true (by omega)
        have h64n := h64
        go_wp2_with (at_len; refine wpList_len_own _ rfl _ 53 rfl 9 32 Tryd.underlying53 Rp w.heap.size _ _ rfl HO2.out ?_; rw [HSZ.out])
        go_ret2
        exact ⟨.slice none 0 0, by rw [HR2.out]; rfl, by rw [HR2.out]; exact Kd.V_nil _ _ _ _ _, HB.out⟩
      · have HR2 := Lib.hid (HFO.out.trans (if_neg h64))
        have h64' : decide ((64 : Int) < (M.length : Int)) = false := decide_eq_false (by omega)
        go_wp2_with (first
          | (at_len; refine wpList_len_own _ rfl _ 53 rfl 9 32 Tryd.underlying53 Rp w.heap.size _ _ rfl HO2.out ?_; rw [HSZ.out])
          | (go_at_call 25; refine (callsIn_wide.1 (Tryd.maps_Keys_25 (some w.heap.size) wr)).mono ?_; rintro e w1 ⟨rfl, rfl⟩)
          | (go_at_call 24; refine (callsIn_wide.1 (Tryd.slices_Sorted_keys_24_25 w.heap.size _ _ Rp wr HO2.out (by rw [HSZ.out]; unfold maxLen; omega) (by rw [HSZ.out]; omega))).mono ?_; rintro e w2 ⟨v2, ss, rfl, hS, hrow, hnil, hb2⟩; obtain ⟨A2, c2, rfl, hc2, hRd, hB2⟩ := sorted_row hS (HMK.out ss hS) hrow hb2; clear hS hrow hnil hb2))
        have HC2 := Lib.hid hRd
        have HB2h := Lib.hid hB2
        have HMK2 : ∀ i, i < M.length → (M.map (·.f0)).getD i (⟨#[]⟩ : ByteArray) = (M.getD i z32).f0 := fun i hi => by simp [List.getD_eq_getElem?_getD, hi]
        have HMK3 := Lib.hid HMK2
        have HO3 := Lib.hid (HO2.out.kept (grown_of_below hB2 none) (by simp))
        clear hRd hB2 HMK2
        go_loopg [54, 14] (M.length) (fun g s54 s14 wy => ∃ (k : Nat) (A3 : Option Addr) (c3 : Nat), k + g = M.length ∧ s54 = .int .i64 k ∧ s14 = .slice A3 (M.take k).length c3 ∧ Below w2.heap.size w2 wy ∧ Kd.R k32 32 wy w2.heap.size (fun k => w2.heap.size ≤ k) (.slice A3 (M.take k).length c3) (M.take k))
        case atStart => exact ⟨0, none, 0, by omega, rfl, rfl, Below.refl _ _, Kd.R_nil _ _ _ _ _⟩
        case round =>
          obtain ⟨k, A3, c3, hkg, rfl, rfl, hB3, hR3⟩ := hrel
          have HB3 := Lib.hid hB3
          have HR3 := Lib.hid hR3
          clear hB3 hR3
          by_cases hk : k < M.length
          · obtain ⟨g, rfl⟩ : ∃ g, gk = g + 1 := ⟨gk - 1, by omega⟩
            obtain ⟨x, hx⟩ : ∃ x, M[k] = x := ⟨_, rfl⟩
            have hxm : x ∈ M := by rw [← hx]; exact List.getElem_mem hk
            have hxg : M.getD k z32 = x := by rw [List.getD_eq_getElem?_getD, List.getElem?_eq_getElem hk, hx]; rfl
            obtain ⟨ad, hAd, hca⟩ := (HC2.out.below HB3.out).at_ (k : Int) (by omega) (by omega)
            unfold rdOf at hca
            rw [Int.toNat_natCast, HMK3.out k hk, hxg] at hca
            have hlook := look_at (HO3.out.kept (grown_of_below HB3.out none) (by simp)) (HMM.out x hxm) (HML.out x hxm)
            have HXk := Lib.hid hx
            clear hx hxg
            subst hAd
            have htl : (M.take k).length = k := by rw [List.length_take]; omega
            have HTL := Lib.hid htl
            rw [htl] at HR3 ⊢
            clear htl
            go_wp2_with (at_builtin; refine Kd.R_append k32 (w0 := wr) w2.heap.size rfl (.tmp 58) (.tmp 62) 22 32 _ 32 rfl Tryd.underlying22 info_pr rfl (by decide) (by decide) (.slice A3 k c3) (M.take k) x [.string x.f0, .string x.f1] (fun k => w2.heap.size ≤ k) (fun _ => False) rfl rfl (k32_mkM _ _ _ x) (fun _ h => h.elim) (fun k hk => Nat.le_trans HB3.out.size hk) HR3.out (Below.refl _ _) HB3.out.size (by rw [HTL.out]; omega) ?_; intro v4 w4 hR4 hB4 hg4 hat4; clear hg4 hat4; obtain ⟨A4, c4, hv4⟩ := Kd.R_slice hR4; rw [List.length_append, List.length_singleton, HTL.out] at hv4; subst hv4; have HR4 := Lib.hid hR4; have HB4 := Lib.hid hB4; clear hR4 hB4)
            go_roundg g
            case measure => omega
            case rel =>
              have e1 : M.take k ++ [x] = M.take (k + 1) := by rw [List.take_succ_eq_append_getElem hk, HXk.out]
              have e2 : (M.take (k + 1)).length = k + 1 := by rw [List.length_take]; omega
              exact ⟨k + 1, A4, c4, by omega, by go_num, by rw [e2], HB3.out.trans HB4.out, by rw [e2, ← e1]; exact HR4.out⟩
          · have hk' : decide (k < M.length) = false := decide_eq_false hk
            have htl : (M.take k).length = M.length := by rw [List.length_take]; omega
            have hMt : M.take k = M := List.take_of_length_le (by omega)
            rw [htl] at HR3 ⊢
            rw [hMt] at HR3
            have hcl : M.length ≤ c3 := (Kd.R_reads' HR3.out).2.1
            clear htl hMt
            go_wp2_with (go_at_call 26; refine (clip_calls A3 M.length c3 _ hcl (by omega)).mono ?_; rintro e w' ⟨rfl, rfl⟩)
            go_ret2
            exact ⟨.slice A3 M.length M.length, by rw [HR2.out]; rfl, by rw [HR2.out]; exact Kd.V_mk (Nat.le_refl _) (Kd.F_mono (Kd.V_F (base := 0) (Kd.R_V HR3.out)) (fun k hk => by have := (HB.out.trans (HB2h.out.mono HB.out.size)).size; omega)), (HB.out.trans (HB2h.out.mono HB.out.size)).trans (HB3.out.mono (HB.out.trans (HB2h.out.mono HB.out.size)).size)⟩
end Go.Proofs.YtkkffccdkbijkaaDoor.H
namespace Go.Proofs.YtkkffccdkbijkaaDoor.I
open Go.RowKit Go.Proofs.YtkkffccdkbijkaaDoor.H Go.Proofs.YtkkffccdkbijkaaDoorW.PrintWords Go.Proofs.YtkkffccdkbijkaaDoorW.PrintLast Go.Proofs.YtkkffccdkbijkaaDoorW.PrintMore
def pax_Over.f (l0 l1 : List S32) : Option (List S32 × Int) := some (overOf l0 l1)
theorem pax_Over.calls (A0 : Option Addr) (c0 : Nat) (l0 : List S32) (A1 : Option Addr) (c1 : Nat) (l1 : List S32) (r0 : List S32) (r1 : Int) (w : World) (h0 : Kd.C k32 w A0 l0.length l0) (n0 : l0.length ≤ c0) (h1 : Kd.C k32 w A1 l1.length l1) (n1 : l1.length ≤ c1) (hG : GOK w) (h : pax_Over.f l0 l1 = some (r0, r1)) :
    Calls Tryd.prog 10 #[.slice A0 l0.length c0, .slice A1 l1.length c1] w fun e w' => ∃ v0_ : Value, e = .returned (.tuple #[v0_, .int .i64 r1]) ∧ Kd.V k32 32 w' w.heap.size (fun k_ => w.heap.size ≤ k_) v0_ r0 ∧ Below w.heap.size w w' := by
  have := over_calls A0 c0 l0 A1 c1 l1 w h0 n0 h1 n1 hG
  rw [Option.some.inj h] at this
  exact this
end Go.Proofs.YtkkffccdkbijkaaDoor.I
