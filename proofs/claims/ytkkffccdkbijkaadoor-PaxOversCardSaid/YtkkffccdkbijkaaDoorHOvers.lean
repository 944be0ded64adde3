/- PaxOvers: the walk. -/
import Derived.Test.YtkkffccdkbijkaaDoorHLent
import Derived.Test.YtkkffccdkbijkaaDoorIx6
import Derived.Test.YtkkffccdkbijkaaDoorHOver
import Derived.Outline
namespace Go.Proofs.YtkkffccdkbijkaaDoor.H
open Go.RowKit Go.Proofs.YtkkffccdkbijkaaDoor.I Go.Proofs.YtkkffccdkbijkaaDoorW.PrintWords Go.Proofs.YtkkffccdkbijkaaDoorW.PrintLast Go.Proofs.YtkkffccdkbijkaaDoorW.PrintMore
set_option linter.unusedVariables false
set_option linter.unusedSimpArgs false
theorem refrec_f (k v : ByteArray) (h : k.size ≤ 9223372036854775807) : tabularyref09_Record.f k v = some (recErr k v) := by
  unfold tabularyref09_Record.f
  rw [if_pos h]
theorem refput_l0 (l : List Pr) (hl : l.length ≤ 64) (hs : ∀ p ∈ l, p.f0.size ≤ 9223372036854775807) (d : Nat) : ∀ (i : Nat) (out : List Int), l.length - i = d → i ≤ l.length → out.length ≤ i * 1078 →
    Ev (fun k => tabularyref09_Put.l0 k l out (i : Int)) (putL (keyBefore l i) i out (l.drop i)) := by
  induction d with
  | zero =>
    intro i out hd hi ho
    rw [List.drop_eq_nil_of_le (by omega), putL]
    exact Ev.step (f := fun _ => some (out, 0, 0)) (fun k => by simp only [tabularyref09_Put.l0]; rw [if_neg (by omega)]) (Ev.now _)
  | succ d ih =>
    intro i out hd hi ho
    have hlt : i < l.length := by omega
    have hr := rd_at l i hlt
    have hsz0 := hs l[i] (List.getElem_mem hlt)
    rw [List.drop_eq_getElem_cons hlt, putL]
    generalize hp : l[i] = p at hr hsz0
    have hrf := refrec_f p.f0 p.f1 hsz0
    refine Ev.step (f := fun k => (if (recErr p.f0 p.f1).2 = 0 then (if (i : Int) > 0 then (if 0 ≤ (wrap64 ((i : Int) - 1)) then (if (wrap64 ((i : Int) - 1)) < (l.length : Int) then (if ((Op.bytesLess (((rd_T32 l (wrap64 ((i : Int) - 1))).f0).toList) (p.f0.toList)) = true) then (if out.length + (recErr p.f0 p.f1).1.length < 140737488355328 then (tabularyref09_Put.l0 k l (out ++ (recErr p.f0 p.f1).1) (wrap64 ((i : Int) + 1))) else (none)) else (some (([] : List Int), (i : Int), 92))) else (none)) else (none)) else (if out.length + (recErr p.f0 p.f1).1.length < 140737488355328 then (tabularyref09_Put.l0 k l (out ++ (recErr p.f0 p.f1).1) (wrap64 ((i : Int) + 1))) else (none))) else (some (([] : List Int), (i : Int), (recErr p.f0 p.f1).2)))) (fun k => ?_) ?_
    · simp only [tabularyref09_Put.l0, hr, hrf, Option.bind_some]
      rw [if_pos (by omega), if_pos (by omega)]
    by_cases hf : fitsErr p.f0 p.f1 = 0
    · have hre : recErr p.f0 p.f1 = (recOf p.f0 p.f1, 0) := by unfold recErr; rw [if_pos hf]
      rw [if_neg (show ¬ (fitsErr p.f0 p.f1 ≠ 0) by simpa using hf)]
      have hsz := rec_small hf
      have hln := recOf_len p.f0 p.f1 (by have := rest_small hf; have : (10 : Nat) ^ 17 = 100000000000000000 := by decide
                                          omega)
      have hw : wrap64 ((i : Int) + 1) = ((i + 1 : Nat) : Int) := wrap_in (by omega) (by omega)
      have hk : keyBefore l (i + 1) = some p.f0 := by
        unfold keyBefore
        rw [if_neg (by omega), Nat.add_sub_cancel, List.getElem?_eq_getElem hlt, hp]; rfl
      have hol : out.length + (recOf p.f0 p.f1).length < 140737488355328 := by rw [hln]; omega
      have go : Ev (fun k => (if out.length + (recOf p.f0 p.f1).length < 140737488355328 then (tabularyref09_Put.l0 k l (out ++ recOf p.f0 p.f1) (wrap64 ((i : Int) + 1))) else (none))) (putL (some p.f0) (i + 1) (out ++ recOf p.f0 p.f1) (l.drop (i + 1))) := by
        refine Ev.congr (fun k => by rw [if_pos hol]) ?_
        rw [hw, ← hk]
        exact ih (i + 1) _ (by omega) (by omega) (by rw [List.length_append, hln]; omega)
      rw [hre]
      by_cases h0 : i = 0
      · subst h0
        rw [if_neg (show ¬ (∃ u ∈ keyBefore l 0, Op.bytesLess u.toList p.f0.toList = false) by simp [keyBefore])]
        exact Ev.congr (fun k => by rw [if_pos rfl, if_neg (by omega)]) go
      · have hw1 : wrap64 ((i : Int) - 1) = ((i - 1 : Nat) : Int) := by rw [wrap_in (by omega) (by omega)]; omega
        have hr1 := rd_at l (i - 1) (by omega)
        have hq : keyBefore l i = some (l[i - 1]'(by omega)).f0 := by
          unfold keyBefore
          rw [if_neg h0, List.getElem?_eq_getElem (by omega)]; rfl
        rw [hq]
        by_cases hb : Op.bytesLess (l[i - 1]'(by omega)).f0.toList p.f0.toList = true
        · rw [if_neg (show ¬ (∃ u ∈ some (l[i - 1]'(by omega)).f0, Op.bytesLess u.toList p.f0.toList = false) by simp [hb])]
          exact Ev.congr (fun k => by rw [if_pos rfl, if_pos (by omega), hw1, hr1, if_pos (by omega), if_pos (by omega), if_pos hb]) go
        · rw [if_pos (show ∃ u ∈ some (l[i - 1]'(by omega)).f0, Op.bytesLess u.toList p.f0.toList = false by simpa using hb)]
          exact Ev.congr (fun k => by rw [if_pos rfl, if_pos (by omega), hw1, hr1, if_pos (by omega), if_pos (by omega), if_neg hb]) (Ev.now _)
    · have hre : recErr p.f0 p.f1 = ([], fitsErr p.f0 p.f1) := by unfold recErr; rw [if_neg hf]
      rw [if_pos (show fitsErr p.f0 p.f1 ≠ 0 from hf), hre]
      exact Ev.congr (fun k => by rw [if_neg hf]) (Ev.now _)
theorem refput_f (l : List Pr) (hs : ∀ p ∈ l, p.f0.size ≤ 9223372036854775807) : Ev (fun k => tabularyref09_Put.f k l) (putOf l) := by
  unfold putOf
  by_cases h : 64 < l.length
  · rw [if_pos h]
    exact Ev.congr (fun k => by unfold tabularyref09_Put.f; rw [if_pos (by omega)]) (Ev.now _)
  · rw [if_neg h]
    refine Ev.congr (fun k => by unfold tabularyref09_Put.f; rw [if_neg (by omega)]; rfl) (ev_cast ?_ (refput_l0 l (by omega) hs l.length 0 [] rfl (Nat.zero_le _) (by simp)))
    simp [keyBefore]
theorem less_iff (p q : Pr) : Op.bytesLess p.f0.toList q.f0.toList = true ↔ key p < key q := by
  rw [bytesLess_eq, Lib.toList_data, Lib.toList_data]
  exact decide_eq_true_iff
theorem key_iff (p q : Pr) : key p = key q ↔ p.f0.toList = q.f0.toList := by
  rw [Lib.toList_data, Lib.toList_data]
  rfl
/-- Two lists laid over one another, from two places on. -/
def endOf (R : List Pr) : List Pr × Int := if 64 < R.length then ([], 3) else (R, 0)
theorem refover_end (l m : List Pr) (i j : Nat) (out : List Pr) (hi : l.length ≤ i) (hj : m.length ≤ j) : Ev (fun k => tabularyref09_Over.l0 k l m out (i : Int) (j : Int)) (endOf (out ++ merge (l.drop i) (m.drop j))) := by
  rw [List.drop_eq_nil_of_le hi, List.drop_eq_nil_of_le hj, merge_nil, List.append_nil]
  have hdj : decide ((j : Int) < (m.length : Int)) = false := decide_eq_false (by omega)
  refine Ev.step (f := fun k => tabularyref09_Over.j1 k l m out i j false) (fun k => by simp only [tabularyref09_Over.l0]; rw [if_neg (by omega), hdj]) ?_
  refine Ev.step (f := fun _ => some (endOf out)) (fun k => ?_) (Ev.now _)
  simp only [tabularyref09_Over.j1, endOf]
  rw [if_neg (by decide)]
  by_cases h : 64 < out.length
  · rw [if_pos h, if_pos (by omega)]
  · rw [if_neg h, if_neg (by omega)]
theorem refover_l0 (l m : List Pr) (hl : l.length ≤ 64) (hm : m.length ≤ 64) (d : Nat) : ∀ (i j : Nat) (out : List Pr), (l.length - i) + (m.length - j) ≤ d → i ≤ l.length → j ≤ m.length → out.length ≤ i + j →
    Ev (fun k => tabularyref09_Over.l0 k l m out (i : Int) (j : Int)) (endOf (out ++ merge (l.drop i) (m.drop j))) := by
  induction d with
  | zero =>
    intro i j out hd hi hj ho
    exact refover_end l m i j out (by omega) (by omega)
  | succ d ih =>
    intro i j out hd hi hj ho
    by_cases hil : i < l.length
    · have hri := rd_at l i hil
      have hwi : wrap64 ((i : Int) + 1) = ((i + 1 : Nat) : Int) := wrap_in (by omega) (by omega)
      rw [List.drop_eq_getElem_cons hil]
      generalize hp : l[i] = p at hri ⊢
      refine Ev.step (f := fun k => tabularyref09_Over.j1 k l m out i j true) (fun k => by simp only [tabularyref09_Over.l0]; rw [if_pos (by omega)]) ?_
      by_cases hjm : j < m.length
      · have hrj := rd_at m j hjm
        have hwj : wrap64 ((j : Int) + 1) = ((j + 1 : Nat) : Int) := wrap_in (by omega) (by omega)
        rw [List.drop_eq_getElem_cons hjm]
        generalize hq : m[j] = q at hrj ⊢
        refine Ev.step (f := fun k => tabularyref09_Over.j2 k l m out i j (Op.bytesLess p.f0.toList q.f0.toList)) (fun k => by simp only [tabularyref09_Over.j1, hri, hrj]; rw [if_pos trivial, if_neg (by omega), if_pos (by omega), if_pos (by omega), if_pos (by omega), if_pos (by omega)]) ?_
        rw [merge_cons]
        by_cases hb : Op.bytesLess p.f0.toList q.f0.toList = true
        · rw [hb, if_pos ((less_iff p q).1 hb)]
          have := ih (i + 1) j (out ++ [p]) (by omega) (by omega) hj (by rw [List.length_append, List.length_singleton]; omega)
          rw [List.append_assoc, List.singleton_append, List.drop_eq_getElem_cons hjm, hq] at this
          exact Ev.step (f := fun k => tabularyref09_Over.l0 k l m (out ++ [p]) ((i + 1 : Nat) : Int) (j : Int)) (fun k => by simp only [tabularyref09_Over.j2, hri]; rw [if_pos trivial, if_pos (by omega), if_pos (by omega), if_pos (by omega), hwi]) this
        · have hb' : Op.bytesLess p.f0.toList q.f0.toList = false := by simpa using hb
          rw [hb', if_neg (fun h => hb ((less_iff p q).2 h))]
          by_cases he : p.f0.toList = q.f0.toList
          · rw [if_pos ((key_iff p q).2 he)]
            have := ih (i + 1) (j + 1) (out ++ [q]) (by omega) (by omega) (by omega) (by rw [List.length_append, List.length_singleton]; omega)
            rw [List.append_assoc, List.singleton_append] at this
            exact Ev.step (f := fun k => tabularyref09_Over.l0 k l m (out ++ [q]) ((i + 1 : Nat) : Int) ((j + 1 : Nat) : Int)) (fun k => by simp only [tabularyref09_Over.j2, hri, hrj]; rw [if_neg (by decide), if_pos (by omega), if_pos (by omega), if_pos (by omega), if_pos (by omega), if_pos he, if_pos (by omega), hwi, hwj]) this
          · rw [if_neg (fun h => he ((key_iff p q).1 h))]
            have := ih i (j + 1) (out ++ [q]) (by omega) (by omega) (by omega) (by rw [List.length_append, List.length_singleton]; omega)
            rw [List.append_assoc, List.singleton_append, List.drop_eq_getElem_cons hil, hp] at this
            exact Ev.step (f := fun k => tabularyref09_Over.l0 k l m (out ++ [q]) (i : Int) ((j + 1 : Nat) : Int)) (fun k => by simp only [tabularyref09_Over.j2, hri, hrj]; rw [if_neg (by decide), if_pos (by omega), if_pos (by omega), if_pos (by omega), if_pos (by omega), if_neg he, if_pos (by omega), hwj]) this
      · rw [List.drop_eq_nil_of_le (by omega : m.length ≤ j), merge_nil']
        have := ih (i + 1) j (out ++ [p]) (by omega) (by omega) hj (by rw [List.length_append, List.length_singleton]; omega)
        rw [List.append_assoc, List.singleton_append, List.drop_eq_nil_of_le (by omega : m.length ≤ j), merge_nil'] at this
        refine Ev.step (f := fun k => tabularyref09_Over.j2 k l m out i j true) (fun k => by simp only [tabularyref09_Over.j1]; rw [if_pos trivial, if_pos (by omega)]) ?_
        exact Ev.step (f := fun k => tabularyref09_Over.l0 k l m (out ++ [p]) ((i + 1 : Nat) : Int) (j : Int)) (fun k => by simp only [tabularyref09_Over.j2, hri]; rw [if_pos trivial, if_pos (by omega), if_pos (by omega), if_pos (by omega), hwi]) this
    · by_cases hjm : j < m.length
      case neg => exact refover_end l m i j out (by omega) (by omega)
      have hrj := rd_at m j hjm
      have hwj : wrap64 ((j : Int) + 1) = ((j + 1 : Nat) : Int) := wrap_in (by omega) (by omega)
      rw [List.drop_eq_nil_of_le (by omega : l.length ≤ i), merge_nil, List.drop_eq_getElem_cons hjm]
      have := ih i (j + 1) (out ++ [m[j]]) (by omega) (by omega) (by omega) (by rw [List.length_append, List.length_singleton]; omega)
      rw [List.append_assoc, List.singleton_append, List.drop_eq_nil_of_le (by omega : l.length ≤ i), merge_nil] at this
      generalize m[j] = q at hrj this ⊢
      have hdj : decide ((j : Int) < (m.length : Int)) = true := decide_eq_true (by omega)
      refine Ev.step (f := fun k => tabularyref09_Over.j1 k l m out i j true) (fun k => by simp only [tabularyref09_Over.l0]; rw [if_neg (by omega), hdj]) ?_
      refine Ev.step (f := fun k => tabularyref09_Over.j2 k l m out i j false) (fun k => by simp only [tabularyref09_Over.j1]; rw [if_pos trivial, if_neg (by omega), if_neg (by omega)]) ?_
      exact Ev.step (f := fun k => tabularyref09_Over.l0 k l m (out ++ [q]) (i : Int) ((j + 1 : Nat) : Int)) (fun k => by simp only [tabularyref09_Over.j2, hrj]; rw [if_neg (by decide), if_neg (by omega), if_pos (by omega), if_pos (by omega), if_pos (by omega), hwj]) this
theorem refover_f (l m : List Pr) (hl : ∀ p ∈ l, p.f0.size ≤ 9223372036854775807) (hm : ∀ p ∈ m, p.f0.size ≤ 9223372036854775807) : Ev (fun k => tabularyref09_Over.f k l m) (overOf l m) := by
  refine Ev.congr (fun n => by unfold tabularyref09_Over.f; rfl) (Ev.bind (refput_f l hl) ?_)
  unfold overOf
  by_cases h0 : (putOf l).2.2 = 0
  · rw [if_neg (by simpa using h0)]
    refine Ev.congr (fun k => by rw [if_pos h0]) (Ev.bind (refput_f m hm) ?_)
    by_cases h1 : (putOf m).2.2 = 0
    · rw [if_neg (by simpa using h1)]
      have hll : l.length ≤ 64 := by
        rcases Nat.lt_or_ge 64 l.length with h | h
        · unfold putOf at h0; rw [if_pos h] at h0; exact absurd h0 (by decide)
        · exact h
      have hmm : m.length ≤ 64 := by
        rcases Nat.lt_or_ge 64 m.length with h | h
        · unfold putOf at h1; rw [if_pos h] at h1; exact absurd h1 (by decide)
        · exact h
      exact Ev.congr (fun k => by rw [if_pos h1]; rfl) (refover_l0 l m hll hmm _ 0 0 [] (Nat.le_refl _) (Nat.zero_le _) (Nat.zero_le _) (Nat.zero_le _))
    · rw [if_pos (by simpa using h1)]
      exact Ev.congr (fun k => by rw [if_neg h1]) (Ev.now _)
  · rw [if_pos (by simpa using h0)]
    exact Ev.congr (fun k => by rw [if_neg h0]) (Ev.now _)
theorem size_empty : recSize (⟨#[]⟩ : ByteArray) ⟨#[]⟩ = 4 := by
  have h : Lib.nDigits 4 = 1 := by
    have h1 := nDig_pos 4
    have h2 := nDig_le 1 4 (by decide)
    omega
  have h3 : restOf (⟨#[]⟩ : ByteArray) ⟨#[]⟩ = 3 := rfl
  have h4 : szD 20 3 1 = 1 := by
    rw [szD, if_pos h]
  unfold recSize recDig
  rw [h3, h4]
/-- A list that was lent, as it is read. -/
theorem lent_read {w : World} {A : Option Addr} {l : List Pr} (C : Kd.C k32 w A (l ++ [markS]).length (l ++ [markS])) : Kd.C k32 w A l.length l := by
  have := Kd.C_take C (m := l.length) (by rw [List.length_append]; omega)
  rwa [List.take_left] at this
set_option maxRecDepth 100000 in
theorem overs_calls (A0 : Option Addr) (c0 : Nat) (l0 : List Pr) (A1 : Option Addr) (c1 : Nat) (l1 : List Pr) (w : World)
    (C0 : Kd.C k32 w A0 l0.length l0) (n0 : l0.length ≤ c0) (s0 : l0.length * 32 ≤ 140737488351232) (C1 : Kd.C k32 w A1 l1.length l1) (n1 : l1.length ≤ c1) (s1 : l1.length * 32 ≤ 140737488351232) (k0 : ∀ p ∈ l0, p.f0.size ≤ 9223372036854775807) (k1 : ∀ p ∈ l1, p.f0.size ≤ 9223372036854775807) (hG : GOK w) :
    Calls Tryd.prog 3 #[.slice A0 l0.length c0, .slice A1 l1.length c1] w fun e w' => e = .returned (.bool true) ∧ Below w.heap.size w w' := by
  have HG := Lib.hid hG
  have HC0 := Lib.hid C0
  have HC1 := Lib.hid C1
  obtain ⟨ko, hko⟩ := Ev.rounds (refover_f l0 l1 k0 k1)
  have HO0 := Lib.hid hko
  obtain ⟨R, hR⟩ : ∃ R, overOf l0 l1 = R := ⟨_, rfl⟩
  obtain ⟨r1, r2⟩ := R
  rw [hR] at HO0
  have HRR := Lib.hid hR
  have hr64 : r1.length ≤ 64 := by
    unfold overOf at hR
    split at hR
    · obtain ⟨rfl, -⟩ := Prod.mk.inj hR; exact Nat.zero_le _
    · split at hR
      · obtain ⟨rfl, -⟩ := Prod.mk.inj hR; exact Nat.zero_le _
      · split at hR
        · obtain ⟨rfl, -⟩ := Prod.mk.inj hR; exact Nat.zero_le _
        · obtain ⟨rfl, -⟩ := Prod.mk.inj hR; omega
  obtain ⟨kp, hkp⟩ := Ev.rounds (pairs_same r1 (by omega))
  have HKP := Lib.hid hkp
  obtain ⟨ks, hks⟩ := Ev.rounds (size_f (⟨#[]⟩ : ByteArray) ⟨#[]⟩ (by decide))
  rw [size_empty] at hks
  have HKS := Lib.hid hks
  clear hG C0 C1 hko hR hr64 hkp hks k0 k1
  go_enter Tryd.func3, Tryd.ntmps3
  go_wp2_with fail
  refine (lent_calls A0 c0 l0 w HC0.out n0 s0).mono ?_
  rintro e w1 ⟨B0, d0, rfl, hd0, hL0, hb1⟩
  have HL0 := Lib.hid hL0
  have HB1 := Lib.hid hb1
  clear hL0 hb1
  go_wp2_with fail
  refine (lent_calls A1 c1 l1 w1 (Kd.C_below HC1.out HB1.out) n1 s1).mono ?_
  rintro e w2 ⟨B1, d1, rfl, hd1, hL1, hb2⟩
  have HL1 := Lib.hid hL1
  have HL0b := Lib.hid (Kd.C_below HL0.out hb2)
  have HB2 := Lib.hid (HB1.out.trans (hb2.mono HB1.out.size))
  clear hL1 hb2
  go_wp2_with fail
  refine (over_calls B0 d0 l0 B1 d1 l1 w2 (lent_read HL0b.out) (by omega) (lent_read HL1.out) (by omega) (HG.out.below HB2.out)).mono ?_
  rw [HRR.out]
  rintro e w3 ⟨v3, rfl, hV3, hb3⟩
  obtain ⟨A3, c3, rfl⟩ := Kd.V_slice hV3
  obtain ⟨-, hc3, hC3⟩ := Kd.V_reads' hV3
  have HC3 := Lib.hid hC3
  have HL0c := Lib.hid (Kd.C_below HL0b.out hb3)
  have HL1c := Lib.hid (Kd.C_below HL1.out hb3)
  have HB3 := Lib.hid (HB2.out.trans (hb3.mono HB2.out.size))
  clear hV3 hb3 hC3
  go_wp2_with fail
  refine (I.tabularyref09_Over.calls ko A0 c0 l0 A1 c1 l1 r1 r2 w3 (Kd.C_below HC0.out HB3.out) n0 (Kd.C_below HC1.out HB3.out) n1 HO0.out).mono ?_
  rintro e w4 ⟨v4, rfl, hR4, hb4⟩
  obtain ⟨A4, c4, rfl⟩ := Kd.R_slice hR4
  obtain ⟨-, hc4, hC4⟩ := Kd.R_reads' hR4
  have HC4 := Lib.hid hC4
  have HC3b := Lib.hid (Kd.C_below HC3.out hb4)
  have HL0d := Lib.hid (Kd.C_below HL0c.out hb4)
  have HL1d := Lib.hid (Kd.C_below HL1c.out hb4)
  have HB4 := Lib.hid (HB3.out.trans (hb4.mono HB3.out.size))
  clear hR4 hb4 hC4
  go_wp2_with fail
  refine (I.tabularylaw09_pairs.calls kp A3 c3 r1 A4 c4 r1 true w4 HC3b.out hc3 HC4.out hc4 HKP.out).mono ?_
  rintro e w5 ⟨rfl, hd5⟩
  have hb5 := hd5.below
  have HL0e := Lib.hid (Kd.C_below HL0d.out hb5)
  have HL1e := Lib.hid (Kd.C_below HL1d.out hb5)
  have HB5 := Lib.hid (HB4.out.trans (hb5.mono HB4.out.size))
  clear hd5 hb5
  go_wp2_with fail
  refine (kept_calls B0 d0 A0 c0 l0 w5 HL0e.out hd0 (Kd.C_below HC0.out HB5.out) n0 s0).mono ?_
  rintro e w6 ⟨rfl, hb6⟩
  have HL1f := Lib.hid (Kd.C_below HL1e.out hb6)
  have HB6 := Lib.hid (HB5.out.trans (hb6.mono HB5.out.size))
  clear hb6
  go_wp2_with fail
  refine (kept_calls B1 d1 A1 c1 l1 w6 HL1f.out hd1 (Kd.C_below HC1.out HB6.out) n1 s1).mono ?_
  rintro e w7 ⟨rfl, hb7⟩
  have HB7 := Lib.hid (HB6.out.trans (hb7.mono HB6.out.size))
  clear hb7
  go_wp2_with fail
  refine (I.pax_Size.calls ks _ _ _ w7 (HG.out.below HB7.out) HKS.out).mono ?_
  rintro e w8 ⟨rfl, hb8⟩
  go_wp2
  go_ret
  exact ⟨rfl, HB7.out.trans (hb8.mono HB7.out.size)⟩
end Go.Proofs.YtkkffccdkbijkaaDoor.H
