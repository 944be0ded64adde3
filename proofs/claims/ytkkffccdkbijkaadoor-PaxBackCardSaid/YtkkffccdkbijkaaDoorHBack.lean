/- PaxBack in plain Lean: what was put is got; what is got, put, is the same bytes; a record that was cut is none. -/
import Derived.Test.YtkkffccdkbijkaaDoorIx4
import Derived.Test.YtkkffccdkbijkaaDoorHRecs
namespace Go.Proofs.YtkkffccdkbijkaaDoor.H
open Go.RowKit Go.Proofs.YtkkffccdkbijkaaDoor.I Go.Proofs.YtkkffccdkbijkaaDoorW.PrintWords Go.Proofs.YtkkffccdkbijkaaDoorW.PrintLast Go.Proofs.YtkkffccdkbijkaaDoorW.PrintMore
set_option linter.unusedVariables false
set_option linter.unusedSimpArgs false

theorem putOf_ok {l : List Pr} (h : (putOf l).2.2 = 0) : l.length ≤ 64 ∧ Good none l ∧ putOf l = (cat l, 0, 0) := by
  unfold putOf at h ⊢
  by_cases hl : 64 < l.length
  · rw [if_pos hl] at h; exact absurd h (show (3 : Int) ≠ 0 by decide)
  · rw [if_neg hl] at h ⊢
    have hg := putL_bad _ _ _ _ h
    exact ⟨by omega, hg, by rw [putL_good _ _ _ _ hg]; rfl⟩
theorem putOf_good {l : List Pr} (hl : l.length ≤ 64) (h : Good none l) : putOf l = (cat l, 0, 0) := by
  unfold putOf
  rw [if_neg (by omega), putL_good _ _ _ _ h]
  rfl
theorem getOf_made {l : List Pr} (hl : l.length ≤ 64) (h : Good none l) : getOf (cat l) = (l, 0, 0) := by
  unfold getOf
  exact getL_good l _ [] 0 h (by simpa using hl) (Nat.le_refl _)
theorem getOf_read {b : List Int} (hb : IsBy b) : ((getOf b).2.2 = 0 ∧ ∃ l, getOf b = (l, 0, 0) ∧ Good none l ∧ cat l = b ∧ l.length ≤ 64) ∨ ((getOf b).2.2 ≠ 0 ∧ (getOf b).1 = [] ∧ ∃ q : Nat, (getOf b).2.1 = (q : Int) ∧ q ≤ b.length) := by
  unfold getOf
  rcases getL_read b.length [] 0 b hb (Nat.le_refl _) (by decide) with ⟨h1, l, h2, h3, h4, h5⟩ | ⟨h1, h2, q, h3, h4⟩
  · exact .inl ⟨h1, l, h2, h3, h4, h5⟩
  · exact .inr ⟨h1, h2, q, by rw [h3, Nat.zero_add], h4⟩
theorem bytes_l0 (l : List Int) (hl : l.length ≤ 140737488355328) (d : Nat) : ∀ i : Nat, l.length - i = d → i ≤ l.length → Ev (fun k => tabularylaw09_bytes.l0 k l l (i : Int)) true := by
  induction d with
  | zero =>
    intro i hd hi
    exact Ev.step (f := fun _ => some true) (fun k => by simp only [tabularylaw09_bytes.l0]; rw [if_neg (by omega)]) (Ev.now _)
  | succ d ih =>
    intro i hd hi
    have hw : wrap64 ((i : Int) + 1) = ((i + 1 : Nat) : Int) := by rw [wrap_in (by omega) (by omega)]; rfl
    refine Ev.step (f := fun k => tabularylaw09_bytes.l0 k l l ((i + 1 : Nat) : Int)) (fun k => ?_) (ih (i + 1) (by omega) (by omega))
    simp only [tabularylaw09_bytes.l0]
    rw [if_pos (by omega), if_pos (by omega), if_pos (by omega), if_pos trivial, hw]
theorem bytes_same (l : List Int) (hl : l.length ≤ 140737488355328) : Ev (fun k => tabularylaw09_bytes.f k l l) true := by
  refine Ev.congr (fun k => ?_) (bytes_l0 l hl l.length 0 rfl (Nat.zero_le _))
  unfold tabularylaw09_bytes.f
  rw [if_pos rfl]
  rfl
theorem get_f {l : List Int} (h : l.length ≤ 140737488355328) : pax_Get.f l = some (getOf l) := by unfold pax_Get.f; rw [if_pos h]

theorem back_j1 (l : List Pr) (cut : Int) (hl : l.length ≤ 140737488355328) : Ev (fun k => tabularylaw09_PaxBack.j1 k l cut) true := by
  cases l with
  | nil => exact Ev.step (f := fun _ => some true) (fun k => by simp only [tabularylaw09_PaxBack.j1]; rw [if_pos (show (([] : List Pr).length : Int) = 0 from rfl)]) (Ev.now _)
  | cons p l =>
    have hr : rd_T32 (p :: l) 0 = p := rd_at (p :: l) 0 (by simp)
    have h0 : ¬ (((p :: l).length : Nat) : Int) = 0 := by rw [List.length_cons]; omega
    have h1 : (0 : Int) < (((p :: l).length : Nat) : Int) := by rw [List.length_cons]; omega
    refine Ev.step (f := fun k => (pax_Record.f k p.f0 p.f1).bind fun bt205 => (if bt205.2 = 0 then (if cut < 1 then (some true) else (if cut ≥ (bt205.1.length : Int) then (some true) else (if 0 ≤ cut then (if cut ≤ (bt205.1.length : Int) then ((pax_Get.f (bt205.1.take (cut : Int).toNat)).bind fun bt213 => (if (bt213.1.length : Int) = 0 then (if bt213.2.1 = 0 then (some (bt213.2.2 == 90)) else (some false)) else (some false))) else (none)) else (none)))) else (some true))) (fun k => ?_) ?_
    · simp only [tabularylaw09_PaxBack.j1, hr]
      rw [if_neg h0, if_pos h1]
    · refine Ev.bind (record_f p.f0 p.f1) ?_
      refine Ev.congr (fun k => ?_) (Ev.now true)
      unfold recErr
      by_cases hf : fitsErr p.f0 p.f1 = 0
      · rw [if_pos hf, if_pos rfl]
        dsimp only
        by_cases hc1 : cut < 1
        · rw [if_pos hc1]
        · rw [if_neg hc1]
          by_cases hc2 : cut ≥ ((recOf p.f0 p.f1).length : Int)
          · rw [if_pos hc2]
          · rw [if_neg hc2, if_pos (by omega), if_pos (by omega)]
            have h17 := ten17
            have hs := rec_small hf
            have hrs := rest_small hf
            have hlen := recOf_len p.f0 p.f1 (by rw [h17]; exact Nat.lt_of_le_of_lt hrs (by decide))
            have hcut := one_cut hf cut.toNat (by omega) (by rw [← hlen]; omega)
            have hlt : ((recOf p.f0 p.f1).take cut.toNat).length = cut.toNat := by rw [List.length_take]; omega
            have hne : (recOf p.f0 p.f1).take cut.toNat ≠ [] := fun e => by rw [e, List.length_nil] at hlt; omega
            have hg : getOf ((recOf p.f0 p.f1).take cut.toNat) = ([], 0, 90) := by
              unfold getOf
              obtain ⟨f, hfe⟩ : ∃ f, ((recOf p.f0 p.f1).take cut.toNat).length = f + 1 := ⟨cut.toNat - 1, by omega⟩
              rw [hfe, getL_err hne (by simp) hcut]
              rfl
            rw [get_f (by omega), hg]
            rfl
      · rw [if_neg hf]
        rw [if_neg (show ¬ fitsErr p.f0 p.f1 = 0 from hf)]

theorem back_j0 (l : List Pr) (b : List Int) (cut : Int) (hl : l.length ≤ 140737488355328) (hb : IsBy b) (hbl : b.length ≤ 140737488355328) : Ev (fun k => tabularylaw09_PaxBack.j0 k l b cut) true := by
  rcases getOf_read hb with ⟨h1, m, h2, h3, h4, h5⟩ | ⟨h1, h2, q, h3, h4⟩
  · refine Ev.step (f := fun k => (pax_Put.f k m).bind fun bt198 => (if bt198.2.2 = 0 then ((tabularylaw09_bytes.f k bt198.1 b).bind fun t203 => (if t203 = true then (tabularylaw09_PaxBack.j1 k l cut) else (some false))) else (some false))) (fun k => ?_) ?_
    · simp only [tabularylaw09_PaxBack.j0]
      rw [get_f hbl, h2]
      rfl
    · refine Ev.bind (put_f m) ?_
      rw [putOf_good h5 h3, h4]
      refine Ev.congr (fun k => by rw [if_pos rfl]) (Ev.bind (bytes_same b hbl) ?_)
      exact Ev.congr (fun k => by rw [if_pos rfl]) (back_j1 l cut hl)
  · refine Ev.step (f := fun k => tabularylaw09_PaxBack.j1 k l cut) (fun k => ?_) (back_j1 l cut hl)
    simp only [tabularylaw09_PaxBack.j0]
    rw [get_f hbl]
    simp only [Option.bind_some]
    rw [if_neg h1, h2, if_pos (show (([] : List Pr).length : Int) = 0 from rfl), h3, if_neg (by omega), if_neg (by omega)]

/-- PaxBack. -/
theorem back_true (l : List Pr) (b : List Int) (cut : Int) (hl : l.length ≤ 140737488355328) (hb : IsBy b) (hbl : b.length ≤ 140737488355328) : ∃ k, tabularylaw09_PaxBack.f k l b cut = some true := by
  refine Ev.rounds (g := fun k => tabularylaw09_PaxBack.f k l b cut) ?_
  refine Ev.congr (f := fun k => (pax_Put.f k l).bind fun bt182 => (if bt182.2.2 = 0 then ((pax_Get.f bt182.1).bind fun bt187 => (if bt187.2.2 = 0 then ((tabularylaw09_pairs.f k bt187.1 l).bind fun t192 => (if t192 = true then (tabularylaw09_PaxBack.j0 k l b cut) else (some false))) else (some false))) else (tabularylaw09_PaxBack.j0 k l b cut))) (fun k => ?_) ?_
  · unfold tabularylaw09_PaxBack.f tabularylaw09_awake.f
    rfl
  · refine Ev.bind (put_f l) ?_
    by_cases h : (putOf l).2.2 = 0
    · obtain ⟨h1, h2, h3⟩ := putOf_ok h
      have hcl := good_len l none h2
      refine Ev.congr (f := fun k => (tabularylaw09_pairs.f k l l).bind fun t192 => (if t192 = true then (tabularylaw09_PaxBack.j0 k l b cut) else (some false))) (fun k => ?_) (Ev.bind (pairs_same l hl) (Ev.congr (fun k => by rw [if_pos rfl]) (back_j0 l b cut hl hb hbl)))
      rw [if_pos h, h3, get_f (show (cat l).length ≤ _ by omega), getOf_made h1 h2]
      rfl
    · exact Ev.congr (fun k => by rw [if_neg h]) (back_j0 l b cut hl hb hbl)
end Go.Proofs.YtkkffccdkbijkaaDoor.H
