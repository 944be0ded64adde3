/- lent and kept: a list in memory of its own, a mark behind it. -/
import Derived.Test.YtkkffccdkbijkaaDoorHAwake
import Derived.Test.YtkkffccdkbijkaaDoorHGet
import Derived.Outline
import Derived.IntWalk
namespace Go.Proofs.YtkkffccdkbijkaaDoor.H
open Go.RowKit Go.Proofs.YtkkffccdkbijkaaDoor.I Go.Proofs.YtkkffccdkbijkaaDoorW.PrintWords Go.Proofs.YtkkffccdkbijkaaDoorW.PrintLast Go.Proofs.YtkkffccdkbijkaaDoorW.PrintMore
set_option linter.unusedVariables false
set_option linter.unusedSimpArgs false
def markS : Pr := ⟨⟨#[109, 97, 114, 107]⟩, ⟨#[]⟩⟩
theorem R_pr_nil (w : World) : Kd.R k32 32 w w.heap.size (fun k => w.heap.size ≤ k) (.slice none 0 0) [] := Kd.R_nil _ _ _ _ _
set_option maxRecDepth 100000 in
theorem lent_calls (A : Option Addr) (c : Nat) (l : List Pr) (w : World) (C : Kd.C k32 w A l.length l) (n : l.length ≤ c) (s : l.length * 32 ≤ 140737488351232) :
    Calls Tryd.prog 9 #[.slice A l.length c] w fun e w' => ∃ A' c', e = .returned (.slice A' l.length c') ∧ l.length + 1 ≤ c' ∧ Kd.C k32 w' A' (l ++ [markS]).length (l ++ [markS]) ∧ Below w.heap.size w w' := by
  have HC := Lib.hid C
  have HS := Lib.hid s
  clear C s
  go_enter Tryd.func9, Tryd.ntmps9
  go_wp2_with (first | (at_builtin; refine Kd.R_append_rows k32 (Rr := k32.K w) (w0 := w) w.heap.size rfl (.tmp 4) (.tmp 5) 22 32 _ 32 rfl Tryd.underlying22 info_pr rfl (by decide) (by decide) (.slice none 0 0) [] l A l.length c (fun k => w.heap.size ≤ k) (fun _ => False) rfl rfl (R_pr_nil w) HC.out (fun x cs h => by rw [k32_open h]; exact k32_mkM _ _ _ x) (fun _ h => h.elim) (fun k hk => hk) (Below.refl _ _) (Nat.le_refl _) (by have := HS.out; simp only [List.length_nil, Nat.zero_add]; omega) ?_; intro v1 w1 hR1 hB1 hg1 hat1; clear hg1 hat1; rw [List.nil_append] at hR1; obtain ⟨A1, c1, rfl⟩ := Kd.R_slice hR1; have HR1 := Lib.hid hR1; have HB1 := Lib.hid hB1; clear hR1 hB1) | (at_builtin; refine Kd.R_append k32 (w0 := w) w.heap.size rfl (.tmp 7) (.tmp 9) 22 32 _ 32 rfl Tryd.underlying22 info_pr rfl (by decide) (by decide) (.slice A1 l.length c1) l markS [.string ⟨#[109, 97, 114, 107]⟩, .string ⟨#[]⟩] (fun k => w.heap.size ≤ k) (fun _ => False) rfl rfl (k32_mkM _ _ _ markS) (fun _ h => h.elim) (fun k hk => Nat.le_trans HB1.out.size hk) HR1.out HB1.out HB1.out.size (by have := HS.out; omega) ?_; intro v2 w2 hR2 hB2 hg2 hat2; clear hg2 hat2; obtain ⟨A2, c2, rfl⟩ := Kd.R_slice hR2; obtain ⟨-, hc2, hC2⟩ := Kd.R_reads' hR2; rw [List.length_append, List.length_singleton] at hc2 ⊢; have HC2 := Lib.hid hC2; have HB2 := Lib.hid hB2; clear hR2 hB2 hC2; have hd1 : l.length ≤ c2 := by omega))
  go_ret
  exact ⟨A2, c2, rfl, hc2, HC2.out, HB2.out⟩
set_option maxRecDepth 100000 in
theorem kept_calls (A' : Option Addr) (c' : Nat) (A : Option Addr) (c : Nat) (l : List Pr) (w : World) (C' : Kd.C k32 w A' (l ++ [markS]).length (l ++ [markS])) (n' : l.length + 1 ≤ c') (C : Kd.C k32 w A l.length l) (n : l.length ≤ c) (s : l.length * 32 ≤ 140737488351232) :
    Calls Tryd.prog 13 #[.slice A' l.length c', .slice A l.length c] w fun e w' => e = .returned (.bool true) ∧ Below w.heap.size w w' := by
  obtain ⟨kp, hkp⟩ := Ev.rounds (pairs_same l (by omega))
  have HKP := Lib.hid hkp
  have HC := Lib.hid C
  have HT := Lib.hid (Kd.C_take C' (m := l.length) (by rw [List.length_append]; omega))
  obtain ⟨ad, hAd, hca, hcb⟩ := at_T32 C' (l.length : Int) (by omega) (by rw [List.length_append, List.length_singleton]; omega)
  rw [rd_at (l ++ [markS]) l.length (by rw [List.length_append, List.length_singleton]; omega), List.getElem_concat_length rfl, Int.toNat_natCast] at hca hcb
  rw [List.take_left] at HT
  have hu := Tryd.underlying32
  subst hAd
  replace hca : w.cell? (ad.add (l.length * 2)) = some (.string ⟨#[109, 97, 114, 107]⟩) := hca
  replace hcb : w.cell? { block := (ad.add (l.length * 2)).block, off := (ad.add (l.length * 2)).off + 1 } = some (.string ⟨#[]⟩) := hcb
  have HCA := Lib.hid hca
  have HCB := Lib.hid hcb
  have hw1 : IntKind.i64.wrap ((l.length : Int) + 1) = ((l.length + 1 : Nat) : Int) := by rw [IntWalk.i64_in _ ⟨by omega, by omega⟩]; rfl
  clear C C' hkp hca hcb s
  go_enter Tryd.func13, Tryd.ntmps13
  go_wp2_with (first | (go_at_call 12; refine (I.tabularylaw09_pairs.calls kp _ c' l A c l true _ HT.out (by omega) HC.out n HKP.out).mono ?_; rintro e w1 ⟨rfl, hd1⟩; have hca1 := (hd1.below.cell (World.block_lt_of_cell? _ _ HCA.out)).trans HCA.out; have hcb1 := (hd1.below.cell (World.block_lt_of_cell? _ _ HCB.out)).trans HCB.out))
  go_ret
  exact ⟨rfl, hd1.below⟩
end Go.Proofs.YtkkffccdkbijkaaDoor.H
