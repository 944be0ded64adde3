/- PaxLengths in plain Lean: a record says its own length, and it is the least that could be. -/
import Derived.Test.YtkkffccdkbijkaaDoorIx3
namespace Go.Proofs.YtkkffccdkbijkaaDoor.H
open Go.RowKit Go.Lib Go.Proofs.YtkkffccdkbijkaaDoor.I Go.Proofs.YtkkffccdkbijkaaDoorW.PrintWords Go.Proofs.YtkkffccdkbijkaaDoorW.PrintLast Go.Proofs.YtkkffccdkbijkaaDoorW.PrintMore
set_option linter.unusedVariables false
set_option linter.unusedSimpArgs false

theorem ten17 : (10 : Nat) ^ 17 = 100000000000000000 := by decide
/-- How many digits a number has; none where it is 0. -/
def digCount (n : Nat) : Nat := if n = 0 then 0 else Lib.nDigits n
theorem digCount_step {n : Nat} (h : n ≠ 0) : digCount n = digCount (n / 10) + 1 := by
  unfold digCount
  rw [if_neg h]
  by_cases h10 : n < 10
  · rw [Lib.nDigits_small h10, if_pos (by omega)]
  · rw [Lib.nDigits_big h10, if_neg (by omega)]
theorem said_l0 : ∀ (f n d : Nat), n ≤ f → n < 10 ^ 18 → d + n ≤ 10 ^ 18 → Ev (fun k => tabularylaw09_said.l0 k (n : Int) (d : Int)) ((digCount n + d : Nat) : Int) := by
  have h18 : (10 : Nat) ^ 18 = 1000000000000000000 := by decide
  intro f
  induction f with
  | zero =>
    intro n d hf hn hd
    obtain rfl : n = 0 := by omega
    exact ev_cast (by simp [digCount]) (Ev.step (g := fun k => tabularylaw09_said.l0 k ((0 : Nat) : Int) (d : Int)) (f := fun _ => some (d : Int)) (fun k => by simp only [tabularylaw09_said.l0]; rw [if_neg (by omega)]) (Ev.now _))
  | succ f ih =>
    intro n d hf hn hd
    by_cases h0 : n = 0
    · subst h0
      exact ev_cast (by simp [digCount]) (Ev.step (g := fun k => tabularylaw09_said.l0 k ((0 : Nat) : Int) (d : Int)) (f := fun _ => some (d : Int)) (fun k => by simp only [tabularylaw09_said.l0]; rw [if_neg (by omega)]) (Ev.now _))
    · have e1 : wrap64 (Int.tdiv (n : Int) 10) = ((n / 10 : Nat) : Int) := by
        rw [Int.tdiv_eq_ediv_of_nonneg (by omega), wrap_in (by omega) (by omega)]; omega
      have e2 : wrap64 ((d : Int) + 1) = ((d + 1 : Nat) : Int) := by rw [wrap_in (by omega) (by omega)]; rfl
      refine ev_cast ?_ (Ev.step (g := fun k => tabularylaw09_said.l0 k (n : Int) (d : Int)) (f := fun k => tabularylaw09_said.l0 k ((n / 10 : Nat) : Int) ((d + 1 : Nat) : Int)) (fun k => by simp only [tabularylaw09_said.l0]; rw [if_pos (by omega), e1, e2]) (ih (n / 10) (d + 1) (by omega) (by omega) (by omega)))
      rw [digCount_step h0]
      omega
theorem said_f (n : Nat) (h1 : 1 ≤ n) (h : n < 10 ^ 18) : Ev (fun k => tabularylaw09_said.f k (n : Int)) (Lib.nDigits n : Int) := by
  refine ev_cast ?_ (Ev.congr (fun k => by unfold tabularylaw09_said.f; rfl) (said_l0 n n 0 (Nat.le_refl _) h (by omega)))
  unfold digCount
  rw [if_neg (by omega)]
  rfl

/-- Numbers that do not yet say themselves. -/
theorem dig_more {k v : ByteArray} (h : restOf k v < 10 ^ 17) : ∀ e, 1 ≤ e → e ≤ recDig k v → e ≤ Lib.nDigits (restOf k v + e) := by
  have hs := (recDig_spec k v h).2.2.2
  intro e
  induction e with
  | zero => intro h1; omega
  | succ e ih =>
    intro h1 h2
    by_cases h0 : e = 0
    · subst h0; exact nDig_pos _
    · have a := ih (by omega) (by omega)
      have b := hs e (by omega) (by omega)
      have c := nDig_mono (show restOf k v + e ≤ restOf k v + (e + 1) by omega)
      omega
theorem nDig_succ (m : Nat) : Lib.nDigits (m + 1) ≤ Lib.nDigits m + 1 ∧ (Lib.nDigits (m + 1) = Lib.nDigits m + 1 → Lib.nDigits (m + 2) = Lib.nDigits m + 1) := by
  have h := Lib.lt_pow_nDigits m
  have hp := nDig_pos m
  have h10 : 10 ^ (Lib.nDigits m + 1) = 10 * 10 ^ Lib.nDigits m := by rw [Nat.pow_succ, Nat.mul_comm]
  have h1 := nDig_le (Lib.nDigits m + 1) (m + 1) (by omega)
  have h2 := nDig_le (Lib.nDigits m + 1) (m + 2) (by
    have : 10 ^ 1 ≤ 10 ^ Lib.nDigits m := Nat.pow_le_pow_right (by decide) hp
    omega)
  have h3 := nDig_mono (show m + 1 ≤ m + 2 by omega)
  omega
/-- A byte more. -/
theorem rec_more {k v v' : ByteArray} (h : restOf k v < 10 ^ 17 - 1) (hv : v'.size = v.size + 1) : recSize k v < recSize k v' ∧ recSize k v' ≤ recSize k v + 2 := by
  have h17 := ten17
  have hr : restOf k v' = restOf k v + 1 := by unfold restOf; omega
  obtain ⟨a1, a2, a3, a4⟩ := recDig_spec k v (by omega)
  obtain ⟨b1, b2, b3, b4⟩ := recDig_spec k v' (by omega)
  have dm := dig_more (k := k) (v := v) (by omega)
  unfold recSize at a1 b1 ⊢
  rw [hr] at b1 b4 ⊢
  generalize restOf k v = R at *
  generalize recDig k v = D at *
  generalize recDig k v' = D' at *
  have hge : D ≤ D' := by
    rcases Nat.lt_or_ge D' D with hlt | hge
    · have c1 := dm D' b2 (by omega)
      have c2 := a4 D' b2 hlt
      have c3 := nDig_mono (show R + D' ≤ R + 1 + D' by omega)
      omega
    · exact hge
  have hle : D' ≤ D + 1 := by
    rcases Nat.lt_or_ge (D + 1) D' with hlt | hge
    · have s := nDig_succ (R + D)
      have c1 := b4 D a2 (by omega)
      have c2 := b4 (D + 1) (by omega) hlt
      have e1 : R + 1 + D = R + D + 1 := by omega
      have e2 : R + 1 + (D + 1) = R + D + 2 := by omega
      rw [e1] at c1
      rw [e2] at c2
      have s3 := nDig_mono (show R + D ≤ R + D + 1 by omega)
      omega
    · exact hge
  omega

theorem len_l0 (k v : ByteArray) (more : Int) (R D N : Nat) (hN : N = R + D) (h1 : 1 ≤ D) (h19 : D ≤ 19) (hR : R ≤ 300000000000000) (hne : ∀ e, 1 ≤ e → e < D → Lib.nDigits (R + e) ≠ e)
    (M : Nat) (hsz : Ev (fun n => pax_Size.f n k (v ++ strOfNums [more])) (M : Int)) (hM1 : N < M) (hM2 : M ≤ N + 2) (x : List Int × Int) (hrec : Ev (fun n => pax_Record.f n k v) x) (hx : x.2 = 0 → x.1.length = N)
    (hvs : v.size + (strOfNums [more]).size ≤ 9223372036854775807) (f : Nat) : ∀ e, 1 ≤ e → e ≤ D → D - e = f →
    Ev (fun n => tabularylaw09_PaxLengths.l0 n more (N : Int) (R : Int) ((R + e : Nat) : Int) k v) true := by
  induction f with
  | zero =>
    intro e h1 h2 hf
    obtain rfl : e = D := by omega
    refine Ev.step (f := fun n => (pax_Size.f n k (v ++ (strOfNums [more]))).bind fun t150 => ((pax_Record.f n k v).bind fun bt151 => (if t150 > (N : Int) then (if t150 ≤ (wrap64 ((N : Int) + 2)) then (if bt151.2 = 0 then (some ((bt151.1.length : Int) == (N : Int))) else (some true)) else (some false)) else (some false)))) (fun n => ?_) ?_
    · simp only [tabularylaw09_PaxLengths.l0, Option.bind_some]
      rw [if_neg (by omega), if_pos hvs]
    · refine Ev.bind hsz (Ev.bind hrec ?_)
      have hw : wrap64 ((N : Int) + 2) = (N : Int) + 2 := wrap_in (by omega) (by omega)
      refine Ev.congr (fun n => ?_) (Ev.now true)
      rw [if_pos (by omega), hw, if_pos (by omega)]
      by_cases h0 : x.2 = 0
      · rw [if_pos h0, hx h0]
        simp
      · rw [if_neg h0]
  | succ f ih =>
    intro e h1 h2 hf
    have hne' := hne e h1 (by omega)
    have hw : wrap64 (((R + e : Nat) : Int) + 1) = ((R + (e + 1) : Nat) : Int) := by rw [wrap_in (by omega) (by omega)]; omega
    have h17 := ten17
    have hdl := nDig_le 17 (R + e) (by omega)
    have hs := said_f (R + e) (by omega) (by have h18 : (10 : Nat) ^ 18 = 1000000000000000000 := by decide
                                             omega)
    generalize Lib.nDigits (R + e) = q at hne' hdl hs
    refine Ev.step (f := fun n => (tabularylaw09_said.f n ((R + e : Nat) : Int)).bind fun t146 => (if ((R + e : Nat) : Int) = (wrap64 ((R : Int) + t146)) then (some false) else (tabularylaw09_PaxLengths.l0 n more (N : Int) (R : Int) (wrap64 (((R + e : Nat) : Int) + 1)) k v))) (fun n => ?_) ?_
    · simp only [tabularylaw09_PaxLengths.l0]
      rw [if_pos (by omega)]
    · refine Ev.bind hs ?_
      refine Ev.congr (fun n => ?_) (ih (e + 1) (by omega) (by omega) (by omega))
      rw [wrap_in (x := (R : Int) + (q : Int)) (by omega) (by omega), if_neg (by omega), hw]

theorem wr_len1 (R D N : Nat) (hN : N = R + D) (hR : R ≤ 300000000000000) (hD : D ≤ 19) : wrap64 ((R : Int) + (D : Int)) = (N : Int) := by rw [wrap_in (by omega) (by omega)]; omega
theorem wr_len2 (R : Nat) (hR : R ≤ 300000000000000) : wrap64 ((R : Int) + 1) = ((R + 1 : Nat) : Int) := by rw [wrap_in (by omega) (by omega)]; rfl
/-- PaxLengths. -/
theorem lengths_true (k v : ByteArray) (more : Int) (hk : k.size ≤ 140737488351232) (hv : v.size ≤ 140737488351232) : ∃ n, tabularylaw09_PaxLengths.f n k v more = some true := by
  have h17 := ten17
  have hs : (strOfNums [more]).size = 1 := by rw [strOfNums_size]; rfl
  have hvs : (v ++ strOfNums [more]).size = v.size + 1 := by rw [ByteArray.size_append, hs]
  have hr : restOf k v = 3 + k.size + v.size := rfl
  have hr2 : restOf k (v ++ strOfNums [more]) = 3 + k.size + (v.size + 1) := by unfold restOf; rw [hvs]
  have hb : restOf k v < 10 ^ 17 - 1 := by rw [hr, h17]; omega
  have hlt : restOf k v < 10 ^ 17 := by rw [hr, h17]; omega
  have e0 : wrap64 ((wrap64 (3 + (k.size : Int))) + (v.size : Int)) = (restOf k v : Int) := by rw [wrap_in (x := 3 + (k.size : Int)) (by omega) (by omega), wrap_in (by omega) (by omega), hr]; omega
  have hm := rec_more (k := k) (v := v) (v' := v ++ strOfNums [more]) hb hvs
  have hs1 := size_f k v hlt
  have hs2 := size_f k (v ++ strOfNums [more]) (by rw [hr2, h17]; omega)
  have hre := record_f k v
  have hx : (recErr k v).2 = 0 → (recErr k v).1.length = recSize k v := by
    unfold recErr
    split
    · intro _; exact recOf_len k v hlt
    · rename_i hh; intro h; exact absurd h hh
  have hN : recSize k v = restOf k v + recDig k v := rfl
  obtain ⟨a1, a2, a3, a4⟩ := recDig_spec k v hlt
  generalize restOf k v = R at hr hb hN a4 e0
  generalize recDig k v = D at a1 a2 a3 a4 hN
  generalize recSize k (v ++ strOfNums [more]) = M at hm hs2
  generalize recErr k v = x at hre hx
  generalize recSize k v = N at hm hs1 hx hN a1
  have hl := len_l0 k v more R D N hN a2 a3 (by omega) a4 M hs2 hm.1 hm.2 x hre hx (by omega) (D - 1) 1 (Nat.le_refl _) a2 rfl
  have hR3 : R ≤ 300000000000000 := by omega
  have hsd := said_f N (by omega) (by have h18 : (10 : Nat) ^ 18 = 1000000000000000000 := by decide
                                      omega)
  rw [a1] at hsd
  refine Ev.rounds (g := fun n => tabularylaw09_PaxLengths.f n k v more) ?_
  refine Ev.congr (f := fun n => (pax_Size.f n k v).bind fun t144 => ((tabularylaw09_said.f n t144).bind fun t145 => (if t144 = (wrap64 ((R : Int) + t145)) then (tabularylaw09_PaxLengths.l0 n more t144 (R : Int) (wrap64 ((R : Int) + 1)) k v) else (some false)))) (fun n => ?_) ?_
  · unfold tabularylaw09_PaxLengths.f tabularylaw09_awake.f
    rw [e0]
    rfl
  · refine Ev.bind hs1 (Ev.bind hsd ?_)
    refine Ev.congr (fun n => ?_) hl
    rw [if_pos (wr_len1 R D N hN hR3 a3).symm, wr_len2 R hR3]
end Go.Proofs.YtkkffccdkbijkaaDoor.H
