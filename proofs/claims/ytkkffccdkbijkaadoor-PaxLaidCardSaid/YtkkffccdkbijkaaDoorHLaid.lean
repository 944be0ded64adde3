/- PaxLaid in plain Lean: nothing laid over a list is that list; of three it makes no difference which two are laid first; each key has its last value. -/
import Derived.Test.YtkkffccdkbijkaaDoorIx5
import Derived.Test.YtkkffccdkbijkaaDoorHOver
import Derived.Test.YtkkffccdkbijkaaDoorHFind
import Derived.Test.YtkkffccdkbijkaaDoorHAwakeP
namespace Go.Proofs.YtkkffccdkbijkaaDoor.H
open Go.RowKit Go.Proofs.YtkkffccdkbijkaaDoor.I Go.Proofs.YtkkffccdkbijkaaDoorW.PrintWords Go.Proofs.YtkkffccdkbijkaaDoorW.PrintLast Go.Proofs.YtkkffccdkbijkaaDoorW.PrintMore
set_option linter.unusedVariables false
set_option linter.unusedSimpArgs false

theorem asc_ext : ∀ {l m : List Pr}, Asc l → Asc m → (∀ p, p ∈ l ↔ p ∈ m) → l = m
  | [], [], _, _, _ => rfl
  | [], y :: m, _, _, h => by have := (h y).2 (by simp); cases this
  | x :: l, [], _, _, h => by have := (h x).1 (by simp); cases this
  | x :: l, y :: m, hl, hm, h => by
    obtain ⟨lx, hl'⟩ := List.pairwise_cons.1 hl
    obtain ⟨my, hm'⟩ := List.pairwise_cons.1 hm
    have hxy : x = y := by
      rcases List.mem_cons.1 ((h x).1 (by simp)) with h1 | h1
      · exact h1
      · rcases List.mem_cons.1 ((h y).2 (by simp)) with h2 | h2
        · exact h2.symm
        · exact absurd (List.lt_trans (lx y h2) (my x h1)) (List.lt_irrefl _)
    subst hxy
    rw [asc_ext hl' hm' fun p => ?_]
    constructor
    · intro hp
      rcases List.mem_cons.1 ((h p).1 (by simp [hp])) with h1 | h1
      · subst h1; exact absurd (lx p hp) (List.lt_irrefl _)
      · exact h1
    · intro hp
      rcases List.mem_cons.1 ((h p).2 (by simp [hp])) with h1 | h1
      · subst h1; exact absurd (my p hp) (List.lt_irrefl _)
      · exact h1
theorem good_of : ∀ {l : List Pr} {q : Option ByteArray}, (∀ p ∈ l, fitsErr p.f0 p.f1 = 0) → Asc l → (∀ u ∈ q, ∀ p ∈ l, u.data.toList < key p) → Good q l
  | [], _, _, _, _ => trivial
  | x :: l, q, hf, ha, hq => by
    obtain ⟨lx, hl'⟩ := List.pairwise_cons.1 ha
    refine ⟨hf x (by simp), ?_, good_of (fun p hp => hf p (by simp [hp])) hl' (fun u hu p hp => by obtain rfl : x.f0 = u := by simpa using hu
                                                                                                   exact lx p hp)⟩
    rintro ⟨u, hu, he⟩
    have := hq u hu x (by simp)
    rw [bytesLess_eq, Lib.toList_data, Lib.toList_data] at he
    simp [key] at this
    simp [this] at he
theorem merge_fits {l m : List Pr} (hl : Good none l) (hm : Good none m) : ∀ p ∈ merge l m, fitsErr p.f0 p.f1 = 0 := by
  intro p hp
  rcases (merge_mem _ l m (Nat.le_refl _) (good_asc hl).1 (good_asc hm).1 p).1 hp with h | ⟨h, _⟩
  · exact good_fits hm p h
  · exact good_fits hl p h
theorem merge_good {l m : List Pr} (hl : Good none l) (hm : Good none m) : Good none (merge l m) :=
  good_of (merge_fits hl hm) (merge_asc _ l m (Nat.le_refl _) (good_asc hl).1 (good_asc hm).1) (fun u hu => by cases hu)
theorem merge_assoc {l m n : List Pr} (hl : Asc l) (hm : Asc m) (hn : Asc n) : merge (merge l m) n = merge l (merge m n) := by
  have hlm := merge_asc _ l m (Nat.le_refl _) hl hm
  have hmn := merge_asc _ m n (Nat.le_refl _) hm hn
  refine asc_ext (merge_asc _ _ n (Nat.le_refl _) hlm hn) (merge_asc _ l _ (Nat.le_refl _) hl hmn) fun p => ?_
  rw [merge_mem _ _ n (Nat.le_refl _) hlm hn, merge_mem _ l _ (Nat.le_refl _) hl hmn, merge_mem _ l m (Nat.le_refl _) hl hm, merge_mem _ m n (Nat.le_refl _) hm hn]
  constructor
  · rintro (h | ⟨h | ⟨h, h2⟩, h3⟩)
    · exact .inl (.inl h)
    · exact .inl (.inr ⟨h, h3⟩)
    · refine .inr ⟨h, fun q hq => ?_⟩
      rcases (merge_mem _ m n (Nat.le_refl _) hm hn q).1 hq with h4 | ⟨h4, _⟩
      · exact h3 q h4
      · exact h2 q h4
  · rintro ((h | ⟨h, h2⟩) | ⟨h, h2⟩)
    · exact .inl h
    · exact .inr ⟨.inl h, h2⟩
    · have h3 : ∀ q ∈ n, key q ≠ key p := fun q hq => h2 q ((merge_mem _ m n (Nat.le_refl _) hm hn q).2 (.inl hq))
      refine .inr ⟨.inr ⟨h, fun q hq he => ?_⟩, h3⟩
      exact h2 q ((merge_mem _ m n (Nat.le_refl _) hm hn q).2 (.inr ⟨hq, fun x hx e2 => h3 x hx (e2.trans he)⟩)) he

/-! ### what Over tells -/
theorem put_nil : putOf [] = ([], 0, 0) := rfl
theorem put_len {l : List Pr} (h : (putOf l).2.2 = 0) : l.length ≤ 64 ∧ Good none l := ok_good (b := (putOf l).1) (q := (putOf l).2.1) (e := (putOf l).2.2) rfl h
theorem put_of {l : List Pr} (hl : l.length ≤ 64) (h : Good none l) : (putOf l).2.2 = 0 := by
  unfold putOf
  rw [if_neg (by omega), putL_good _ _ _ _ h]
theorem over_nil (l : List Pr) : overOf l [] = if (putOf l).2.2 = 0 then (l, 0) else ([], (putOf l).2.2) := by
  unfold overOf
  by_cases h : (putOf l).2.2 = 0
  · have := (put_len h).1
    rw [if_neg (by simpa using h), if_neg (by simp [put_nil]), merge_nil', if_neg (by omega), if_pos h]
  · rw [if_pos h, if_neg h]
theorem nil_over (l : List Pr) : overOf [] l = if (putOf l).2.2 = 0 then (l, 0) else ([], (putOf l).2.2) := by
  unfold overOf
  rw [if_neg (by simp [put_nil])]
  by_cases h : (putOf l).2.2 = 0
  · have := (put_len h).1
    rw [if_neg (by simpa using h), merge_nil, if_neg (by omega), if_pos h]
  · rw [if_pos h, if_neg h]
/-- Well, or empty. -/
theorem over_cases (l m : List Pr) : ((overOf l m).2 = 0 ∧ Good none l ∧ Good none m ∧ overOf l m = (merge l m, 0) ∧ (merge l m).length ≤ 64 ∧ (putOf l).2.2 = 0 ∧ (putOf m).2.2 = 0) ∨ ((overOf l m).2 ≠ 0 ∧ (overOf l m).1 = []) := by
  unfold overOf
  by_cases h0 : (putOf l).2.2 = 0
  · rw [if_neg (by simpa using h0)]
    by_cases h1 : (putOf m).2.2 = 0
    · rw [if_neg (by simpa using h1)]
      by_cases h2 : 64 < (merge l m).length
      · rw [if_pos h2]; exact .inr ⟨(show (3 : Int) ≠ 0 by decide), rfl⟩
      · rw [if_neg h2]; exact .inl ⟨rfl, (put_len h0).2, (put_len h1).2, rfl, by omega, h0, h1⟩
    · rw [if_pos h1]; exact .inr ⟨h1, rfl⟩
  · rw [if_pos h0]; exact .inr ⟨h0, rfl⟩
/-! ### what Find tells -/
theorem find_some : ∀ {l : List Pr}, Asc l → ∀ {p : Pr}, p ∈ l → ∀ {s : ByteArray}, p.f0.toList = s.toList → findOf l s = (p.f1, 0)
  | [], _, p, hp, _, _ => by cases hp
  | x :: l, h, p, hp, s, hs => by
    obtain ⟨lx, hl⟩ := List.pairwise_cons.1 h
    rw [findOf]
    rcases List.mem_cons.1 hp with rfl | hp
    · rw [if_pos hs]
    · have hne : ¬ x.f0.toList = s.toList := by
        intro e
        have := lx p hp
        unfold key at this
        rw [← Lib.toList_data, ← Lib.toList_data, e, hs] at this
        exact List.lt_irrefl _ this
      rw [if_neg hne, find_some hl hp hs]
theorem find_none : ∀ {l : List Pr} {s : ByteArray}, (∀ p ∈ l, p.f0.toList ≠ s.toList) → findOf l s = (⟨#[]⟩, 4)
  | [], _, _ => rfl
  | x :: l, s, h => by rw [findOf, if_neg (h x (by simp)), find_none fun p hp => h p (by simp [hp])]
theorem over_three {l m n : List Pr} (hl : Good none l) (hm : Good none m) (hlm : (merge l m).length ≤ 64) (hmn : (merge m n).length ≤ 64) (hn : Good none n) (hlp : (putOf l).2.2 = 0) (hnp : (putOf n).2.2 = 0) : overOf (merge l m) n = overOf l (merge m n) := by
  have a0 := (good_asc hl).1
  have a1 := (good_asc hm).1
  have a2 := (good_asc hn).1
  have p0 := put_of hlm (merge_good hl hm)
  have p1 := put_of hmn (merge_good hm hn)
  unfold overOf
  rw [if_neg (by simpa using p0), merge_assoc a0 a1 a2]
  rw [if_neg (show ¬ (putOf n).2.2 ≠ 0 by simpa using hnp), if_neg (show ¬ (putOf l).2.2 ≠ 0 by simpa using hlp), if_neg (show ¬ (putOf (merge m n)).2.2 ≠ 0 by simpa using p1)]
theorem find_merge {l m : List Pr} (hl : Asc l) (hm : Asc m) (s : ByteArray) : ((findOf m s).2 = 0 ∧ findOf (merge l m) s = findOf m s) ∨ ((findOf m s).2 ≠ 0 ∧ findOf (merge l m) s = findOf l s) := by
  have ha := merge_asc _ l m (Nat.le_refl _) hl hm
  have hk : ∀ p : Pr, p.f0.toList = s.toList ↔ key p = s.data.toList := fun p => by unfold key; rw [Lib.toList_data, Lib.toList_data]
  by_cases h : ∃ p ∈ m, p.f0.toList = s.toList
  · obtain ⟨p, hp, e⟩ := h
    left
    rw [find_some hm hp e, find_some ha ((merge_mem _ l m (Nat.le_refl _) hl hm p).2 (.inl hp)) e]
    exact ⟨rfl, rfl⟩
  · right
    have hn : ∀ p ∈ m, p.f0.toList ≠ s.toList := fun p hp e => h ⟨p, hp, e⟩
    rw [find_none hn]
    refine ⟨(show (4 : Int) ≠ 0 by decide), ?_⟩
    by_cases h2 : ∃ p ∈ l, p.f0.toList = s.toList
    · obtain ⟨p, hp, e⟩ := h2
      rw [find_some hl hp e, find_some ha ((merge_mem _ l m (Nat.le_refl _) hl hm p).2 (.inr ⟨hp, fun q hq e2 => hn q hq ((hk q).2 (e2.trans ((hk p).1 e)))⟩)) e]
    · have hn2 : ∀ p ∈ l, p.f0.toList ≠ s.toList := fun p hp e => h2 ⟨p, hp, e⟩
      rw [find_none hn2, find_none]
      intro p hp
      rcases (merge_mem _ l m (Nat.le_refl _) hl hm p).1 hp with h3 | ⟨h3, _⟩
      · exact hn p h3
      · exact hn2 p h3

theorem laid_j2 (l m : List Pr) (s : ByteArray) (hl : Asc l) (hm : Asc m) : Ev (fun k => tabularylaw09_PaxLaid.j2 k l m s (merge l m) false) true := by
  refine Ev.step (f := fun _ => some true) (fun k => ?_) (Ev.now _)
  simp only [tabularylaw09_PaxLaid.j2]
  rw [if_neg (by simp)]
  unfold pax_Find.f
  simp only [Option.bind_some]
  rcases find_merge hl hm s with ⟨h1, h2⟩ | ⟨h1, h2⟩
  · rw [if_pos h1, h2, if_pos rfl]
    simp
  · rw [if_neg h1, h2, if_pos rfl]
    simp
theorem laid_j0 (l m n : List Pr) (s : ByteArray) : Ev (fun k => tabularylaw09_PaxLaid.j0 k l m n s false) true := by
  refine Ev.step (f := fun k => if (overOf l m).2 = 0 then (tabularylaw09_PaxLaid.j1 k l m n s (overOf l m).2 (overOf m n).2 (overOf l m).1 (overOf m n).1 ((overOf m n).2 != 0)) else (tabularylaw09_PaxLaid.j1 k l m n s (overOf l m).2 (overOf m n).2 (overOf l m).1 (overOf m n).1 true)) (fun k => ?_) ?_
  · simp only [tabularylaw09_PaxLaid.j0]
    rw [if_neg (by simp)]
    rfl
  rcases over_cases l m with ⟨a1, a2, a3, a4, a5, a6, a7⟩ | ⟨a1, a2⟩
  · rcases over_cases m n with ⟨b1, b2, b3, b4, b5, b6, b7⟩ | ⟨b1, b2⟩
    · refine Ev.congr (f := fun k => tabularylaw09_PaxLaid.j1 k l m n s 0 0 (merge l m) (merge m n) false) (fun k => by rw [if_pos a1, a4, b4]; rfl) ?_
      have h3 := over_three a2 a3 a5 b5 b3 a6 b7
      have hx : (overOf (merge l m) n).1.length ≤ 64 := by
        rcases over_cases (merge l m) n with ⟨_, _, _, c4, c5, _⟩ | ⟨_, c2⟩
        · rw [c4]; exact c5
        · rw [c2]; decide
      refine Ev.step (f := fun k => (tabularylaw09_pairs.f k (overOf (merge l m) n).1 (overOf (merge l m) n).1).bind fun t226 => (tabularylaw09_PaxLaid.j2 k l m s (merge l m) (!t226))) (fun k => ?_) ?_
      · simp only [tabularylaw09_PaxLaid.j1]
        rw [if_neg (by simp)]
        unfold pax_Over.f
        simp only [Option.bind_some]
        rw [← h3, if_pos rfl]
      · exact Ev.bind (pairs_same _ (by omega)) (laid_j2 l m s (good_asc a2).1 (good_asc a3).1)
    · refine Ev.congr (f := fun k => tabularylaw09_PaxLaid.j1 k l m n s (overOf l m).2 (overOf m n).2 (overOf l m).1 (overOf m n).1 true) (fun k => by rw [if_pos a1]; congr 1; simpa using b1) ?_
      refine Ev.step (f := fun _ => some true) (fun k => ?_) (Ev.now _)
      simp only [tabularylaw09_PaxLaid.j1]
      rw [if_pos trivial, if_pos a1, if_neg b1, b2]
      rfl
  · refine Ev.congr (f := fun k => tabularylaw09_PaxLaid.j1 k l m n s (overOf l m).2 (overOf m n).2 (overOf l m).1 (overOf m n).1 true) (fun k => by rw [if_neg a1]) ?_
    refine Ev.step (f := fun _ => some true) (fun k => ?_) (Ev.now _)
    simp only [tabularylaw09_PaxLaid.j1]
    rw [if_pos trivial, if_neg a1, a2, if_pos (show ((([] : List Pr).length : Nat) : Int) = 0 from rfl)]
    rcases over_cases m n with ⟨b1, _⟩ | ⟨b1, b2⟩
    · rw [if_pos b1]
    · rw [if_neg b1, b2]; rfl

/-- PaxLaid. -/
theorem laid_true (l m n : List Pr) (s : ByteArray) (hl : l.length ≤ 140737488355328) (hm : m.length ≤ 140737488355328) (hn : n.length ≤ 140737488355328) : ∃ k, tabularylaw09_PaxLaid.f k l m n s = some true := by
  refine Ev.rounds (g := fun k => tabularylaw09_PaxLaid.f k l m n s) ?_
  have h0 := over_nil l
  have h1 := nil_over l
  by_cases h : (putOf l).2.2 = 0
  · rw [if_pos h] at h0 h1
    refine Ev.congr (f := fun k => (pax_Put.f k l).bind fun bt203 => (if 0 = bt203.2.2 then (if 0 = bt203.2.2 then (if bt203.2.2 = 0 then ((tabularylaw09_pairs.f k l l).bind fun t208 => (if t208 = true then ((tabularylaw09_pairs.f k l l).bind fun t209 => (tabularylaw09_PaxLaid.j0 k l m n s (!t209))) else (tabularylaw09_PaxLaid.j0 k l m n s true))) else (tabularylaw09_PaxLaid.j0 k l m n s false)) else (tabularylaw09_PaxLaid.j0 k l m n s true)) else (tabularylaw09_PaxLaid.j0 k l m n s true))) (fun k => ?_) ?_
    · unfold tabularylaw09_PaxLaid.f tabularylaw09_awake.f pax_Over.f
      simp only [Option.bind_some, h0, h1, if_true]
    · refine Ev.bind (put_f l) ?_
      refine Ev.congr (fun k => by rw [if_pos h.symm, if_pos h.symm, if_pos h]) (Ev.bind (pairs_same l hl) (Ev.congr (fun k => by rw [if_pos rfl]) (Ev.bind (pairs_same l hl) (laid_j0 l m n s))))
  · rw [if_neg h] at h0 h1
    refine Ev.congr (f := fun k => (pax_Put.f k l).bind fun bt203 => (if (putOf l).2.2 = bt203.2.2 then (if (putOf l).2.2 = bt203.2.2 then (if bt203.2.2 = 0 then ((tabularylaw09_pairs.f k [] l).bind fun t208 => (if t208 = true then ((tabularylaw09_pairs.f k [] l).bind fun t209 => (tabularylaw09_PaxLaid.j0 k l m n s (!t209))) else (tabularylaw09_PaxLaid.j0 k l m n s true))) else (tabularylaw09_PaxLaid.j0 k l m n s false)) else (tabularylaw09_PaxLaid.j0 k l m n s true)) else (tabularylaw09_PaxLaid.j0 k l m n s true))) (fun k => ?_) ?_
    · unfold tabularylaw09_PaxLaid.f tabularylaw09_awake.f pax_Over.f
      simp only [Option.bind_some, h0, h1, if_true]
    · refine Ev.bind (put_f l) ?_
      exact Ev.congr (fun k => by rw [if_pos rfl, if_pos rfl, if_neg h]) (laid_j0 l m n s)
end Go.Proofs.YtkkffccdkbijkaaDoor.H
