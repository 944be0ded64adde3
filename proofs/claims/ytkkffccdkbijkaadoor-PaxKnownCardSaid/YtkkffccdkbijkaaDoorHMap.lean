/- Lists laid over lists, in plain Lean: what the map holds, its keys in order, and the merge of two lists. -/
import Derived.Test.YtkkffccdkbijkaaDoorHPaxP
import Derived.Sort.KeysCollected
import Derived.Maps.Own
import Derived.Maps.OwnSet
namespace Go.Proofs.YtkkffccdkbijkaaDoor.H
open Go.RowKit Go.Proofs.YtkkffccdkbijkaaDoor.I Go.Proofs.YtkkffccdkbijkaaDoorW.PrintWords
set_option linter.unusedVariables false
set_option linter.unusedSimpArgs false

/-- A pair's key, as bytes. -/
def key (p : Pr) : List UInt8 := p.f0.data.toList
def encD (p : Pr) : DataW Unit := .agg [.lit (.string p.f0.data.toList), .lit (.string p.f1.data.toList)]
/-- What the map holds behind so many pairs. -/
def mapOf (f : List Pr) : DataW Unit := f.foldl (fun D p => D.put (.string (key p)) (encD p)) (.map [])
theorem mapOf_snoc (f : List Pr) (p : Pr) : mapOf (f ++ [p]) = (mapOf f).put (.string (key p)) (encD p) := by unfold mapOf; rw [List.foldl_append]; rfl
theorem snoc_ind {P : List Pr → Prop} (h0 : P []) (h1 : ∀ l p, P l → P (l ++ [p])) (l : List Pr) : P l := by
  have : P l.reverse.reverse := by
    induction l.reverse with
    | nil => exact h0
    | cons p r ih => rw [List.reverse_cons]; exact h1 _ _ ih
  rwa [List.reverse_reverse] at this
def StrMap (D : DataW Unit) : Prop := ∃ es, D = .map es ∧ (∀ e ∈ es, ∃ s, e.1 = Lit.string s) ∧ es.Pairwise (fun p q => p.1 ≠ q.1)
theorem strMap_put {D : DataW Unit} (h : StrMap D) (s : List UInt8) (d : DataW Unit) : StrMap (D.put (.string s) d) ∧ ∀ t, t ∈ strKeys (D.put (.string s) d) ↔ t = s ∨ t ∈ strKeys D := by
  obtain ⟨es, rfl, h1, h2⟩ := h
  have hp := WideShapes.insert_perm (Lit.string s, d) (es.filter fun p => !p.1.sameKey (Lit.string s))
  have hk : ∀ e ∈ es.filter (fun p => !p.1.sameKey (Lit.string s)), e ∈ es ∧ e.1 ≠ Lit.string s := by
    intro e he
    have := List.mem_filter.1 he
    refine ⟨this.1, fun e2 => ?_⟩
    have h3 := this.2
    rw [e2, WideAt.sameKey_self (show WideAt.IsKeyLit (Lit.string s) from trivial)] at h3
    simp at h3
  refine ⟨⟨_, rfl, fun e he => ?_, ?_⟩, fun t => ?_⟩
  · rcases List.mem_cons.1 (hp.mem_iff.1 he) with rfl | he
    · exact ⟨s, rfl⟩
    · exact h1 e (hk e he).1
  · refine (hp.pairwise_iff (fun {a b} h => Ne.symm h)).2 (List.pairwise_cons.2 ⟨fun e he => Ne.symm (hk e he).2, h2.filter _⟩)
  · show t ∈ (DataW.insert (Lit.string s, d) (es.filter fun p => !p.1.sameKey (Lit.string s))).map (fun p => strOf p.1) ↔ t = s ∨ t ∈ es.map (fun p => strOf p.1)
    rw [(hp.map _).mem_iff, List.map_cons, List.mem_cons]
    show t = s ∨ _ ↔ _
    constructor
    · rintro (h | h)
      · exact .inl h
      · obtain ⟨e, he, rfl⟩ := List.mem_map.1 h
        exact .inr (List.mem_map.2 ⟨e, (hk e he).1, rfl⟩)
    · rintro (h | h)
      · exact .inl h
      · obtain ⟨e, he, rfl⟩ := List.mem_map.1 h
        by_cases h3 : e.1 = Lit.string s
        · left; rw [h3]; rfl
        · right
          exact List.mem_map.2 ⟨e, List.mem_filter.2 ⟨he, by simpa using Maps.sameKey_ne h3⟩, rfl⟩
theorem mapOf_str (f : List Pr) : StrMap (mapOf f) ∧ ∀ t, t ∈ strKeys (mapOf f) ↔ ∃ p ∈ f, key p = t := by
  induction f using snoc_ind with
  | h0 => exact ⟨⟨[], rfl, (fun e he => by cases he), List.Pairwise.nil⟩, fun t => by simp [mapOf, strKeys]⟩
  | h1 f p ih =>
    rw [mapOf_snoc]
    obtain ⟨a, b⟩ := strMap_put ih.1 (key p) (encD p)
    refine ⟨a, fun t => ?_⟩
    rw [b, ih.2]
    constructor
    · rintro (rfl | ⟨q, hq, rfl⟩)
      · exact ⟨p, by simp, rfl⟩
      · exact ⟨q, by simp [hq], rfl⟩
    · rintro ⟨q, hq, rfl⟩
      rcases List.mem_append.1 hq with hq | hq
      · exact .inr ⟨q, hq, rfl⟩
      · obtain rfl := List.mem_singleton.1 hq
        exact .inl rfl
theorem strKeys_nodup {D : DataW Unit} (h : StrMap D) : (strKeys D).Nodup ∧ Maps.size D = (strKeys D).length := by
  obtain ⟨es, rfl, h1, h2⟩ := h
  refine ⟨?_, by simp [strKeys, Maps.size]⟩
  unfold strKeys
  refine List.Pairwise.map _ (R := fun p q => p.1 ≠ q.1 ∧ p ∈ es ∧ q ∈ es) ?_ ?_
  · rintro p q ⟨hne, hp, hq⟩ he
    obtain ⟨s, hs⟩ := h1 p hp
    obtain ⟨s', hs'⟩ := h1 q hq
    rw [hs, hs'] at he hne
    exact hne (congrArg Lit.string he)
  · have : ∀ l : List (Lit × DataW Unit), (∀ x ∈ l, x ∈ es) → l.Pairwise (fun p q => p.1 ≠ q.1) → l.Pairwise (fun p q => p.1 ≠ q.1 ∧ p ∈ es ∧ q ∈ es) := by
      intro l hl h
      induction l with
      | nil => exact List.Pairwise.nil
      | cons x l ih =>
        obtain ⟨a, b⟩ := List.pairwise_cons.1 h
        exact List.pairwise_cons.2 ⟨fun y hy => ⟨a y hy, hl x (by simp), hl y (by simp [hy])⟩, ih (fun y hy => hl y (by simp [hy])) b⟩
    exact this es (fun x hx => hx) h2
/-- The last pair that has a key. -/
def lastOf (f : List Pr) (s : List UInt8) : Option Pr := f.reverse.find? (fun p => key p == s)
theorem lastOf_snoc (f : List Pr) (p : Pr) (s : List UInt8) : lastOf (f ++ [p]) s = if key p = s then some p else lastOf f s := by
  unfold lastOf
  rw [List.reverse_append, List.reverse_singleton, List.singleton_append, List.find?_cons]
  by_cases h : key p = s
  · rw [if_pos h]; simp [h]
  · rw [if_neg h, beq_eq_false_iff_ne.2 h]
theorem mapOf_at (f : List Pr) (s : List UInt8) (z : DataW Unit) : (mapOf f).atKey (.string s) z = match lastOf f s with | some p => encD p | none => z := by
  induction f using snoc_ind with
  | h0 => rfl
  | h1 f p ih =>
    rw [mapOf_snoc, lastOf_snoc]
    by_cases h : key p = s
    · subst h
      rw [if_pos rfl]
      obtain ⟨es, he, _⟩ := (mapOf_str f).1
      exact Maps.atKey_put_same ⟨es, he⟩ (show WideAt.IsKeyLit (Lit.string (key p)) from trivial) _ _
    · rw [if_neg h, ← ih]
      exact Maps.atKey_put_other (fun e => h (by injection e with e; exact e.symm)) _ _

/-! ### the merge -/
/-- Keys that ascend. -/
def Asc (l : List Pr) : Prop := l.Pairwise (fun p q => key p < key q)
def merge : List Pr → List Pr → List Pr
  | [], m => m
  | x :: l, [] => x :: l
  | x :: l, y :: m => if key x < key y then x :: merge l (y :: m) else if key x = key y then y :: merge l m else y :: merge (x :: l) m
  termination_by l m => l.length + m.length
theorem merge_nil (m : List Pr) : merge [] m = m := by rw [merge]
theorem merge_nil' (l : List Pr) : merge l [] = l := by cases l <;> rw [merge]
theorem merge_cons (x y : Pr) (l m : List Pr) : merge (x :: l) (y :: m) = if key x < key y then x :: merge l (y :: m) else if key x = key y then y :: merge l m else y :: merge (x :: l) m := by rw [merge]
theorem key_tri (a b : List UInt8) : a < b ∨ a = b ∨ b < a := by
  rcases Classical.em (a < b) with h | h
  · exact .inl h
  · rcases List.le_iff_lt_or_eq.1 (List.not_lt.1 h) with h | h
    · exact .inr (.inr h)
    · exact .inr (.inl h.symm)
theorem merge_mem : ∀ (n : Nat) (l m : List Pr), l.length + m.length ≤ n → Asc l → Asc m → ∀ p, p ∈ merge l m ↔ p ∈ m ∨ (p ∈ l ∧ ∀ q ∈ m, key q ≠ key p)
  | 0, l, m, hn, _, _, p => by
    obtain rfl : l = [] := List.eq_nil_of_length_eq_zero (by omega)
    rw [merge_nil]
    simp
  | n + 1, [], m, hn, _, _, p => by rw [merge_nil]; simp
  | n + 1, x :: l, [], hn, _, _, p => by rw [merge_nil']; simp
  | n + 1, x :: l, y :: m, hn, hl, hm, p => by
    simp only [List.length_cons] at hn
    obtain ⟨lx, hl'⟩ := List.pairwise_cons.1 hl
    obtain ⟨my, hm'⟩ := List.pairwise_cons.1 hm
    rw [merge_cons]
    by_cases h1 : key x < key y
    · rw [if_pos h1, List.mem_cons, merge_mem n l (y :: m) (by simp only [List.length_cons]; omega) hl' hm p]
      have hx : ∀ q ∈ y :: m, key q ≠ key x := by
        intro q hq he
        rcases List.mem_cons.1 hq with rfl | hq
        · rw [he] at h1; exact List.lt_irrefl _ h1
        · have := List.lt_trans h1 (my q hq); rw [he] at this; exact List.lt_irrefl _ this
      constructor
      · rintro (rfl | h | ⟨h, h2⟩)
        · exact .inr ⟨by simp, hx⟩
        · exact .inl h
        · exact .inr ⟨by simp [h], h2⟩
      · rintro (h | ⟨h, h2⟩)
        · exact .inr (.inl h)
        · rcases List.mem_cons.1 h with rfl | h
          · exact .inl rfl
          · exact .inr (.inr ⟨h, h2⟩)
    · rw [if_neg h1]
      by_cases h2 : key x = key y
      · rw [if_pos h2, List.mem_cons, merge_mem n l m (by omega) hl' hm' p]
        constructor
        · rintro (rfl | h | ⟨h, h3⟩)
          · exact .inl (by simp)
          · exact .inl (by simp [h])
          · refine .inr ⟨by simp [h], fun q hq => ?_⟩
            rcases List.mem_cons.1 hq with rfl | hq
            · intro he
              have := lx p h
              rw [h2, he] at this
              exact List.lt_irrefl _ this
            · exact h3 q hq
        · rintro (h | ⟨h, h3⟩)
          · rcases List.mem_cons.1 h with rfl | h
            · exact .inl rfl
            · exact .inr (.inl h)
          · rcases List.mem_cons.1 h with rfl | h
            · exact absurd h2.symm (h3 y (by simp))
            · exact .inr (.inr ⟨h, fun q hq => h3 q (by simp [hq])⟩)
      · rw [if_neg h2, List.mem_cons, merge_mem n (x :: l) m (by simp only [List.length_cons]; omega) hl hm' p]
        have h3 : key y < key x := by
          rcases key_tri (key x) (key y) with h | h | h
          · exact absurd h h1
          · exact absurd h h2
          · exact h
        constructor
        · rintro (rfl | h | ⟨h, h4⟩)
          · exact .inl (by simp)
          · exact .inl (by simp [h])
          · refine .inr ⟨h, fun q hq => ?_⟩
            rcases List.mem_cons.1 hq with rfl | hq
            · intro he
              rcases List.mem_cons.1 h with rfl | h
              · exact h2 he.symm
              · have := List.lt_trans h3 (lx p h); rw [he] at this; exact List.lt_irrefl _ this
            · exact h4 q hq
        · rintro (h | ⟨h, h4⟩)
          · rcases List.mem_cons.1 h with rfl | h
            · exact .inl rfl
            · exact .inr (.inl h)
          · exact .inr (.inr ⟨h, fun q hq => h4 q (by simp [hq])⟩)
theorem merge_asc : ∀ (n : Nat) (l m : List Pr), l.length + m.length ≤ n → Asc l → Asc m → Asc (merge l m)
  | 0, l, m, hn, _, hm => by
    obtain rfl : l = [] := List.eq_nil_of_length_eq_zero (by omega)
    rw [merge_nil]; exact hm
  | n + 1, [], m, hn, _, hm => by rw [merge_nil]; exact hm
  | n + 1, x :: l, [], hn, hl, _ => by rw [merge_nil']; exact hl
  | n + 1, x :: l, y :: m, hn, hl, hm => by
    simp only [List.length_cons] at hn
    obtain ⟨lx, hl'⟩ := List.pairwise_cons.1 hl
    obtain ⟨my, hm'⟩ := List.pairwise_cons.1 hm
    rw [merge_cons]
    by_cases h1 : key x < key y
    · rw [if_pos h1]
      refine List.pairwise_cons.2 ⟨fun p hp => ?_, merge_asc n l (y :: m) (by simp only [List.length_cons]; omega) hl' hm⟩
      rcases (merge_mem n l (y :: m) (by simp only [List.length_cons]; omega) hl' hm p).1 hp with h | ⟨h, _⟩
      · rcases List.mem_cons.1 h with rfl | h
        · exact h1
        · exact List.lt_trans h1 (my p h)
      · exact lx p h
    · rw [if_neg h1]
      by_cases h2 : key x = key y
      · rw [if_pos h2]
        refine List.pairwise_cons.2 ⟨fun p hp => ?_, merge_asc n l m (by omega) hl' hm'⟩
        rcases (merge_mem n l m (by omega) hl' hm' p).1 hp with h | ⟨h, _⟩
        · exact my p h
        · rw [← h2]; exact lx p h
      · rw [if_neg h2]
        have h3 : key y < key x := by
          rcases key_tri (key x) (key y) with h | h | h
          · exact absurd h h1
          · exact absurd h h2
          · exact h
        refine List.pairwise_cons.2 ⟨fun p hp => ?_, merge_asc n (x :: l) m (by simp only [List.length_cons]; omega) hl hm'⟩
        rcases (merge_mem n (x :: l) m (by simp only [List.length_cons]; omega) hl hm' p).1 hp with h | ⟨h, _⟩
        · exact my p h
        · rcases List.mem_cons.1 h with rfl | h
          · exact h3
          · exact List.lt_trans h3 (lx p h)
theorem asc_inj {l : List Pr} (h : Asc l) {p q : Pr} (hp : p ∈ l) (hq : q ∈ l) (e : key p = key q) : p = q := by
  induction l with
  | nil => cases hp
  | cons x l ih =>
    obtain ⟨a, b⟩ := List.pairwise_cons.1 h
    rcases List.mem_cons.1 hp with h1 | h1 <;> rcases List.mem_cons.1 hq with h2 | h2
    · rw [h1, h2]
    · have := a q h2; rw [← h1, e] at this; exact absurd this (List.lt_irrefl _)
    · have := a p h1; rw [← h2, e] at this; exact absurd this (List.lt_irrefl _)
    · exact ih b h1 h2
theorem lastOf_some {f : List Pr} {s : List UInt8} {p : Pr} (h : lastOf f s = some p) : p ∈ f ∧ key p = s := by
  unfold lastOf at h
  have h1 := List.mem_of_find?_eq_some h
  have h2 := List.find?_some h
  exact ⟨by simpa using h1, by simpa using h2⟩
theorem lastOf_append (l m : List Pr) (s : List UInt8) : lastOf (l ++ m) s = (lastOf m s).or (lastOf l s) := by
  unfold lastOf
  rw [List.reverse_append, List.find?_append]
/-- What the map holds at a merged pair's key. -/
theorem merge_last {l m : List Pr} (hl : Asc l) (hm : Asc m) {p : Pr} (hp : p ∈ merge l m) : lastOf (l ++ m) (key p) = some p := by
  rw [lastOf_append]
  rcases (merge_mem _ l m (Nat.le_refl _) hl hm p).1 hp with h | ⟨h, h2⟩
  · cases hq : lastOf m (key p) with
    | none =>
      unfold lastOf at hq
      have := List.find?_eq_none.1 hq p (by simpa using h)
      simp at this
    | some q =>
      obtain ⟨h3, h4⟩ := lastOf_some hq
      rw [asc_inj hm h3 h h4]
      rfl
  · have hn : lastOf m (key p) = none := by
      unfold lastOf
      refine List.find?_eq_none.2 fun q hq => ?_
      simpa using h2 q (by simpa using hq)
    rw [hn]
    cases hq : lastOf l (key p) with
    | none =>
      unfold lastOf at hq
      have := List.find?_eq_none.1 hq p (by simpa using h)
      simp at this
    | some q =>
      obtain ⟨h3, h4⟩ := lastOf_some hq
      rw [asc_inj hl h3 h h4]
      rfl
/-- The map's keys in order are the merged list's. -/
theorem merge_keys {l m : List Pr} (hl : Asc l) (hm : Asc m) {ss : List (List UInt8)} (h : ss.Perm (strKeys (mapOf (l ++ m)))) : ss.mergeSort (fun x y => decide (x ≤ y)) = (merge l m).map key := by
  have ha := merge_asc _ l m (Nat.le_refl _) hl hm
  obtain ⟨hs, hmem⟩ := mapOf_str (l ++ m)
  have hkn : ((merge l m).map key).Nodup := List.Pairwise.map _ (fun {a b} hab he => by rw [he] at hab; exact List.lt_irrefl _ hab) ha
  have hp : ss.Perm ((merge l m).map key) := by
    refine h.trans ((List.perm_ext_iff_of_nodup (strKeys_nodup hs).1 hkn).2 fun s => ?_)
    rw [hmem, List.mem_map]
    constructor
    · rintro ⟨p, hp, rfl⟩
      by_cases hq : ∃ q ∈ m, key q = key p
      · obtain ⟨q, hq, he⟩ := hq
        exact ⟨q, (merge_mem _ l m (Nat.le_refl _) hl hm q).2 (.inl hq), he⟩
      · rcases List.mem_append.1 hp with hp | hp
        · exact ⟨p, (merge_mem _ l m (Nat.le_refl _) hl hm p).2 (.inr ⟨hp, fun q hq2 he => hq ⟨q, hq2, he⟩⟩), rfl⟩
        · exact absurd ⟨p, hp, rfl⟩ hq
    · rintro ⟨p, hp, rfl⟩
      rcases (merge_mem _ l m (Nat.le_refl _) hl hm p).1 hp with h | ⟨h, _⟩
      · exact ⟨p, by simp [h], rfl⟩
      · exact ⟨p, by simp [h], rfl⟩
  rw [mergeSort_of_perm hp]
  refine List.mergeSort_of_pairwise ?_
  refine List.Pairwise.map _ (fun {a b} hab => ?_) ha
  exact decide_eq_true (List.le_of_lt hab)
end Go.Proofs.YtkkffccdkbijkaaDoor.H
