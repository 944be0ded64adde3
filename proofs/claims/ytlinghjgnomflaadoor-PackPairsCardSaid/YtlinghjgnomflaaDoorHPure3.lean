/- The document's May, both Splits and both Pairs, as printed; the law. -/
import Derived.Test.YtlinghjgnomflaaDoorQx6
import Derived.Test.YtlinghjgnomflaaDoorHPure2
namespace Go.Proofs.YtlinghjgnomflaaDoor.Q
open Go.RowKit Go.Proofs.YtlinghjgnomflaaDoor.H Go.Proofs.YtlinghjgnomflaaDoorW.PrintWords Go.Proofs.YtlinghjgnomflaaDoorW.PrintLast Go.Proofs.YtlinghjgnomflaaDoorW.PrintMore
set_option linter.unusedSimpArgs false

/-! ### May -/
theorem link_is (a : Int) : tabularyref11_link.f a = some (decide (a = 3 ∨ a = 4)) := by
  unfold tabularyref11_link.f
  by_cases h : a = 3
  · simp [h]
  · by_cases h' : a = 4
    · simp [h']
    · simp [h, h']
theorem may_j2 (k : Nat) (b : Bool) (p : ByteArray) (kd m t : Int) (L : List Int) (l : ByteArray) :
    tabularyref11_May.j2 (k + 1) b p kd m t L l = if b = true then some 1 else tabularyref11_May.j3 k (decide ((0 < L.length ∧ kd ≠ 1) ∨ (l.toList ≠ [] ∧ ¬ (kd = 3 ∨ kd = 4)))) p kd m t L l := by
  simp only [tabularyref11_May.j2, link_is, Option.bind_some]
  by_cases hb : b = true
  · rw [if_pos hb, if_pos hb]
  rw [if_neg hb, if_neg hb]
  by_cases hn : (L.length : Int) > 0
  · have hn' : 0 < L.length := by omega
    rw [if_pos hn]
    by_cases hk : kd = 1
    · subst hk
      rw [if_pos rfl]
      by_cases hl : l.toList = []
      · rw [if_pos hl]; congr 1; simp [hl]
      · rw [if_neg hl]; congr 1; simp [hl]
    · rw [if_neg hk]; congr 1; simp [hk, hn']
  · have hn' : L.length = 0 := by omega
    rw [if_neg hn]
    by_cases hl : l.toList = []
    · rw [if_pos hl]; congr 1; simp [hl, hn']
    · rw [if_neg hl]; congr 1; simp [hl, hn']
theorem may_j1 (k : Nat) (b : Bool) (p : ByteArray) (kd m t : Int) (L : List Int) (l : ByteArray) :
    tabularyref11_May.j1 (k + 1) b p kd m t L l = if b = true then some 1 else tabularyref11_May.j2 k (decide (m < 0 ∨ 4095 < m ∨ ((kd = 3 ∨ kd = 4) ∧ m ≠ 0))) p kd m t L l := by
  simp only [tabularyref11_May.j1, link_is, Option.bind_some]
  by_cases hb : b = true
  · rw [if_pos hb, if_pos hb]
  rw [if_neg hb, if_neg hb]
  by_cases h0 : m < 0
  · rw [if_pos h0]; congr 1; simp [h0]
  rw [if_neg h0]
  by_cases h1 : 4095 < m
  · rw [if_pos h1]; congr 1; simp [h1]
  rw [if_neg h1]
  by_cases hk : kd = 3 ∨ kd = 4
  · rw [if_pos (by simpa using hk)]; congr 1; simp [h0, h1, hk, bne]; by_cases hm : m = 0 <;> simp [hm]
  · rw [if_neg (by simpa using hk)]; congr 1; simp [h0, h1, hk]
theorem may_j0 (k : Nat) (b : Bool) (p : ByteArray) (kd m t : Int) (L : List Int) (l : ByteArray) :
    tabularyref11_May.j0 (k + 1) b p kd m t L l = if b = true then some 1 else tabularyref11_May.j1 k (decide (t < 0 ∨ 1099511627776 < t ∨ (kd = 3 ∧ t ≠ 0))) p kd m t L l := by
  simp only [tabularyref11_May.j0]
  by_cases hb : b = true
  · rw [if_pos hb, if_pos hb]
  rw [if_neg hb, if_neg hb]
  by_cases h0 : t < 0
  · rw [if_pos h0]; congr 1; simp [h0]
  rw [if_neg h0]
  by_cases h1 : 1099511627776 < t
  · rw [if_pos h1]; congr 1; simp [h1]
  rw [if_neg h1]
  by_cases hk : kd = 3
  · rw [if_pos hk]; congr 1; simp [h0, h1, hk, bne]; by_cases hm : t = 0 <;> simp [hm]
  · rw [if_neg hk]; congr 1; simp [h0, h1, hk]

def e3 (b : Prop) [Decidable b] (p : ByteArray) (kd : Int) (n : Nat) (l : ByteArray) : Int :=
  if b then 110 else if 65536 < n then 2 else if kd = 3 then (check l).2 else if kd = 4 then leadErr p l else 0
theorem may_j3 (b : Prop) [ib : Decidable b] (p : ByteArray) (kd m t : Int) (L : List Int) (l : ByteArray) :
    Ev (fun k => tabularyref11_May.j3 k (decide b) p kd m t L l) (e3 b p kd L.length l) := by
  unfold e3
  by_cases hb : b
  · rw [if_pos hb]
    exact Ev.step (f := fun _ => some 110) (fun k => by simp only [tabularyref11_May.j3]; rw [if_pos (by simpa using hb)]) (Ev.now _)
  rw [if_neg hb]
  by_cases hn : 65536 < L.length
  · rw [if_pos hn]
    exact Ev.step (f := fun _ => some 2) (fun k => by simp only [tabularyref11_May.j3]; rw [if_neg (by simpa using hb), if_pos (by omega)]) (Ev.now _)
  rw [if_neg hn]
  by_cases h3 : kd = 3
  · rw [if_pos h3]
    exact Ev.step (f := fun k => (tabularyref08_Check.f k l).bind fun x => some x.2) (fun k => by simp only [tabularyref11_May.j3]; rw [if_neg (by simpa using hb), if_neg (by omega), if_pos h3]) (Ev.bind (check_f l) (Ev.now _))
  rw [if_neg h3]
  by_cases h4 : kd = 4
  · rw [if_pos h4]
    obtain ⟨r, hr⟩ := lead_f p l
    exact Ev.step (f := fun k => (tabularyref08_Lead.f k p l).bind fun x => some x.2) (fun k => by simp only [tabularyref11_May.j3]; rw [if_neg (by simpa using hb), if_neg (by omega), if_neg h3, if_pos h4]) (Ev.bind hr (Ev.now _))
  · rw [if_neg h4]
    exact Ev.step (f := fun _ => some 0) (fun k => by simp only [tabularyref11_May.j3]; rw [if_neg (by simpa using hb), if_neg (by omega), if_neg h3, if_neg h4]) (Ev.now _)

theorem ev_or {g : Nat → Option Int} {b : Bool} {r : Int} (h : Ev g r) : Ev (fun k => if b = true then some 1 else g k) (if b = true then 1 else r) := by
  cases b
  · exact h
  · exact Ev.now _

set_option maxHeartbeats 4000000 in
theorem may_f (p : ByteArray) (kd m t : Int) (L : List Int) (l : ByteArray) : Ev (fun k => tabularyref11_May.f k p kd m t L l) (mayErr p kd m t L.length l) := by
  have h2 := Ev.step (g := fun k => tabularyref11_May.j2 k (decide (m < 0 ∨ 4095 < m ∨ ((kd = 3 ∨ kd = 4) ∧ m ≠ 0))) p kd m t L l) (fun k => may_j2 k (decide (m < 0 ∨ 4095 < m ∨ ((kd = 3 ∨ kd = 4) ∧ m ≠ 0))) p kd m t L l) (ev_or (may_j3 _ p kd m t L l))
  have h1 := Ev.step (g := fun k => tabularyref11_May.j1 k (decide (t < 0 ∨ 1099511627776 < t ∨ (kd = 3 ∧ t ≠ 0))) p kd m t L l) (fun k => may_j1 k (decide (t < 0 ∨ 1099511627776 < t ∨ (kd = 3 ∧ t ≠ 0))) p kd m t L l) (ev_or h2)
  have h0 := Ev.step (g := fun k => tabularyref11_May.j0 k (decide (kd < 1 ∨ 4 < kd)) p kd m t L l) (fun k => may_j0 k (decide (kd < 1 ∨ 4 < kd)) p kd m t L l) (ev_or h1)
  have hF : ∀ r0, Ev (fun k => tabularyref11_May.j0 k (decide (kd < 1 ∨ 4 < kd)) p kd m t L l) r0 → Ev (fun k => tabularyref11_May.f k p kd m t L l) (if (check p).2 = 0 then r0 else (check p).2) := by
    intro r0 h0
    refine Ev.congr (f := fun k => (tabularyref08_Check.f k p).bind fun x => if x.2 = 0 then tabularyref11_May.j0 k (decide (kd < 1 ∨ 4 < kd)) p kd m t L l else some x.2) (fun k => ?_) (Ev.bind (check_f p) ?_)
    · unfold tabularyref11_May.f
      congr 1; funext x
      by_cases hx : x.2 = 0
      · rw [if_pos hx, if_pos hx]
        by_cases hk : kd < 1
        · rw [if_pos hk]; congr 1; simp [hk]
        · rw [if_neg hk]; congr 1; simp [hk]
      · rw [if_neg hx, if_neg hx]
    · by_cases hx : (check p).2 = 0
      · rw [if_pos hx]; exact Ev.congr (fun k => by rw [if_pos hx]) h0
      · rw [if_neg hx]; exact Ev.congr (fun k => by rw [if_neg hx]) (Ev.now _)
  refine ev_cast ?_ (hF _ h0)
  clear hF h0 h1 h2
  unfold mayErr e3
  by_cases hc : (check p).2 = 0
  · rw [if_neg (by simpa using hc), if_pos hc]
    simp only [decide_eq_true_eq]
    generalize (check l).2 = C
    generalize leadErr p l = D
    by_cases hA : l.toList = []
    all_goals
      simp only [hA, ne_eq, not_true_eq_false, not_false_eq_true, false_and, true_and, or_false, if_true, if_false]
      by_cases k1 : kd = 1
      · subst k1; (repeat' split) <;> first | rfl | omega | (simp_all; done) | (exfalso; simp_all; omega)
      by_cases k2 : kd = 2
      · subst k2; (repeat' split) <;> first | rfl | omega | (simp_all; done) | (exfalso; simp_all; omega)
      by_cases k3 : kd = 3
      · subst k3; (repeat' split) <;> first | rfl | omega | (simp_all; done) | (exfalso; simp_all; omega)
      by_cases k4 : kd = 4
      · subst k4; (repeat' split) <;> first | rfl | omega | (simp_all; done) | (exfalso; simp_all; omega)
      (repeat' split) <;> first | rfl | omega | (simp_all; done) | (exfalso; simp_all; omega)
  · rw [if_pos (by simpa using hc), if_neg hc]
end Go.Proofs.YtlinghjgnomflaaDoor.Q
