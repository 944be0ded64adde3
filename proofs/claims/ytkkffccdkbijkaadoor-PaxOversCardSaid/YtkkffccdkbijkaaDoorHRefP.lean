/- The document's own functions of one record, in plain Lean: they tell what the program's tell. -/
import Derived.Test.YtkkffccdkbijkaaDoorIx4
import Derived.Test.YtkkffccdkbijkaaDoorIx5
import Derived.Test.YtkkffccdkbijkaaDoorHRecs
namespace Go.Proofs.YtkkffccdkbijkaaDoor.H
open Go.RowKit Go.Proofs.YtkkffccdkbijkaaDoor.I Go.Proofs.YtkkffccdkbijkaaDoorW.PrintWords Go.Proofs.YtkkffccdkbijkaaDoorW.PrintLast Go.Proofs.YtkkffccdkbijkaaDoorW.PrintMore
set_option linter.unusedVariables false
set_option linter.unusedSimpArgs false

theorem bt_at (s : ByteArray) (i : Nat) (h : i < s.size) : bt s (i : Int) = (s[i].toNat : Int) := by
  unfold bt
  rw [dif_pos (by simpa using h)]
  simp
/-- A byte that no key has. -/
def bad (c : UInt8) : Bool := c == 0 || c == 10 || c == 61
theorem bad_iff (c : UInt8) : bad c = true ↔ (c.toNat : Int) = 0 ∨ (c.toNat : Int) = 10 ∨ (c.toNat : Int) = 61 := by
  unfold bad
  have e : ∀ d : UInt8, (c == d) = true ↔ c.toNat = d.toNat := fun d => by rw [beq_iff_eq]; exact ⟨fun h => by rw [h], fun h => UInt8.toNat_inj.1 h⟩
  simp only [Bool.or_eq_true, e]
  have h0 : (0 : UInt8).toNat = 0 := rfl
  have h1 : (10 : UInt8).toNat = 10 := rfl
  have h2 : (61 : UInt8).toNat = 61 := rfl
  omega
theorem key_l0 (s : ByteArray) (hs : s.size ≤ 9223372036854775807) (d : Nat) : ∀ i : Nat, s.size - i = d → i ≤ s.size → (∀ j (h : j < s.size), j < i → bad s[j] = false) →
    Ev (fun k => tabularyref09_Key.l0 k s (i : Int)) (decide ((∀ j (h : j < s.size), bad s[j] = false) ∧ 1 ≤ s.size ∧ s.size ≤ 32)) := by
  induction d with
  | zero =>
    intro i hd hi hb
    have hall : ∀ j (h : j < s.size), bad s[j] = false := fun j h => hb j h (by omega)
    refine Ev.step (f := fun _ => some (decide ((∀ j (h : j < s.size), bad s[j] = false) ∧ 1 ≤ s.size ∧ s.size ≤ 32))) (fun k => ?_) (Ev.now _)
    simp only [tabularyref09_Key.l0]
    rw [if_neg (by omega)]
    by_cases h1 : 1 ≤ s.size
    · rw [if_pos (by omega)]
      congr 1
      rw [decide_eq_decide]
      exact ⟨fun h => ⟨hall, h1, by omega⟩, fun h => by have := h.2.2; omega⟩
    · rw [if_neg (by omega)]
      congr 1
      exact (decide_eq_false (fun h => h1 h.2.1)).symm
  | succ d ih =>
    intro i hd hi hb
    have hlt : i < s.size := by omega
    have hbt := bt_at s i hlt
    have hw : wrap64 ((i : Int) + 1) = ((i + 1 : Nat) : Int) := by rw [wrap_in (by omega) (by omega)]; rfl
    cases hbad : bad s[i] with
    | true =>
      have hF : decide ((∀ j (h : j < s.size), bad s[j] = false) ∧ 1 ≤ s.size ∧ s.size ≤ 32) = false := decide_eq_false (fun h => by have := h.1 i hlt; rw [hbad] at this; cases this)
      rw [hF]
      refine Ev.step (f := fun _ => some false) (fun k => ?_) (Ev.now _)
      simp only [tabularyref09_Key.l0, hbt]
      rw [if_pos (by omega), if_pos (by omega)]
      rcases (bad_iff _).1 hbad with h | h | h
      · rw [if_pos h]
      · rw [if_neg (by omega), if_pos h]
      · rw [if_neg (by omega), if_neg (by omega), if_pos h]
    | false =>
      have hn : ¬ ((s[i].toNat : Int) = 0 ∨ (s[i].toNat : Int) = 10 ∨ (s[i].toNat : Int) = 61) := fun h => by rw [(bad_iff _).2 h] at hbad; cases hbad
      simp only [not_or] at hn
      refine Ev.step (f := fun k => tabularyref09_Key.l0 k s ((i + 1 : Nat) : Int)) (fun k => ?_) (ih (i + 1) (by omega) (by omega) (fun j h hj => by
        rcases Nat.lt_or_ge j i with h1 | h1
        · exact hb j h h1
        · obtain rfl : j = i := by omega
          exact hbad))
      simp only [tabularyref09_Key.l0, hbt]
      rw [if_pos (by omega), if_pos (by omega), if_neg hn.1, if_neg hn.2.1, if_neg hn.2.2, hw]
theorem barred_iff (s : ByteArray) : barred s = false ↔ ∀ j (h : j < s.size), bad s[j] = false := by
  have hget : ∀ j (h : j < s.size), s.data.toList[j]? = some s[j] := fun j h => by
    have h2 : j < s.data.toList.length := by rwa [data_length]
    rw [List.getElem?_eq_getElem h2]
    rfl
  unfold barred
  constructor
  · intro h j hj
    cases hb : bad s[j] with
    | false => rfl
    | true =>
      have hm : s[j] ∈ s.data.toList := List.mem_of_getElem? (hget j hj)
      have hc : s[j] ∈ ([0, 10, 61] : List UInt8) := by
        unfold bad at hb
        simp only [Bool.or_eq_true, beq_iff_eq] at hb
        rcases hb with (hb | hb) | hb <;> simp [hb]
      have := any_ge hm hc
      simp [this] at h
  · intro h
    have : Lib.indexAny s.data.toList [0, 10, 61] = -1 := Lib.indexAny_none (fun j x hj hx => by
      have h2 : j < s.size := by rw [data_length] at hj; exact hj
      rw [hget j h2] at hx
      obtain rfl := Option.some.inj hx
      have := h j h2
      unfold bad at this
      simpa [and_assoc] using this)
    rw [this]
    rfl
theorem refFits_f (k v : ByteArray) (hk : k.size ≤ 9223372036854775807) : Ev (fun n => tabularyref09_Fits.f n k v) (fitsErr k v) := by
  have h := key_l0 k hk k.size 0 rfl (Nat.zero_le _) (fun j h hj => absurd hj (by omega))
  refine Ev.congr (fun n => by unfold tabularyref09_Fits.f; rfl) (Ev.bind (a := decide ((∀ j (h : j < k.size), bad k[j] = false) ∧ 1 ≤ k.size ∧ k.size ≤ 32)) (Ev.congr (fun n => by unfold tabularyref09_Key.f; rfl) h) ?_)
  unfold fitsErr
  by_cases hg : barred k = false ∧ 1 ≤ k.size ∧ k.size ≤ 32
  · have hd : decide ((∀ j (h : j < k.size), bad k[j] = false) ∧ 1 ≤ k.size ∧ k.size ≤ 32) = true := decide_eq_true ⟨(barred_iff k).1 hg.1, hg.2⟩
    have hno : ¬ (k.size = 0 ∨ 32 < k.size ∨ barred k = true) := by
      rintro (h | h | h)
      · omega
      · omega
      · rw [hg.1] at h; cases h
    rw [hd, if_neg hno]
    by_cases h2 : 1024 < v.size
    · rw [if_pos h2]; exact Ev.congr (fun n => by rw [if_pos rfl, if_pos (by omega)]) (Ev.now _)
    · rw [if_neg h2]; exact Ev.congr (fun n => by rw [if_pos rfl, if_neg (by omega)]) (Ev.now _)
  · have hd : decide ((∀ j (h : j < k.size), bad k[j] = false) ∧ 1 ≤ k.size ∧ k.size ≤ 32) = false := decide_eq_false (fun h => hg ⟨(barred_iff k).2 h.1, h.2⟩)
    have hor : k.size = 0 ∨ 32 < k.size ∨ barred k = true := by
      rcases Nat.eq_zero_or_pos k.size with h | h
      · exact .inl h
      · rcases Nat.lt_or_ge 32 k.size with h2 | h2
        · exact .inr (.inl h2)
        · right; right
          cases hb : barred k with
          | true => rfl
          | false => exact absurd ⟨hb, h, h2⟩ hg
    rw [hd, if_pos hor]
    exact Ev.congr (fun n => by rw [if_neg (by decide)]) (Ev.now _)

/-! ### numerals -/
theorem str_append (l m : List Int) : strOfNums l ++ strOfNums m = strOfNums (l ++ m) := by
  unfold strOfNums
  apply ByteArray.ext
  simp
theorem decimal_l0 : ∀ (n : Nat) (t : List Int), t.length ≤ 17 → n < 10 ^ (17 - t.length) → Ev (fun k => tabularyref09_decimal.l0 k (n : Int) (strOfNums t)) (strOfNums (digs n ++ t)) := by
  have h17 : (10 : Nat) ^ 17 = 100000000000000000 := by decide
  intro n
  induction n using Nat.strongRecOn with
  | _ n ih =>
    intro t ht hn
    have hst : (strOfNums t).size = t.length := strOfNums_size t
    have hn17 : n < 10 ^ 17 := Nat.lt_of_lt_of_le hn (Nat.pow_le_pow_right (by decide) (by omega))
    by_cases h : n < 10
    · refine Ev.step (f := fun _ => some (strOfNums (digs n ++ t))) (fun k => ?_) (Ev.now _)
      have e : wrap64 (48 + (n : Int)) % 256 = 48 + (n : Int) := by rw [wrap_in (by omega) (by omega)]; omega
      have hs1 : (strOfNums [48 + (n : Int)]).size = 1 := by rw [strOfNums_size]; rfl
      simp only [tabularyref09_decimal.l0, Option.bind_some, e]
      rw [if_neg (by omega), if_pos (by omega), str_append, digs_small h]
    · have e : wrap64 (48 + Int.tmod (n : Int) 10) % 256 = 48 + ((n % 10 : Nat) : Int) := by
        rw [Int.tmod_eq_emod_of_nonneg (by omega), wrap_in (by omega) (by omega)]; omega
      have e2 : wrap64 (Int.tdiv (n : Int) 10) = ((n / 10 : Nat) : Int) := by rw [Int.tdiv_eq_ediv_of_nonneg (by omega), wrap_in (by omega) (by omega)]; omega
      have hs1 : (strOfNums [48 + ((n % 10 : Nat) : Int)]).size = 1 := by rw [strOfNums_size]; rfl
      have hlen : ([48 + ((n % 10 : Nat) : Int)] ++ t).length = t.length + 1 := by simp
      have ht2 : t.length + 2 ≤ 17 := by
        rcases Nat.lt_or_ge (t.length + 1) 17 with h2 | h2
        · exact h2
        · have : 17 - t.length = 0 ∨ 17 - t.length = 1 := by omega
          rcases this with h3 | h3 <;> rw [h3] at hn <;> simp at hn <;> omega
      have hdiv : n / 10 < 10 ^ (17 - (t.length + 1)) := by
        rw [Nat.div_lt_iff_lt_mul (by decide), ← Nat.pow_succ]
        have : (17 - (t.length + 1)).succ = 17 - t.length := by omega
        rw [this]
        exact hn
      have := ih (n / 10) (by omega) ([48 + ((n % 10 : Nat) : Int)] ++ t) (by omega) (by rw [hlen]; exact hdiv)
      refine Ev.step (f := fun k => tabularyref09_decimal.l0 k ((n / 10 : Nat) : Int) (strOfNums ([48 + ((n % 10 : Nat) : Int)] ++ t))) (fun k => ?_) (ev_cast ?_ this)
      · simp only [tabularyref09_decimal.l0, Option.bind_some, e]
        rw [if_pos (by omega), if_pos (by omega), str_append, e2]
      · rw [digs_big h, List.append_assoc]
theorem decimal_f (n : Nat) (h : n < 10 ^ 17) : Ev (fun k => tabularyref09_decimal.f k (n : Int)) (strOfNums (digs n)) := by
  refine ev_cast (by rw [List.append_nil]) (Ev.congr (fun k => by unfold tabularyref09_decimal.f; rfl) (decimal_l0 n [] (by decide) h))
/-- The least number that says itself. -/
theorem refSize_l0 (R D : Nat) (hR : R ≤ 300000000000000) (hD : D ≤ 19) (hs : Lib.nDigits (R + D) = D) (hne : ∀ e, 1 ≤ e → e < D → Lib.nDigits (R + e) ≠ e) (f : Nat) : ∀ e, e ≤ D → D - e = f → Ev (fun k => tabularyref09_Size.l0 k (R : Int) ((R + e : Nat) : Int)) ((R + D : Nat) : Int) := by
  have h17 := ten17
  have key : ∀ e, e ≤ D → (strOfNums (digs (R + e))).size = Lib.nDigits (R + e) ∧ Lib.nDigits (R + e) ≤ 17 := fun e he => by
    refine ⟨by rw [strOfNums_size, digs_len], ?_⟩
    have := nDig_le 17 (R + e) (by rw [h17]; omega)
    omega
  induction f with
  | zero =>
    intro e h1 hf
    obtain rfl : e = D := by omega
    refine Ev.step (f := fun k => (tabularyref09_decimal.f k ((R + e : Nat) : Int)).bind fun t110 => (if ((R + e : Nat) : Int) = (wrap64 ((R : Int) + (t110.size : Int))) then (some ((R + e : Nat) : Int)) else (tabularyref09_Size.l0 k (R : Int) (wrap64 (((R + e : Nat) : Int) + 1))))) (fun k => by simp only [tabularyref09_Size.l0]) ?_
    refine Ev.bind (decimal_f (R + e) (by rw [h17]; omega)) ?_
    refine Ev.congr (fun k => ?_) (Ev.now _)
    rw [(key e h1).1, hs, wrap_in (x := (R : Int) + (e : Int)) (by omega) (by omega), if_pos (by omega)]
  | succ f ih =>
    intro e h1 hf
    refine Ev.step (f := fun k => (tabularyref09_decimal.f k ((R + e : Nat) : Int)).bind fun t110 => (if ((R + e : Nat) : Int) = (wrap64 ((R : Int) + (t110.size : Int))) then (some ((R + e : Nat) : Int)) else (tabularyref09_Size.l0 k (R : Int) (wrap64 (((R + e : Nat) : Int) + 1))))) (fun k => by simp only [tabularyref09_Size.l0]) ?_
    refine Ev.bind (decimal_f (R + e) (by rw [h17]; omega)) ?_
    obtain ⟨k1, k2⟩ := key e h1
    have hn : Lib.nDigits (R + e) ≠ e := by
      rcases Nat.eq_zero_or_pos e with h0 | h0
      · subst h0; have := nDig_pos (R + 0); omega
      · exact hne e h0 (by omega)
    have hw : wrap64 (((R + e : Nat) : Int) + 1) = ((R + (e + 1) : Nat) : Int) := by rw [wrap_in (by omega) (by omega)]; omega
    refine Ev.congr (fun k => ?_) (ih (e + 1) (by omega) (by omega))
    rw [k1, wrap_in (x := (R : Int) + (Lib.nDigits (R + e) : Int)) (by omega) (by omega), if_neg (by omega), hw]
theorem refSize_f (k v : ByteArray) (hk : k.size ≤ 140737488355328) (hv : v.size ≤ 140737488355328) : Ev (fun n => tabularyref09_Size.f n k v) (recSize k v : Int) := by
  have hr : restOf k v = 3 + k.size + v.size := rfl
  have h17 := ten17
  have hlt : restOf k v < 10 ^ 17 := by rw [hr, h17]; omega
  obtain ⟨a1, a2, a3, a4⟩ := recDig_spec k v hlt
  have hN : recSize k v = restOf k v + recDig k v := rfl
  have e0 : wrap64 ((wrap64 (3 + (k.size : Int))) + (v.size : Int)) = (restOf k v : Int) := by rw [wrap_in (x := 3 + (k.size : Int)) (by omega) (by omega), wrap_in (by omega) (by omega), hr]; omega
  generalize restOf k v = R at hr hlt hN a4 e0
  generalize recDig k v = D at a1 a2 a3 a4 hN
  rw [hN] at a1 ⊢
  have := refSize_l0 R D (by omega) a3 a1 a4 D 0 (Nat.zero_le _) rfl
  rw [Nat.add_zero] at this
  refine Ev.congr (fun n => ?_) this
  unfold tabularyref09_Size.f
  rw [e0]
end Go.Proofs.YtkkffccdkbijkaaDoor.H
