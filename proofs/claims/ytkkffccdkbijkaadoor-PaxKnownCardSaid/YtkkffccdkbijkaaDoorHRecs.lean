/- Records, read and made, in plain Lean: what was made is read; what was read is made the same. -/
import Derived.Test.YtkkffccdkbijkaaDoorHLen0
namespace Go.Proofs.YtkkffccdkbijkaaDoor.H
open Go.RowKit Go.Proofs.YtkkffccdkbijkaaDoor.I Go.Proofs.YtkkffccdkbijkaaDoorW.PrintWords
set_option linter.unusedVariables false
set_option linter.unusedSimpArgs false

/-! ### numerals -/
theorem numFrom_append (a : Nat) (l m : List Int) : numFrom a (l ++ m) = numFrom (numFrom a l) m := by unfold numFrom; rw [List.foldl_append]
theorem digs_small {n : Nat} (h : n < 10) : digs n = [(48 + n : Int)] := digits1 h
theorem digs_big {n : Nat} (h : ¬ n < 10) : digs n = digs (n / 10) ++ [(48 + (n % 10 : Nat) : Int)] := by
  unfold digs
  rw [Lib.decDigits, dif_neg h, List.map_append, List.map_cons, List.map_nil]
  congr 1
  rw [UInt8.toNat_ofNat']
  congr 1
  omega
theorem num_digs (n : Nat) : numFrom 0 (digs n) = n := by
  induction n using Nat.strongRecOn with
  | _ n ih =>
    by_cases h : n < 10
    · rw [digs_small h]
      show 0 * 10 + ((48 + (n : Int)) - 48).toNat = n
      omega
    · rw [digs_big h, numFrom_append, ih (n / 10) (by omega)]
      show n / 10 * 10 + ((48 + ((n % 10 : Nat) : Int)) - 48).toNat = n
      omega
theorem digs_num : ∀ (l : List Int) (a : Nat), 1 ≤ a → (∀ x ∈ l, isD x) → digs (numFrom a l) = digs a ++ l
  | [], a, _, _ => by rw [List.append_nil]; rfl
  | x :: l, a, ha, h => by
    have hx := h x (by simp)
    unfold isD at hx
    have hq : ¬ a * 10 + (x - 48).toNat < 10 := by omega
    have h1 : (a * 10 + (x - 48).toNat) / 10 = a := by omega
    have h2 : (a * 10 + (x - 48).toNat) % 10 = (x - 48).toNat := by omega
    have h3 : ((48 : Int) + ((x - 48).toNat : Int)) = x := by omega
    show digs (numFrom (a * 10 + (x - 48).toNat) l) = _
    rw [digs_num l _ (by omega) (fun y hy => h y (by simp [hy])), digs_big hq, h1, h2, h3, List.append_assoc]
    rfl
theorem digs_num0 (l : List Int) (x : Int) (hx : isD x) (h0 : x ≠ 48) (h : ∀ y ∈ l, isD y) : digs (numFrom 0 (x :: l)) = x :: l := by
  unfold isD at hx
  have h1 : 1 ≤ (x - 48).toNat := by omega
  show digs (numFrom (0 * 10 + (x - 48).toNat) l) = _
  rw [Nat.zero_mul, Nat.zero_add, digs_num l _ h1 h, digs_small (by omega)]
  have h3 : ((48 : Int) + ((x - 48).toNat : Int)) = x := by omega
  rw [h3]
  rfl
theorem digs_isD (n : Nat) : ∀ x ∈ digs n, isD x := by
  induction n using Nat.strongRecOn with
  | _ n ih =>
    by_cases h : n < 10
    · rw [digs_small h]
      intro x hx
      obtain rfl := List.mem_singleton.1 hx
      unfold isD
      omega
    · rw [digs_big h]
      intro x hx
      rcases List.mem_append.1 hx with hx | hx
      · exact ih (n / 10) (by omega) x hx
      · obtain rfl := List.mem_singleton.1 hx
        unfold isD
        omega
theorem digs_head (n : Nat) (h : 1 ≤ n) : (digs n)[0]?.getD 0 ≠ 48 := by
  induction n using Nat.strongRecOn with
  | _ n ih =>
    by_cases h1 : n < 10
    · rw [digs_small h1]
      simp
      omega
    · have := ih (n / 10) (by omega) (by omega)
      rw [digs_big h1]
      have hl : 0 < (digs (n / 10)).length := by rw [digs_len]; exact nDig_pos _
      rwa [List.getElem?_append_left hl]
theorem digN_app : ∀ (f : Nat) (l m : List Int), l.length ≤ f → (∀ x ∈ l, isD x) → (∀ x, m[0]? = some x → ¬ isD x) → digN f (l ++ m) = l.length
  | 0, l, m, hf, _, _ => by
    obtain rfl : l = [] := List.eq_nil_of_length_eq_zero (by omega)
    simp [digN]
  | f + 1, [], [], _, _, _ => rfl
  | f + 1, [], x :: m, _, _, hm => by
    have := hm x rfl
    unfold isD at this
    show (if 48 ≤ x ∧ x ≤ 57 then digN f m + 1 else 0) = 0
    rw [if_neg this]
  | f + 1, x :: l, m, hf, hl, hm => by
    have hx := hl x (by simp)
    unfold isD at hx
    show (if 48 ≤ x ∧ x ≤ 57 then digN f (l ++ m) + 1 else 0) = (x :: l).length
    rw [if_pos hx, digN_app f l m (by simp at hf; omega) (fun y hy => hl y (by simp [hy])) hm]
    rfl

/-! ### bytes and texts -/
theorem str_bytes (s : ByteArray) : strOfNums (bytesOf s) = s := by
  unfold strOfNums bytesOf
  rw [List.map_map]
  have : (s.data.toList.map ((fun n : Int => UInt8.ofNat n.toNat) ∘ fun b => (b.toNat : Int))) = s.data.toList := by
    conv => rhs; rw [← List.map_id s.data.toList]
    apply List.map_congr_left
    intro b _
    simp
  rw [this]
def IsBy (l : List Int) : Prop := ∀ x ∈ l, 0 ≤ x ∧ x < 256
theorem bytes_str (l : List Int) (h : IsBy l) : bytesOf (strOfNums l) = l := by
  unfold strOfNums bytesOf
  show (l.map fun n => UInt8.ofNat n.toNat).map (fun b => (b.toNat : Int)) = l
  rw [List.map_map]
  conv => rhs; rw [← List.map_id l]
  apply List.map_congr_left
  intro x hx
  have := h x hx
  simp only [Function.comp, UInt8.toNat_ofNat', id]
  omega
theorem isBy_bytes (s : ByteArray) : IsBy (bytesOf s) := by
  intro x hx
  obtain ⟨b, _, rfl⟩ := List.mem_map.1 hx
  have := b.toNat_lt
  omega
/-- Where a sign stands that is not before. -/
theorem index_app : ∀ (l m : List UInt8) (c : UInt8), c ∉ l → Lib.indexByte (l ++ c :: m) c = l.length
  | [], m, c, _ => by simp [Lib.indexByte]
  | b :: l, m, c, h => by
    have h1 : (b == c) = false := beq_eq_false_iff_ne.2 (fun e => h (by simp [e]))
    have ih := index_app l m c (fun e => h (by simp [e]))
    rw [List.cons_append, Lib.indexByte, h1, ih]
    have h2 : ((l.length : Int) == -1) = false := beq_eq_false_iff_ne.2 (by omega)
    rw [h2]
    simp
/-- What an index tells. -/
theorem index_at : ∀ (l : List UInt8) (c : UInt8) (g : Nat), Lib.indexByte l c = (g : Int) → ∃ m, l = l.take g ++ c :: m ∧ g < l.length
  | [], c, g, h => by rw [Lib.indexByte] at h; omega
  | b :: l, c, g, h => by
    rw [Lib.indexByte] at h
    by_cases hb : b = c
    · subst hb
      simp at h
      obtain rfl : g = 0 := by omega
      exact ⟨l, rfl, by simp⟩
    · rw [if_neg (by simpa using hb)] at h
      by_cases h1 : Lib.indexByte l c = -1
      · rw [if_pos (by simpa using h1)] at h; omega
      · rw [if_neg (by simpa using h1)] at h
        have hg := Lib.indexByte_ge l c
        obtain ⟨g, rfl⟩ : ∃ k, g = k + 1 := ⟨g - 1, by omega⟩
        obtain ⟨m, e, hl⟩ := index_at l c g (by omega)
        exact ⟨m, by rw [List.take_succ_cons, List.cons_append, ← e], by simp; omega⟩
theorem any_ge : ∀ {l chars : List UInt8} {c : UInt8}, c ∈ l → c ∈ chars → 0 ≤ Lib.indexAny l chars
  | [], _, _, h, _ => by cases h
  | b :: l, chars, c, h, hc => by
    rw [Lib.indexAny]
    by_cases hb : chars.contains b = true
    · rw [if_pos hb]; exact Int.le_refl _
    · have hne : c ≠ b := by rintro rfl; exact hb (by simpa using hc)
      have hl : c ∈ l := by
        rcases List.mem_cons.1 h with h | h
        · exact absurd h hne
        · exact h
      have ih := any_ge hl hc
      rw [if_neg hb, if_neg (by simp; omega)]
      omega
theorem no61 {k v : ByteArray} (h : fitsErr k v = 0) : (61 : UInt8) ∉ k.data.toList := by
  have hb := (fits_ok h).2.2.1
  intro hm
  unfold barred at hb
  have hi : 0 ≤ Lib.indexAny k.data.toList [0, 10, 61] := any_ge hm (by simp)
  simp [hi] at hb

/-! ### one record -/
theorem not32 {T : List Int} {x : Int} (h : ((32 : Int) :: T)[0]? = some x) : ¬ isD x := by
  obtain rfl : (32 : Int) = x := by simpa using h
  unfold isD
  omega
theorem bytes_of (s : ByteArray) : Lib.bytesOf (bytesOf s) = s.data.toList := by
  have := congrArg (fun x : ByteArray => x.data.toList) (str_bytes s)
  exact this
theorem bytes_append (l m : List Int) : Lib.bytesOf (l ++ m) = Lib.bytesOf l ++ Lib.bytesOf m := by unfold Lib.bytesOf; rw [List.map_append]
theorem rec_split (k v : ByteArray) (rest : List Int) : recOf k v ++ rest = digs (recSize k v) ++ (32 :: (bytesOf k ++ 61 :: (bytesOf v ++ 10 :: rest))) := by
  unfold recOf
  simp only [List.append_assoc, List.cons_append, List.nil_append]
theorem rec_digs {k v : ByteArray} (h : fitsErr k v = 0) : (digs (recSize k v)).length = recDig k v ∧ 1 ≤ recDig k v ∧ recDig k v ≤ 4 ∧ recSize k v = recDig k v + (k.size + v.size) + 3 := by
  have h17 := ten17
  have h2 := rest_small h
  obtain ⟨a1, a2, a3, a4⟩ := recDig_spec k v (by omega)
  have hs := rec_small h
  have h4 := nDig_le 4 (recSize k v) (by omega)
  refine ⟨by rw [digs_len, a1], a2, by omega, ?_⟩
  unfold recSize restOf
  omega
/-- What was made is read. -/
theorem one_made {k v : ByteArray} (h : fitsErr k v = 0) (rest : List Int) : oneOf (recOf k v ++ rest) = .ok (k, v, recSize k v) := by
  obtain ⟨d1, d2, d3, d4⟩ := rec_digs h
  obtain ⟨n, hn⟩ : ∃ n, recSize k v = n := ⟨_, rfl⟩
  obtain ⟨D, hD⟩ : ∃ D, recDig k v = D := ⟨_, rfl⟩
  have hh := digs_head n (by rw [← hn]; omega)
  have hnum := num_digs n
  have hisd := digs_isD n
  rw [rec_split, hn]
  rw [hn, hD] at d1
  rw [hD] at d2 d3
  rw [hn, hD] at d4
  obtain ⟨T, hT⟩ : ∃ T, T = bytesOf k ++ 61 :: (bytesOf v ++ 10 :: rest) := ⟨_, rfl⟩
  have hTl : T.length = k.size + v.size + 2 + rest.length := by rw [hT]; simp only [List.length_append, List.length_cons, bytesOf_length]; omega
  rw [← hT]
  have e5 : digN 5 (digs n ++ 32 :: T) = D := by
    rw [digN_app 5 (digs n) (32 :: T) (by omega) hisd (fun x hx => not32 hx), d1]
  have et : (digs n ++ 32 :: T).take D = digs n := by rw [← d1]; exact List.take_left' rfl
  have el : (digs n ++ 32 :: T).length = D + 1 + T.length := by rw [List.length_append, d1, List.length_cons]; omega
  have e0 : (digs n ++ 32 :: T)[0]?.getD 0 ≠ 48 := by rwa [List.getElem?_append_left (by omega)]
  have eD : (digs n ++ 32 :: T)[D]?.getD 0 = 32 := by rw [List.getElem?_append_right (by omega), d1, Nat.sub_self]; rfl
  have ed : (digs n ++ 32 :: T).drop (D + 1) = T := by rw [← d1, ← List.drop_drop, List.drop_left' rfl]; rfl
  have em : ((digs n ++ 32 :: T).take (n - 1)).drop (D + 1) = bytesOf k ++ 61 :: bytesOf v := by
    rw [List.drop_take, ed, hT]
    have : n - 1 - (D + 1) = (bytesOf k ++ 61 :: bytesOf v).length := by simp only [List.length_append, List.length_cons, bytesOf_length]; omega
    rw [this]
    have e2 : bytesOf k ++ 61 :: (bytesOf v ++ 10 :: rest) = (bytesOf k ++ 61 :: bytesOf v) ++ 10 :: rest := by simp
    rw [e2]
    exact List.take_left' rfl
  have eN : (digs n ++ 32 :: T)[n - 1]?.getD 0 = 10 := by
    rw [List.getElem?_append_right (by omega), d1]
    have e1 : n - 1 - D = (n - 1 - (D + 1)) + 1 := by omega
    rw [e1, List.getElem?_cons_succ, hT]
    have e2 : bytesOf k ++ 61 :: (bytesOf v ++ 10 :: rest) = (bytesOf k ++ 61 :: bytesOf v) ++ 10 :: rest := by simp
    have e3 : n - 1 - (D + 1) = (bytesOf k ++ 61 :: bytesOf v).length := by simp only [List.length_append, List.length_cons, bytesOf_length]; omega
    rw [e2, List.getElem?_append_right (by omega), e3, Nat.sub_self]
    rfl
  have ei : ix61 (bytesOf k ++ 61 :: bytesOf v) = (k.size : Int) := by
    unfold ix61
    rw [bytes_append, bytes_of]
    show Lib.indexByte (k.data.toList ++ (61 : UInt8) :: Lib.bytesOf (bytesOf v)) 61 = _
    rw [index_app _ _ _ (no61 h)]
    rfl
  have ek : keyOf (digs n ++ 32 :: T) D (n - 1) k.size = k := by
    unfold keyOf
    rw [em]
    have : (bytesOf k ++ 61 :: bytesOf v).take k.size = bytesOf k := by
      rw [← bytesOf_length k]; exact List.take_left' rfl
    rw [this, str_bytes]
  have ev : valOf (digs n ++ 32 :: T) D (n - 1) k.size = v := by
    unfold valOf
    rw [em]
    have : (bytesOf k ++ 61 :: bytesOf v).drop (k.size + 1) = bytesOf v := by
      rw [← bytesOf_length k, ← List.drop_drop, List.drop_left' rfl]; rfl
    rw [this, str_bytes]
  unfold oneOf
  simp only [e5, et, hnum, em, ei]
  rw [if_neg (by simp only [not_or, Decidable.not_not]; exact ⟨by omega, by omega, e0, by omega, eD⟩), if_neg (by simp only [not_or, Decidable.not_not]; exact ⟨by omega, eN⟩), if_neg (by omega)]
  simp only [Int.toNat_natCast, ek, ev, h, hn]
  simp

theorem oneOf_inv {l : List Int} {k v : ByteArray} {n : Nat} (h : oneOf l = .ok (k, v, n)) : ∃ d g : Nat, digN 5 l = d ∧ 1 ≤ d ∧ d ≤ 4 ∧ l[0]?.getD 0 ≠ 48 ∧ d < l.length ∧ l[d]?.getD 0 = 32 ∧ n = numFrom 0 (l.take d) ∧ n ≤ l.length ∧ l[n - 1]?.getD 0 = 10 ∧
    ix61 ((l.take (n - 1)).drop (d + 1)) = (g : Int) ∧ k = keyOf l d (n - 1) g ∧ v = valOf l d (n - 1) g ∧ fitsErr k v = 0 ∧ recSize k v = n := by
  have hsp := digN_spec 5 l
  unfold oneOf at h
  dsimp only at h
  generalize digN 5 l = d at h hsp ⊢
  obtain ⟨s1, s2, s3, s4⟩ := hsp
  split at h
  · cases h
  · rename_i c1
    simp only [not_or, Decidable.not_not] at c1
    obtain ⟨c11, c12, c13, c14, c15⟩ := c1
    obtain ⟨m, hm⟩ : ∃ m, numFrom 0 (l.take d) = m := ⟨_, rfl⟩
    rw [hm] at h
    split at h
    · cases h
    · rename_i c2
      simp only [not_or, Decidable.not_not, Nat.not_lt] at c2
      split at h
      · cases h
      · rename_i c3
        split at h
        · cases h
        · rename_i c4
          split at h
          · cases h
          · rename_i c5
            injection h with h
            simp only [Prod.mk.injEq] at h
            obtain ⟨rfl, rfl, rfl⟩ := h
            exact ⟨d, _, rfl, by omega, by omega, c13, by omega, c15, hm.symm, c2.1, c2.2, (Int.toNat_of_nonneg (by omega)).symm, rfl, rfl, by simpa using c4, by simpa using c5⟩
theorem oneOf_ne {l : List Int} {c : Int} (h : oneOf l = .error c) : c ≠ 0 := by
  unfold oneOf at h
  dsimp only at h
  split at h
  · injection h with h; omega
  · split at h
    · injection h with h; omega
    · split at h
      · injection h with h; omega
      · split at h
        · rename_i c4
          injection h with h
          rw [← h]
          simpa using c4
        · split at h
          · injection h with h; omega
          · cases h
theorem by61 {x : Int} (h0 : 0 ≤ x ∧ x < 256) (h : UInt8.ofNat x.toNat = 61) : x = 61 := by
  have := congrArg UInt8.toNat h
  rw [UInt8.toNat_ofNat'] at this
  simp at this
  omega
theorem isBy_take {l : List Int} (h : IsBy l) (n : Nat) : IsBy (l.take n) := fun x hx => h x (List.mem_of_mem_take hx)
theorem isBy_drop {l : List Int} (h : IsBy l) (n : Nat) : IsBy (l.drop n) := fun x hx => h x (List.mem_of_mem_drop hx)
/-- What was read is made the same. -/
theorem one_read {l : List Int} (hl : IsBy l) {k v : ByteArray} {n : Nat} (h : oneOf l = .ok (k, v, n)) : fitsErr k v = 0 ∧ recSize k v = n ∧ n ≤ l.length ∧ l.take n = recOf k v := by
  obtain ⟨d, g, hd, d1, d4, h48, hdl, h32, hn, hnl, h10, hix, hk, hv, hf, hs⟩ := oneOf_inv h
  refine ⟨hf, hs, hnl, ?_⟩
  have hsp := (digN_spec 5 l).2.2.1
  rw [hd] at hsp
  obtain ⟨M, hM⟩ : ∃ M, (l.take (n - 1)).drop (d + 1) = M := ⟨_, rfl⟩
  have hMl : M.length = n - 1 - (d + 1) := by rw [← hM, List.length_drop, List.length_take]; omega
  have hMb : IsBy M := by rw [← hM]; exact isBy_drop (isBy_take hl _) _
  unfold keyOf at hk
  unfold valOf at hv
  rw [hM] at hix hk hv
  unfold ix61 at hix
  obtain ⟨m, hm, hg⟩ := index_at _ _ _ hix
  rw [Lib.bytesOf_length] at hg
  have hgM : M[g]? = some 61 := by
    have e1 : (Lib.bytesOf M)[g]? = some 61 := by
      rw [hm, List.getElem?_append_right (by rw [List.length_take]; omega), List.length_take]
      have : g - min g (Lib.bytesOf M).length = 0 := by rw [Lib.bytesOf_length]; omega
      rw [this]
      rfl
    unfold Lib.bytesOf at e1
    rw [List.getElem?_map, List.getElem?_eq_getElem hg] at e1
    rw [List.getElem?_eq_getElem hg]
    have e2 : UInt8.ofNat (M[g]).toNat = 61 := by simpa using e1
    rw [by61 (hMb _ (List.getElem_mem hg)) e2]
  have hMs : M = bytesOf k ++ 61 :: bytesOf v := by
    rw [hk, hv, bytes_str _ (isBy_take hMb _), bytes_str _ (isBy_drop hMb _)]
    have e1 : M.drop g = 61 :: M.drop (g + 1) := by
      rw [List.drop_eq_getElem_cons hg]
      congr 1
      rw [List.getElem?_eq_getElem hg] at hgM
      exact Option.some.inj hgM
    rw [← e1, List.take_append_drop]
  have hds : digs n = l.take d := by
    obtain ⟨x, t, ht⟩ : ∃ x t, l.take d = x :: t := by
      cases hc : l.take d with
      | nil => have := congrArg List.length hc; rw [List.length_take, List.length_nil] at this; omega
      | cons x t => exact ⟨x, t, rfl⟩
    have hall : ∀ y ∈ x :: t, isD y := by
      intro y hy
      rw [← ht] at hy
      obtain ⟨j, hj, rfl⟩ := List.getElem_of_mem hy
      rw [List.length_take] at hj
      have := hsp j (by omega)
      rwa [List.getElem?_eq_getElem (by omega), Option.getD_some, ← List.getElem_take (h := by rw [List.length_take]; omega)] at this
    have h0 : x ≠ 48 := by
      have e1 : l[0]?.getD 0 = x := by
        have : (l.take d)[0]? = some x := by rw [ht]; rfl
        rw [List.getElem?_take, if_pos (by omega)] at this
        rw [this]; rfl
      rwa [e1] at h48
    rw [hn, ht]
    exact digs_num0 t x (hall x (by simp)) h0 (fun y hy => hall y (by simp [hy]))
  have e1 : l.take n = l.take (n - 1) ++ [10] := by
    have hlt : n - 1 < l.length := by omega
    have : n = (n - 1) + 1 := by omega
    conv => lhs; rw [this]
    rw [List.take_succ_eq_append_getElem hlt]
    congr 2
    rw [List.getElem?_eq_getElem hlt] at h10
    exact h10
  have e2 : l.take (n - 1) = l.take (d + 1) ++ M := by
    rw [← hM]
    have : l.take (d + 1) = (l.take (n - 1)).take (d + 1) := by rw [List.take_take]; congr 1; omega
    rw [this, List.take_append_drop]
  have e3 : l.take (d + 1) = l.take d ++ [32] := by
    rw [List.take_succ_eq_append_getElem hdl]
    congr 2
    rw [List.getElem?_eq_getElem hdl] at h32
    exact h32
  unfold recOf
  rw [e1, e2, e3, hs, hds, hMs]
  simp only [List.append_assoc, List.cons_append, List.nil_append]
/-- A record that was cut is none. -/
theorem one_cut {k v : ByteArray} (h : fitsErr k v = 0) (c : Nat) (h1 : 1 ≤ c) (h2 : c < recSize k v) : oneOf ((recOf k v).take c) = .error 90 := by
  obtain ⟨d1, d2, d3, d4⟩ := rec_digs h
  have hr := rec_split k v []
  rw [List.append_nil] at hr
  obtain ⟨n, hn⟩ : ∃ n, recSize k v = n := ⟨_, rfl⟩
  obtain ⟨D, hD⟩ : ∃ D, recDig k v = D := ⟨_, rfl⟩
  have hnum := num_digs n
  have hisd := digs_isD n
  rw [hr, hn]
  rw [hn, hD] at d1
  rw [hD] at d2 d3
  rw [hn, hD] at d4
  rw [hn] at h2
  obtain ⟨T, hT⟩ : ∃ T, T = bytesOf k ++ 61 :: (bytesOf v ++ [10]) := ⟨_, rfl⟩
  have hTl : T.length = k.size + v.size + 2 := by rw [hT]; simp only [List.length_append, List.length_cons, List.length_nil, bytesOf_length]; omega
  rw [← hT]
  rcases Nat.lt_or_ge D c with hc | hc
  · have e1 : (digs n ++ 32 :: T).take c = digs n ++ 32 :: T.take (c - D - 1) := by
      rw [List.take_append, List.take_of_length_le (by omega), d1]
      obtain ⟨q, hq⟩ : ∃ q, c - D = q + 1 := ⟨c - D - 1, by omega⟩
      rw [hq, List.take_succ_cons, Nat.add_sub_cancel]
    rw [e1]
    have hl : (T.take (c - D - 1)).length = c - D - 1 := by rw [List.length_take]; omega
    have e5 : digN 5 (digs n ++ 32 :: T.take (c - D - 1)) = D := by rw [digN_app 5 (digs n) _ (by omega) hisd (fun x hx => not32 hx), d1]
    have et : (digs n ++ 32 :: T.take (c - D - 1)).take D = digs n := by rw [← d1]; exact List.take_left' rfl
    have el : (digs n ++ 32 :: T.take (c - D - 1)).length = c := by rw [List.length_append, d1, List.length_cons, hl]; omega
    unfold oneOf
    simp only [e5, et, hnum, el]
    split
    · rfl
    · rw [if_pos (.inl (by omega))]
  · have e1 : (digs n ++ 32 :: T).take c = (digs n).take c ++ [] := by rw [List.append_nil, List.take_append_of_le_length (by omega)]
    have hl : ((digs n).take c).length = c := by rw [List.length_take]; omega
    have e5 : digN 5 ((digs n).take c ++ []) = c := by rw [digN_app 5 _ [] (by omega) (fun x hx => hisd x (List.mem_of_mem_take hx)) (fun x hx => by cases hx), hl]
    rw [e1]
    unfold oneOf
    simp only [e5]
    rw [if_pos (.inr (.inr (.inr (.inl (by rw [List.append_nil, hl])))))]

/-! ### many records -/
/-- Pairs that go on behind a key: each fits, the keys ascend. -/
def Good : Option ByteArray → List Pr → Prop
  | _, [] => True
  | q, p :: l => fitsErr p.f0 p.f1 = 0 ∧ ¬ (∃ u ∈ q, Op.bytesLess u.toList p.f0.toList = false) ∧ Good (some p.f0) l
def cat : List Pr → List Int
  | [] => []
  | p :: l => recOf p.f0 p.f1 ++ cat l
theorem putL_good : ∀ (l : List Pr) (q : Option ByteArray) (i : Nat) (out : List Int), Good q l → putL q i out l = (out ++ cat l, 0, 0)
  | [], q, i, out, _ => by rw [putL, cat, List.append_nil]
  | p :: l, q, i, out, h => by
    obtain ⟨h1, h2, h3⟩ := h
    rw [putL, if_neg (by simpa using h1), if_neg h2, putL_good l _ _ _ h3, cat, List.append_assoc]
theorem putL_bad : ∀ (l : List Pr) (q : Option ByteArray) (i : Nat) (out : List Int), (putL q i out l).2.2 = 0 → Good q l
  | [], _, _, _, _ => trivial
  | p :: l, q, i, out, h => by
    rw [putL] at h
    by_cases h1 : fitsErr p.f0 p.f1 = 0
    · rw [if_neg (by simpa using h1)] at h
      by_cases h2 : ∃ u ∈ q, Op.bytesLess u.toList p.f0.toList = false
      · rw [if_pos h2] at h; simp at h
      · rw [if_neg h2] at h
        exact ⟨h1, h2, putL_bad l _ _ _ h⟩
    · rw [if_pos h1] at h
      exact absurd h h1
theorem cat_pos {p : Pr} {l : List Pr} (h : fitsErr p.f0 p.f1 = 0) : cat (p :: l) ≠ [] ∧ (cat (p :: l)).length = recSize p.f0 p.f1 + (cat l).length := by
  have h17 := ten17
  have hs := rec_small h
  have hr := rest_small h
  have hl := recOf_len p.f0 p.f1 (by rw [h17]; exact Nat.lt_of_le_of_lt hr (by decide))
  have e : (cat (p :: l)).length = recSize p.f0 p.f1 + (cat l).length := by rw [cat, List.length_append, hl]
  exact ⟨fun e2 => by rw [e2] at e; simp at e; omega, e⟩
theorem good_len : ∀ (l : List Pr) (q : Option ByteArray), Good q l → (cat l).length ≤ l.length * 1078
  | [], _, _ => by simp [cat]
  | p :: l, q, h => by
    obtain ⟨h1, h2, h3⟩ := h
    have := good_len l _ h3
    have hs := rec_small h1
    rw [(cat_pos h1).2, List.length_cons]
    omega
theorem getL_good : ∀ (l : List Pr) (f : Nat) (out : List Pr) (p : Nat), Good (out.getLast?.map (·.f0)) l → out.length + l.length ≤ 64 → (cat l).length ≤ f → getL f out p (cat l) = (out ++ l, 0, 0)
  | [], f, out, p, _, _, _ => by rw [cat, List.append_nil]; exact getL_end _ _ _
  | x :: l, f, out, p, h, hl, hf => by
    obtain ⟨h1, h2, h3⟩ := h
    obtain ⟨hne, hcl⟩ := cat_pos (l := l) h1
    have hs := rec_small h1
    obtain ⟨f, rfl⟩ : ∃ g, f = g + 1 := ⟨f - 1, by omega⟩
    have ho := one_made h1 (cat l)
    rw [List.length_cons] at hl
    have h17 := ten17
    have hr := rest_small h1
    have hrl := recOf_len x.f0 x.f1 (by rw [h17]; exact Nat.lt_of_le_of_lt hr (by decide))
    rw [getL, if_neg hne, if_neg (by omega)]
    rw [cat, ho]
    dsimp only
    rw [if_neg h2, ← hrl, List.drop_left' rfl]
    rw [getL_good l f _ _ (by rw [List.getLast?_concat]; exact h3) (by rw [List.length_append, List.length_singleton]; omega) (by rw [hcl] at hf; omega)]
    rw [List.append_assoc]
    rfl
theorem getL_read : ∀ (f : Nat) (out : List Pr) (p : Nat) (b : List Int), IsBy b → b.length ≤ f → out.length ≤ 64 →
    ((getL f out p b).2.2 = 0 ∧ ∃ l, (getL f out p b) = (out ++ l, 0, 0) ∧ Good (out.getLast?.map (·.f0)) l ∧ cat l = b ∧ (out ++ l).length ≤ 64) ∨
    ((getL f out p b).2.2 ≠ 0 ∧ (getL f out p b).1 = [] ∧ ∃ q : Nat, (getL f out p b).2.1 = (p + q : Nat) ∧ q ≤ b.length)
  | 0, out, p, b, _, hf, ho => by
    obtain rfl : b = [] := List.eq_nil_of_length_eq_zero (by omega)
    exact .inl ⟨rfl, [], by rw [List.append_nil]; rfl, trivial, rfl, by rw [List.append_nil]; exact ho⟩
  | f + 1, out, p, b, hb, hf, ho => by
    by_cases h0 : b = []
    · subst h0
      rw [getL_end]
      exact .inl ⟨rfl, [], by rw [List.append_nil], trivial, rfl, by rw [List.append_nil]; exact ho⟩
    by_cases h64 : out.length = 64
    · rw [getL_full h0 h64]
      exact .inr ⟨(show (3 : Int) ≠ 0 by decide), rfl, 0, rfl, Nat.zero_le _⟩
    cases he : oneOf b with
    | error c =>
      rw [getL_err h0 h64 he]
      exact .inr ⟨oneOf_ne he, rfl, 0, rfl, Nat.zero_le _⟩
    | ok x =>
      obtain ⟨k, v, n⟩ := x
      obtain ⟨r1, r2, r3, r4⟩ := one_read hb he
      have hn := oneOf_len he
      rw [getL, if_neg h0, if_neg h64, he]
      dsimp only
      by_cases hq : ∃ u ∈ out.getLast?.map (·.f0), Op.bytesLess u.toList k.toList = false
      · rw [if_pos hq]
        exact .inr ⟨(show (92 : Int) ≠ 0 by decide), rfl, 0, rfl, Nat.zero_le _⟩
      · rw [if_neg hq]
        rcases getL_read f (out ++ [⟨k, v⟩]) (p + n) (b.drop n) (isBy_drop hb _) (by rw [List.length_drop]; omega) (by rw [List.length_append, List.length_singleton]; omega) with ⟨a1, l, a2, a3, a4, a5⟩ | ⟨a1, a2, q, a3, a4⟩
        · refine .inl ⟨a1, ⟨k, v⟩ :: l, by rw [a2, List.append_assoc]; rfl, ⟨r1, hq, by rw [List.getLast?_concat] at a3; exact a3⟩, ?_, by rw [List.append_assoc] at a5; exact a5⟩
          rw [cat, a4, ← r4, List.take_append_drop]
        · rw [List.length_drop] at a4
          exact .inr ⟨a1, a2, n + q, by rw [a3]; congr 1; omega, by omega⟩
end Go.Proofs.YtkkffccdkbijkaaDoor.H
