/- Some records read and made, in plain Lean. -/
import Derived.Test.YtkkffccdkbijkaaDoorHGet
namespace Go.Proofs.YtkkffccdkbijkaaDoor.H
open Go.RowKit Go.Lib Go.Proofs.YtkkffccdkbijkaaDoor.I Go.Proofs.YtkkffccdkbijkaaDoorW.PrintWords
set_option linter.unusedVariables false
set_option linter.unusedSimpArgs false
theorem szD_one {n d : Nat} (f : Nat) (h : Lib.nDigits (n + d) = d) : szD (f + 1) n d = d := by rw [szD, if_pos h]
theorem szD_more {n d : Nat} (f : Nat) (h : Lib.nDigits (n + d) ≠ d) : szD (f + 1) n d = szD f n (d + 1) := by rw [szD, if_neg h]
/-- A short record's length. -/
theorem recSize_1 {k v : ByteArray} (h : restOf k v + 1 < 10) : recSize k v = restOf k v + 1 := by
  unfold recSize recDig
  rw [szD_one 19 (Lib.nDigits_small h)]
theorem nDig2 {n : Nat} (h1 : 10 ≤ n) (h2 : n < 100) : Lib.nDigits n = 2 := by rw [Lib.nDigits_big (by omega), Lib.nDigits_small (by omega)]
theorem nDig3 {n : Nat} (h1 : 100 ≤ n) (h2 : n < 1000) : Lib.nDigits n = 3 := by rw [Lib.nDigits_big (by omega), nDig2 (by omega) (by omega)]
theorem nDig4 {n : Nat} (h1 : 1000 ≤ n) (h2 : n < 10000) : Lib.nDigits n = 4 := by rw [Lib.nDigits_big (by omega), nDig3 (by omega) (by omega)]
theorem recSize_2 {k v : ByteArray} (h1 : 9 ≤ restOf k v) (h : restOf k v + 2 < 100) : recSize k v = restOf k v + 2 := by
  unfold recSize recDig
  rw [szD_more 19 (by rw [nDig2 (by omega) (by omega)]; omega), szD_one 18 (nDig2 (by omega) h)]
theorem recSize_3 {k v : ByteArray} (h1 : 98 ≤ restOf k v) (h : restOf k v + 3 < 1000) : recSize k v = restOf k v + 3 := by
  unfold recSize recDig
  have hb : restOf k v + 1 < 1000 := by omega
  rw [szD_more 19 (by rcases Nat.lt_or_ge (restOf k v + 1) 100 with h | h; rw [nDig2 (by omega) h]; omega; rw [nDig3 h hb]; omega), szD_more 18 (by rw [nDig3 (by omega) (by omega)]; omega), szD_one 17 (nDig3 (by omega) h)]
theorem digits1 {n : Nat} (h : n < 10) : digs n = [(48 + n : Int)] := by
  unfold digs
  rw [Lib.decDigits, dif_pos h]
  simp only [List.map_cons, List.map_nil, UInt8.toNat_ofNat']
  congr 1
  omega
theorem digits2 {n : Nat} (h1 : 10 ≤ n) (h : n < 100) : digs n = [(48 + n / 10 : Int), (48 + n % 10 : Int)] := by
  unfold digs
  rw [Lib.decDigits, dif_neg (by omega), Lib.decDigits, dif_pos (by omega)]
  simp only [List.map_cons, List.map_nil, List.cons_append, List.nil_append, UInt8.toNat_ofNat']
  congr 1
  · omega
  · congr 1; omega
theorem o1 (l : List Int) : oneOf (54 :: 32 :: 97 :: 61 :: 98 :: 10 :: l) = .ok (⟨#[97]⟩, ⟨#[98]⟩, 6) := by
  have hr : recSize (⟨#[97]⟩ : ByteArray) (⟨#[98]⟩ : ByteArray) = 6 := recSize_1 (by decide)
  have hf : fitsErr (⟨#[97]⟩ : ByteArray) (⟨#[98]⟩ : ByteArray) = 0 := by decide
  unfold oneOf
  simp [hf, hr, digN, numFrom, ix61, keyOf, valOf, strOfNums, Lib.bytesOf, Lib.indexByte]
theorem o2 (l : List Int) : oneOf (54 :: 32 :: 99 :: 61 :: 100 :: 10 :: l) = .ok (⟨#[99]⟩, ⟨#[100]⟩, 6) := by
  have hr : recSize (⟨#[99]⟩ : ByteArray) (⟨#[100]⟩ : ByteArray) = 6 := recSize_1 (by decide)
  have hf : fitsErr (⟨#[99]⟩ : ByteArray) (⟨#[100]⟩ : ByteArray) = 0 := by decide
  unfold oneOf
  simp [hf, hr, digN, numFrom, ix61, keyOf, valOf, strOfNums, Lib.bytesOf, Lib.indexByte]
theorem get_one : getOf [54, 32, 97, 61, 98, 10, 54, 32, 99, 61, 100, 10] = ([⟨⟨#[97]⟩, ⟨#[98]⟩⟩, ⟨⟨#[99]⟩, ⟨#[100]⟩⟩], 0, 0) := by
  unfold getOf
  show getL (11 + 1) _ _ _ = _
  rw [getL_go (by simp) (by simp) (o1 _) z32 (by simp)]
  show getL (10 + 1) [⟨⟨#[97]⟩, ⟨#[98]⟩⟩] 6 [54, 32, 99, 61, 100, 10] = _
  rw [getL_go (by simp) (by simp) (o2 _) z32 (fun _ => by simp [Lib.toList_data, Op.bytesLess])]
  exact getL_end _ _ _
theorem get_two : getOf [54, 32, 97, 61, 98, 10, 120] = ([], 6, 90) := by
  unfold getOf
  show getL (6 + 1) _ _ _ = _
  rw [getL_go (by simp) (by simp) (o1 _) z32 (by simp)]
  show getL (5 + 1) [⟨⟨#[97]⟩, ⟨#[98]⟩⟩] 6 [120] = _
  exact getL_err (by simp) (by simp) rfl
theorem rec_one : recErr (⟨#[112, 97, 116, 104]⟩ : ByteArray) (⟨#[97, 47, 98]⟩ : ByteArray) = ([49, 50, 32, 112, 97, 116, 104, 61, 97, 47, 98, 10], 0) := by
  have hr : recSize (⟨#[112, 97, 116, 104]⟩ : ByteArray) (⟨#[97, 47, 98]⟩ : ByteArray) = 12 := recSize_2 (by decide) (by decide)
  unfold recErr
  rw [if_pos (by decide)]
  unfold recOf
  rw [hr, digits2 (by decide) (by decide)]
  rfl
/-- The same pairs. -/
theorem pairs_l0 (l : List Pr) (hl : l.length ≤ 140737488355328) (d : Nat) : ∀ i : Nat, l.length - i = d → i ≤ l.length → Ev (fun k => tabularylaw09_pairs.l0 k l l (i : Int)) true := by
  induction d with
  | zero =>
    intro i hd hi
    exact Ev.step (f := fun _ => some true) (fun k => by simp only [tabularylaw09_pairs.l0]; rw [if_neg (by omega)]) (Ev.now _)
  | succ d ih =>
    intro i hd hi
    have hw : wrap64 ((i : Int) + 1) = ((i + 1 : Nat) : Int) := by rw [wrap_in (by omega) (by omega)]; rfl
    refine Ev.step (f := fun k => tabularylaw09_pairs.l0 k l l ((i + 1 : Nat) : Int)) (fun k => ?_) (ih (i + 1) (by omega) (by omega))
    simp only [tabularylaw09_pairs.l0]
    rw [if_pos (by omega), if_pos (by omega), if_pos (by omega), if_neg (by simp), hw]
theorem pairs_same (l : List Pr) (hl : l.length ≤ 140737488355328) : Ev (fun k => tabularylaw09_pairs.f k l l) true := by
  refine Ev.congr (fun k => ?_) (pairs_l0 l hl l.length 0 rfl (Nat.zero_le _))
  unfold tabularylaw09_pairs.f
  rw [if_pos rfl]
  rfl
end Go.Proofs.YtkkffccdkbijkaaDoor.H
