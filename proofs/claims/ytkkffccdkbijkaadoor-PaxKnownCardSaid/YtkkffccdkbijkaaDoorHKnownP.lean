/- The examples of the document, in plain Lean. -/
import Derived.Test.YtkkffccdkbijkaaDoorHAwakeP
import Derived.Test.YtkkffccdkbijkaaDoorHRecs
import Derived.Test.YtkkffccdkbijkaaDoorHOver
namespace Go.Proofs.YtkkffccdkbijkaaDoor.H
open Go.RowKit Go.Proofs.YtkkffccdkbijkaaDoor.I Go.Proofs.YtkkffccdkbijkaaDoorW.PrintWords
set_option linter.unusedVariables false
set_option linter.unusedSimpArgs false
/-- So many times the letter v. -/
def rep (n : Nat) : ByteArray := ⟨(List.replicate n 118).toArray⟩
theorem rep_size (n : Nat) : (rep n).size = n := by unfold rep; simp [ByteArray.size]
theorem rep_succ (n : Nat) : rep n ++ ⟨#[118]⟩ = rep (n + 1) := by
  apply ByteArray.ext
  apply Array.toList_inj.1
  unfold rep
  simp [List.replicate_succ']
theorem size_a (i : Nat) (h : i < 5) : (recSize ⟨#[97]⟩ (rep (91 + i)) : Int) = ([97, 98, 99, 101, 102] : List Int).getD i 0 := by
  have hr : restOf ⟨#[97]⟩ (rep (91 + i)) = 95 + i := by unfold restOf; rw [rep_size]; show 3 + 1 + (91 + i) = _; omega
  rcases (show i ≤ 2 ∨ i = 3 ∨ i = 4 by omega) with h2 | rfl | rfl
  · rw [recSize_2 (by omega) (by omega), hr]
    rcases (show i = 0 ∨ i = 1 ∨ i = 2 by omega) with rfl | rfl | rfl <;> rfl
  · rw [recSize_3 (by omega) (by omega), hr]; rfl
  · rw [recSize_3 (by omega) (by omega), hr]; rfl
theorem rec_e1 : recErr ⟨#[]⟩ ⟨#[98]⟩ = ([], 91) := by
  have : fitsErr (⟨#[]⟩ : ByteArray) ⟨#[98]⟩ = 91 := by decide
  unfold recErr; rw [this, if_neg (by decide)]
theorem rec_e2 : recErr ⟨#[97, 61, 98]⟩ ⟨#[]⟩ = ([], 91) := by
  have : fitsErr (⟨#[97, 61, 98]⟩ : ByteArray) ⟨#[]⟩ = 91 := by decide
  unfold recErr; rw [this, if_neg (by decide)]
theorem put_e {k m v u : ByteArray} (h1 : fitsErr k v = 0) (h2 : fitsErr m u = 0) (hb : Op.bytesLess k.toList m.toList = false) : putOf [⟨k, v⟩, ⟨m, u⟩] = ([], 1, 92) := by
  unfold putOf
  rw [if_neg (by simp), putL, if_neg (by simpa using h1), if_neg (by simp), putL, if_neg (by simpa using h2), if_pos (by simpa using hb)]
  rfl
theorem put_ba : putOf [⟨⟨#[98]⟩, ⟨#[]⟩⟩, ⟨⟨#[97]⟩, ⟨#[]⟩⟩] = ([], 1, 92) := put_e (by decide) (by decide) (by simp [Lib.toList_data, Op.bytesLess])
theorem put_aa : putOf [⟨⟨#[97]⟩, ⟨#[]⟩⟩, ⟨⟨#[97]⟩, ⟨#[]⟩⟩] = ([], 1, 92) := put_e (by decide) (by decide) (by simp [Lib.toList_data, Op.bytesLess])
theorem put_o {k m v u : ByteArray} (h1 : fitsErr k v = 0) (h2 : fitsErr m u = 0) (hb : Op.bytesLess k.toList m.toList = true) : (putOf [⟨k, v⟩, ⟨m, u⟩]).2.2 = 0 := by
  unfold putOf
  rw [if_neg (by simp), putL, if_neg (by simpa using h1), if_neg (by simp), putL, if_neg (by simpa using h2), if_neg (by simp [hb]), putL]
theorem over_k : overOf [⟨⟨#[97]⟩, ⟨#[49]⟩⟩, ⟨⟨#[98]⟩, ⟨#[50]⟩⟩] [⟨⟨#[98]⟩, ⟨#[51]⟩⟩, ⟨⟨#[99]⟩, ⟨#[52]⟩⟩] = ([⟨⟨#[97]⟩, ⟨#[49]⟩⟩, ⟨⟨#[98]⟩, ⟨#[51]⟩⟩, ⟨⟨#[99]⟩, ⟨#[52]⟩⟩], 0) := by
  have h1 := put_o (k := ⟨#[97]⟩) (v := ⟨#[49]⟩) (m := ⟨#[98]⟩) (u := ⟨#[50]⟩) (by decide) (by decide) (by simp [Lib.toList_data, Op.bytesLess])
  have h2 := put_o (k := ⟨#[98]⟩) (v := ⟨#[51]⟩) (m := ⟨#[99]⟩) (u := ⟨#[52]⟩) (by decide) (by decide) (by simp [Lib.toList_data, Op.bytesLess])
  have hm : merge [⟨⟨#[97]⟩, ⟨#[49]⟩⟩, ⟨⟨#[98]⟩, ⟨#[50]⟩⟩] [⟨⟨#[98]⟩, ⟨#[51]⟩⟩, ⟨⟨#[99]⟩, ⟨#[52]⟩⟩] = [⟨⟨#[97]⟩, ⟨#[49]⟩⟩, ⟨⟨#[98]⟩, ⟨#[51]⟩⟩, ⟨⟨#[99]⟩, ⟨#[52]⟩⟩] := by
    rw [merge_cons, if_pos (by decide), merge_cons, if_neg (by decide), if_pos (by decide), merge_nil]
  unfold overOf
  rw [h1, if_neg (by decide), h2, if_neg (by decide), hm, if_neg (by decide)]
theorem key_fits (n : Nat) (h : n ≤ 90) : fitsErr ⟨#[107, 101, 121]⟩ (rep n) = 0 := by
  unfold fitsErr
  rw [rep_size, if_neg (by decide), if_neg (by omega)]
theorem key_size (n : Nat) (h : n ≤ 90) : recSize ⟨#[107, 101, 121]⟩ (rep n) ≤ 1078 := (rec_small (key_fits n h)).1
theorem key_get (n : Nat) (h : n ≤ 90) : getOf (recOf ⟨#[107, 101, 121]⟩ (rep n)) = ([⟨⟨#[107, 101, 121]⟩, rep n⟩], 0, 0) := by
  have hg := getL_good [⟨⟨#[107, 101, 121]⟩, rep n⟩] (recOf ⟨#[107, 101, 121]⟩ (rep n)).length [] 0 ⟨key_fits n h, by simp, trivial⟩ (by simp) (by simp [cat])
  unfold getOf
  simpa [cat] using hg
theorem long_key : (recErr ⟨#[97, 98, 99, 100, 101, 102, 103, 104, 105, 106, 107, 108, 109, 110, 111, 112, 113, 114, 115, 116, 117, 118, 119, 120, 121, 122, 49, 50, 51, 52, 53, 54]⟩ ⟨#[]⟩).2 = 0 := by
  have : fitsErr (⟨#[97, 98, 99, 100, 101, 102, 103, 104, 105, 106, 107, 108, 109, 110, 111, 112, 113, 114, 115, 116, 117, 118, 119, 120, 121, 122, 49, 50, 51, 52, 53, 54]⟩ : ByteArray) ⟨#[]⟩ = 0 := by decide +kernel
  unfold recErr; rw [this, if_pos rfl]
theorem longer_key : recErr ⟨#[97, 98, 99, 100, 101, 102, 103, 104, 105, 106, 107, 108, 109, 110, 111, 112, 113, 114, 115, 116, 117, 118, 119, 120, 121, 122, 49, 50, 51, 52, 53, 54, 55]⟩ ⟨#[]⟩ = ([], 91) := by
  have : fitsErr (⟨#[97, 98, 99, 100, 101, 102, 103, 104, 105, 106, 107, 108, 109, 110, 111, 112, 113, 114, 115, 116, 117, 118, 119, 120, 121, 122, 49, 50, 51, 52, 53, 54, 55]⟩ : ByteArray) ⟨#[]⟩ = 91 := by decide +kernel
  unfold recErr; rw [this, if_neg (by decide)]
theorem get_bad {l : List Int} {c : Int} (hl : l ≠ []) (e : oneOf l = .error c) : getOf l = ([], 0, c) := by
  unfold getOf
  cases hn : l.length with
  | zero => exact absurd (List.eq_nil_of_length_eq_zero hn) hl
  | succ n => exact getL_err hl (by simp) e
theorem bad1 : getOf (bytesOf ⟨#[53, 32, 97, 61, 98, 10]⟩) = ([], 0, 90) := get_bad (by decide) rfl
theorem bad2 : getOf (bytesOf ⟨#[54, 32, 97, 61, 98, 99]⟩) = ([], 0, 90) := get_bad (by decide) rfl
theorem bad3 : getOf (bytesOf ⟨#[49, 48, 48, 48, 48, 32, 97, 61, 98, 10]⟩) = ([], 0, 90) := get_bad (by decide) rfl
theorem bad4 : getOf (bytesOf ⟨#[53, 32, 97, 98, 10]⟩) = ([], 0, 90) := get_bad (by decide) rfl
theorem bad6 : getOf (bytesOf ⟨#[55, 32, 97, 61, 98, 10]⟩) = ([], 0, 90) := get_bad (by decide) rfl
theorem bad7 : getOf (bytesOf ⟨#[48, 54, 32, 97, 61, 98, 10]⟩) = ([], 0, 90) := get_bad (by decide) rfl
theorem bad8 : getOf (bytesOf ⟨#[54, 32, 61, 98, 99, 10]⟩) = ([], 0, 91) := get_bad (by decide) (by
  show oneOf [54, 32, 61, 98, 99, 10] = _
  have hf : fitsErr (⟨#[]⟩ : ByteArray) (⟨#[98, 99]⟩ : ByteArray) = 91 := by decide
  unfold oneOf
  simp [hf, digN, numFrom, ix61, keyOf, valOf, strOfNums, Lib.bytesOf, Lib.indexByte])
theorem o3 (l : List Int) : oneOf (54 :: 32 :: 98 :: 61 :: 97 :: 10 :: l) = .ok (⟨#[98]⟩, ⟨#[97]⟩, 6) := by
  have hr : recSize (⟨#[98]⟩ : ByteArray) (⟨#[97]⟩ : ByteArray) = 6 := recSize_1 (by decide)
  have hf : fitsErr (⟨#[98]⟩ : ByteArray) (⟨#[97]⟩ : ByteArray) = 0 := by decide
  unfold oneOf
  simp [hf, hr, digN, numFrom, ix61, keyOf, valOf, strOfNums, Lib.bytesOf, Lib.indexByte]
theorem bad9 : getOf (bytesOf ⟨#[54, 32, 98, 61, 97, 10, 54, 32, 97, 61, 98, 10]⟩) = ([], 6, 92) := by
  show getOf [54, 32, 98, 61, 97, 10, 54, 32, 97, 61, 98, 10] = _
  unfold getOf
  show getL (11 + 1) _ _ _ = _
  rw [getL_go (by simp) (by simp) (o3 _) z32 (by simp)]
  show getL (10 + 1) [⟨⟨#[98]⟩, ⟨#[97]⟩⟩] 6 [54, 32, 97, 61, 98, 10] = _
  exact getL_ord (by simp) (by simp) (o1 _) z32 (by simp) (by simp [Lib.toList_data, Op.bytesLess])
/-- The record that says 100 and has 99 bytes. -/
def other : ByteArray := ⟨#[49, 48, 48, 32, 97, 61]⟩ ++ rep 93 ++ ⟨#[10]⟩
theorem bad5 : getOf (bytesOf other) = ([], 0, 90) := by
  have hl : bytesOf other = [49, 48, 48, 32, 97, 61] ++ List.replicate 93 118 ++ [10] := by decide +kernel
  rw [hl]
  refine get_bad (by simp) ?_
  have hr : recSize (⟨#[97]⟩ : ByteArray) (rep 93) = 99 := by
    have hr : restOf ⟨#[97]⟩ (rep 93) = 97 := by unfold restOf; rw [rep_size]; rfl
    rw [recSize_2 (by omega) (by omega), hr]
  have hf : fitsErr (⟨#[97]⟩ : ByteArray) (rep 93) = 0 := by
    unfold fitsErr
    rw [rep_size, if_neg (by decide), if_neg (by omega)]
  have hd : digN 5 ([49, 48, 48, 32, 97, 61] ++ List.replicate 93 118 ++ [10]) = 3 := by decide +kernel
  have hn : numFrom 0 (([49, 48, 48, 32, 97, 61] ++ List.replicate 93 118 ++ [10] : List Int).take 3) = 100 := by decide +kernel
  have hi : ix61 ((([49, 48, 48, 32, 97, 61] ++ List.replicate 93 118 ++ [10] : List Int).take 99).drop 4) = 1 := by decide +kernel
  have hk : keyOf ([49, 48, 48, 32, 97, 61] ++ List.replicate 93 118 ++ [10]) 3 99 1 = ⟨#[97]⟩ := by decide +kernel
  have hv : valOf ([49, 48, 48, 32, 97, 61] ++ List.replicate 93 118 ++ [10]) 3 99 1 = rep 93 := by decide +kernel
  unfold oneOf
  simp only [hd]
  rw [if_neg (by decide +kernel)]
  simp only [hn]
  rw [if_neg (by decide +kernel)]
  simp only [show (100 - 1 : Nat) = 99 from rfl, show (3 + 1 : Nat) = 4 from rfl, hi, show ((1 : Int).toNat) = 1 from rfl, hk, hv, hf, hr]
  rw [if_neg (by decide), if_neg (by decide), if_pos (by decide)]
end Go.Proofs.YtkkffccdkbijkaaDoor.H
