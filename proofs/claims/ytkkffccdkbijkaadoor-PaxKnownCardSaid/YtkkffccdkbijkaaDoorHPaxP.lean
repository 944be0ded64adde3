/- Records in plain Lean: what is wrong with a pair, how long a record is, its bytes, many of them; and that the printed functions tell so. -/
import Derived.Test.YtkkffccdkbijkaaDoorIx2
namespace Go.Proofs.YtkkffccdkbijkaaDoor.H
open Go.RowKit Go.Proofs.YtkkffccdkbijkaaDoor.I Go.Proofs.YtkkffccdkbijkaaDoorW.PrintWords
set_option linter.unusedVariables false
set_option linter.unusedSimpArgs false

theorem ev_cast {α : Type} {g : Nat → Option α} {r r' : α} (h : r' = r) (e : Ev g r) : Ev g r' := h ▸ e
theorem wrap_in {x : Int} (h0 : -9223372036854775808 ≤ x) (h1 : x ≤ 9223372036854775807) : wrap64 x = x := by unfold wrap64; omega
theorem size0 (t : ByteArray) : t.toList = [] ↔ t.size = 0 := by rw [Lib.toList_data, Lib.size_eq, List.length_eq_zero_iff]

/-- What is wrong with a pair. -/
def fitsErr (k v : ByteArray) : Int := if k.size = 0 ∨ 32 < k.size ∨ barred k = true then 91 else if 1024 < v.size then 2 else 0
theorem fits_ok {k v : ByteArray} (h : fitsErr k v = 0) : 1 ≤ k.size ∧ k.size ≤ 32 ∧ barred k = false ∧ v.size ≤ 1024 := by
  unfold fitsErr at h
  split at h
  · cases h
  · rename_i hh
    split at h
    · cases h
    · refine ⟨by omega, by omega, ?_, by omega⟩
      cases hb : barred k
      · rfl
      · exact absurd (.inr (.inr hb)) hh
theorem fits_cases (k v : ByteArray) : fitsErr k v = 0 ∨ fitsErr k v = 91 ∨ fitsErr k v = 2 := by unfold fitsErr; split <;> (try split) <;> simp
theorem fits_f (k v : ByteArray) : Ev (fun n => pax_fits.f n k v) (fitsErr k v) := by
  have yes : Ev (fun n => pax_fits.j0 n true k v) 91 := Ev.step (f := fun _ => some 91) (fun n => by simp only [pax_fits.j0, if_true]) (Ev.now _)
  unfold fitsErr
  by_cases h0 : k.size = 0
  · rw [if_pos (.inl h0)]
    exact Ev.congr (fun n => by unfold pax_fits.f; rw [if_pos ((size0 k).2 h0)]) yes
  by_cases h1 : 32 < k.size
  · rw [if_pos (.inr (.inl h1))]
    exact Ev.congr (fun n => by unfold pax_fits.f; rw [if_neg (fun e => h0 ((size0 k).1 e)), if_pos (by omega)]) yes
  have hc : strings_ContainsAny.f k (⟨#[0, 10, 61]⟩ : ByteArray) = some (barred k) := by
    unfold strings_ContainsAny.f
    rw [if_pos ⟨rfl, by omega⟩]
  have hF : ∀ r, Ev (fun n => pax_fits.j0 n (barred k) k v) r → Ev (fun n => pax_fits.f n k v) r := fun r h => by
    refine Ev.congr (fun n => ?_) h
    unfold pax_fits.f
    rw [if_neg (fun e => h0 ((size0 k).1 e)), if_neg (by omega), hc]
    rfl
  cases hb : barred k with
  | true =>
    rw [if_pos (.inr (.inr rfl))]
    rw [hb] at hF
    exact hF _ yes
  | false =>
    rw [hb] at hF
    rw [if_neg (fun e => e.elim h0 (fun e => e.elim h1 (fun e => by cases e)))]
    by_cases h2 : 1024 < v.size
    · rw [if_pos h2]
      exact hF _ (Ev.step (f := fun _ => some 2) (fun n => by simp only [pax_fits.j0]; rw [if_neg (by decide), if_pos (by omega)]) (Ev.now _))
    · rw [if_neg h2]
      exact hF _ (Ev.step (f := fun _ => some 0) (fun n => by simp only [pax_fits.j0]; rw [if_neg (by decide), if_neg (by omega)]) (Ev.now _))

/-! ### How long a record is -/
theorem nDig_pos (n : Nat) : 1 ≤ Lib.nDigits n := by
  by_cases h : n < 10
  · rw [Lib.nDigits_small h]; exact Nat.le_refl _
  · rw [Lib.nDigits_big h]; omega
theorem nDig_mono {m n : Nat} (h : m ≤ n) : Lib.nDigits m ≤ Lib.nDigits n := by
  induction n using Nat.strongRecOn generalizing m with
  | _ n ih =>
    by_cases hn : n < 10
    · rw [Lib.nDigits_small hn, Lib.nDigits_small (show m < 10 by omega)]; exact Nat.le_refl _
    · rw [Lib.nDigits_big hn]
      by_cases hm : m < 10
      · rw [Lib.nDigits_small hm]; omega
      · rw [Lib.nDigits_big hm]
        have := @ih (n / 10) (by omega) (m / 10) (by omega)
        omega
theorem nDig_le (k : Nat) : ∀ n, n < 10 ^ k → Lib.nDigits n ≤ max k 1 := by
  induction k with
  | zero => intro n h; obtain rfl : n = 0 := by simpa using h
            rw [Lib.nDigits_small (by omega)]; exact Nat.le_max_right _ _
  | succ k ih =>
    intro n h
    by_cases hn : n < 10
    · rw [Lib.nDigits_small hn]; omega
    · rw [Lib.nDigits_big hn]
      have hk : k ≠ 0 := by rintro rfl; simp at h; omega
      have := ih (n / 10) (by rw [Nat.div_lt_iff_lt_mul (by omega)]; rwa [Nat.pow_succ] at h)
      omega
/-- The digits that a number says itself with, so many of them tried. -/
def szD : Nat → Nat → Nat → Nat
  | 0, _, d => d
  | f + 1, n, d => if Lib.nDigits (n + d) = d then d else szD f n (d + 1)
def restOf (k v : ByteArray) : Nat := 3 + k.size + v.size
def recDig (k v : ByteArray) : Nat := szD 20 (restOf k v) 1
def recSize (k v : ByteArray) : Nat := restOf k v + recDig k v
theorem szD_spec (n : Nat) (hn : n < 10 ^ 17) : ∀ f d, d + f = 21 → 1 ≤ d → d ≤ Lib.nDigits (n + d) → Lib.nDigits (n + szD f n d) = szD f n d ∧ d ≤ szD f n d ∧ szD f n d ≤ 19 ∧ ∀ e, d ≤ e → e < szD f n d → Lib.nDigits (n + e) ≠ e := by
  intro f
  induction f with
  | zero =>
    intro d hd h1 h2
    obtain rfl : d = 21 := by omega
    have := nDig_le 18 (n + 21) (by have : (10 : Nat) ^ 18 = 10 * 10 ^ 17 := by decide
                                    have h17 : (10 : Nat) ^ 17 = 100000000000000000 := by decide
                                    omega)
    omega
  | succ f ih =>
    intro d hd h1 h2
    unfold szD
    by_cases h : Lib.nDigits (n + d) = d
    · rw [if_pos h]
      have := nDig_le 18 (n + d) (by have : (10 : Nat) ^ 18 = 10 * 10 ^ 17 := by decide
                                     have h17 : (10 : Nat) ^ 17 = 100000000000000000 := by decide
                                     omega)
      exact ⟨h, Nat.le_refl _, by omega, fun e h1 h2 => absurd h2 (by omega)⟩
    · rw [if_neg h]
      have hm := nDig_mono (show n + d ≤ n + (d + 1) by omega)
      obtain ⟨a, b, c, e⟩ := ih (d + 1) (by omega) (by omega) (by omega)
      refine ⟨a, by omega, c, fun x h1 h2 => ?_⟩
      by_cases hx : x = d
      · subst hx; exact h
      · exact e x (by omega) h2
theorem recDig_spec (k v : ByteArray) (h : restOf k v < 10 ^ 17) : Lib.nDigits (recSize k v) = recDig k v ∧ 1 ≤ recDig k v ∧ recDig k v ≤ 19 ∧ ∀ e, 1 ≤ e → e < recDig k v → Lib.nDigits (restOf k v + e) ≠ e :=
  szD_spec _ h 20 1 rfl (Nat.le_refl _) (nDig_pos _)

theorem itoa_nat (n : Nat) : itoa (n : Int) = ⟨(Lib.decDigits n).toArray⟩ := by unfold itoa; rw [Lib.itoa_nonneg]
theorem itoa_size (n : Nat) : (itoa (n : Int)).size = Lib.nDigits n := by rw [itoa_nat]; show (Lib.decDigits n).length = _; rw [Lib.decDigits_length]
theorem size_l0 (n : Nat) (hn : n < 10 ^ 17) : ∀ f d, d + f = 21 → 1 ≤ d → d ≤ Lib.nDigits (n + d) → Ev (fun k => pax_Size.l0 k (n : Int) (d : Int)) ((n + szD f n d : Nat) : Int) := by
  have h17 : (10 : Nat) ^ 17 = 100000000000000000 := by decide
  intro f
  induction f with
  | zero =>
    intro d hd h1 h2
    have := (szD_spec n hn 0 d hd h1 h2).2.2.1
    simp [szD] at this; omega
  | succ f ih =>
    intro d hd h1 h2
    have hI : strconv_Itoa.f (wrap64 ((n : Int) + (d : Int))) = some (itoa ((n + d : Nat) : Int)) := by
      rw [wrap_in (by omega) (by omega)]
      unfold strconv_Itoa.f
      rw [if_pos (by omega)]
      rfl
    unfold szD
    by_cases h : Lib.nDigits (n + d) = d
    · rw [if_pos h]
      refine Ev.step (f := fun _ => some (((n + d : Nat)) : Int)) (fun k => ?_) (Ev.now _)
      simp only [pax_Size.l0, hI, Option.bind_some]
      rw [if_pos (by rw [itoa_size, h]), wrap_in (by omega) (by omega)]
      rfl
    · rw [if_neg h]
      have hm := nDig_mono (show n + d ≤ n + (d + 1) by omega)
      refine Ev.step (f := fun k => pax_Size.l0 k (n : Int) ((d + 1 : Nat) : Int)) (fun k => ?_) (ih (d + 1) (by omega) (by omega) (by omega))
      simp only [pax_Size.l0, hI, Option.bind_some]
      rw [if_neg (by rw [itoa_size]; omega), wrap_in (x := (d : Int) + 1) (by omega) (by omega)]
      rfl
theorem size_f (k v : ByteArray) (h : restOf k v < 10 ^ 17) : Ev (fun n => pax_Size.f n k v) (recSize k v : Int) := by
  have h17 : (10 : Nat) ^ 17 = 100000000000000000 := by decide
  unfold restOf at h
  refine Ev.congr (fun n => ?_) (size_l0 (restOf k v) h 20 1 rfl (Nat.le_refl _) (nDig_pos _))
  unfold pax_Size.f restOf
  rw [wrap_in (x := 3 + (k.size : Int)) (by omega) (by omega), wrap_in (by omega) (by omega)]
  congr 1

/-! ### A record's bytes; many of them -/
def recOf (k v : ByteArray) : List Int := digs (recSize k v) ++ [32] ++ bytesOf k ++ [61] ++ bytesOf v ++ [10]
theorem digs_len (n : Nat) : (digs n).length = Lib.nDigits n := by unfold digs; rw [List.length_map, Lib.decDigits_length]
theorem recOf_len (k v : ByteArray) (h : restOf k v < 10 ^ 17) : (recOf k v).length = recSize k v := by
  have := (recDig_spec k v h).1
  unfold recOf
  simp only [List.length_append, List.length_cons, List.length_nil, bytesOf_length, digs_len, this]
  unfold recSize restOf
  omega
theorem rest_small {k v : ByteArray} (h : fitsErr k v = 0) : restOf k v ≤ 1059 := by have := fits_ok h; unfold restOf; omega
theorem rec_small {k v : ByteArray} (h : fitsErr k v = 0) : recSize k v ≤ 1078 ∧ 1 ≤ recSize k v := by
  have h1 := rest_small h
  have h2 := recDig_spec k v (by have : (10 : Nat) ^ 17 = 100000000000000000 := by decide
                                 omega)
  unfold recSize
  omega
theorem lay_f (l : List Int) (k v : ByteArray) (hl : l.length ≤ 1000000) (h : fitsErr k v = 0) : Ev (fun n => pax_lay.f n l k v) (l ++ recOf k v) := by
  have h0 := fits_ok h
  have h1 := rec_small h
  have h2 := rest_small h
  have h17 : (10 : Nat) ^ 17 = 100000000000000000 := by decide
  have hs := recDig_spec k v (by omega)
  refine Ev.congr (fun n => by unfold pax_lay.f; rfl) (Ev.bind (size_f k v (by omega)) ?_)
  have hA : strconv_AppendInt.f l (recSize k v : Int) 10 = some (l ++ digs (recSize k v)) := by
    unfold strconv_AppendInt.f
    rw [if_pos (by omega)]
    rfl
  have hd : (digs (recSize k v)).length ≤ 19 := by rw [digs_len]; omega
  refine ev_cast ?_ (Ev.congr (fun n => ?_) (Ev.now (l ++ digs (recSize k v) ++ [32] ++ bytesOf k ++ [61] ++ bytesOf v ++ [10])))
  · unfold recOf; simp only [List.append_assoc]
  · rw [hA]
    simp only [Option.bind_some, List.length_append, List.length_cons, List.length_nil, bytesOf_length]
    rw [if_pos (by omega), if_pos (by omega), if_pos (by omega), if_pos (by omega), if_pos (by omega)]
def recErr (k v : ByteArray) : List Int × Int := if fitsErr k v = 0 then (recOf k v, 0) else ([], fitsErr k v)
theorem record_f (k v : ByteArray) : Ev (fun n => pax_Record.f n k v) (recErr k v) := by
  unfold recErr
  refine Ev.congr (fun n => by unfold pax_Record.f; rfl) (Ev.bind (fits_f k v) ?_)
  by_cases h : fitsErr k v = 0
  · rw [if_pos h]
    refine Ev.congr (fun n => by rw [if_pos h]) (Ev.bind (lay_f [] k v (by decide) h) ?_)
    exact ev_cast (by simp) (Ev.now _)
  · rw [if_neg h]
    exact Ev.congr (fun n => by rw [if_neg h]) (Ev.now _)

abbrev Pr := S32
/-- Records behind bytes, from a place on, behind a key. -/
def putL : Option ByteArray → Nat → List Int → List Pr → List Int × Int × Int
  | _, _, out, [] => (out, 0, 0)
  | q, i, out, p :: l =>
    if fitsErr p.f0 p.f1 ≠ 0 then ([], i, fitsErr p.f0 p.f1)
    else if ∃ u ∈ q, Op.bytesLess u.toList p.f0.toList = false then ([], i, 92)
    else putL (some p.f0) (i + 1) (out ++ recOf p.f0 p.f1) l
def putOf (l : List Pr) : List Int × Int × Int := if 64 < l.length then ([], 64, 3) else putL none 0 [] l

theorem rd_at (l : List Pr) (i : Nat) (h : i < l.length) : rd_T32 l (i : Int) = l[i] := by
  unfold rd_T32
  simp [h]
def keyBefore (l : List Pr) (i : Nat) : Option ByteArray := if i = 0 then none else (l[i - 1]?).map (·.f0)
theorem put_l0 (l : List Pr) (hl : l.length ≤ 64) (d : Nat) : ∀ (i : Nat) (out : List Int), l.length - i = d → i ≤ l.length → out.length ≤ i * 1078 →
    Ev (fun k => pax_Put.l0 k l out l (l.length : Int) (i : Int)) (putL (keyBefore l i) i out (l.drop i)) := by
  induction d with
  | zero =>
    intro i out hd hi ho
    rw [List.drop_eq_nil_of_le (by omega), putL]
    exact Ev.step (f := fun _ => some (out, 0, 0)) (fun k => by simp only [pax_Put.l0]; rw [if_neg (by omega)]) (Ev.now _)
  | succ d ih =>
    intro i out hd hi ho
    have hlt : i < l.length := by omega
    have hr := rd_at l i hlt
    rw [List.drop_eq_getElem_cons hlt, putL]
    generalize hp : l[i] = p at hr
    refine Ev.step (f := fun k => (pax_fits.f k p.f0 p.f1).bind fun t127 => (if t127 = 0 then (if (i : Int) > 0 then (if 0 ≤ (wrap64 ((i : Int) - 1)) then (if (wrap64 ((i : Int) - 1)) < (l.length : Int) then (if ((Op.bytesLess (((rd_T32 l (wrap64 ((i : Int) - 1))).f0).toList) (p.f0.toList)) = true) then ((pax_lay.f k out p.f0 p.f1).bind fun t129 => (pax_Put.l0 k l t129 l (l.length : Int) (wrap64 ((i : Int) + 1)))) else (some (([] : List Int), (i : Int), 92))) else (none)) else (none)) else ((pax_lay.f k out p.f0 p.f1).bind fun t132 => (pax_Put.l0 k l t132 l (l.length : Int) (wrap64 ((i : Int) + 1))))) else (some (([] : List Int), (i : Int), t127)))) (fun k => ?_) ?_
    · simp only [pax_Put.l0, hr]
      rw [if_pos (by omega), if_pos (by omega), if_pos (by omega)]
    refine Ev.bind (fits_f p.f0 p.f1) ?_
    by_cases hf : fitsErr p.f0 p.f1 = 0
    · rw [if_neg (show ¬ (fitsErr p.f0 p.f1 ≠ 0) by simpa using hf)]
      have hsz := rec_small hf
      have hln := recOf_len p.f0 p.f1 (by have := rest_small hf; have : (10 : Nat) ^ 17 = 100000000000000000 := by decide
                                          omega)
      have hw : wrap64 ((i : Int) + 1) = ((i + 1 : Nat) : Int) := wrap_in (by omega) (by omega)
      have hk : keyBefore l (i + 1) = some p.f0 := by
        unfold keyBefore
        rw [if_neg (by omega), Nat.add_sub_cancel, List.getElem?_eq_getElem hlt, hp]; rfl
      have go : Ev (fun k => (pax_lay.f k out p.f0 p.f1).bind fun t129 => (pax_Put.l0 k l t129 l (l.length : Int) (wrap64 ((i : Int) + 1)))) (putL (some p.f0) (i + 1) (out ++ recOf p.f0 p.f1) (l.drop (i + 1))) := by
        refine Ev.bind (lay_f out p.f0 p.f1 (by omega) hf) ?_
        rw [hw, ← hk]
        exact ih (i + 1) _ (by omega) (by omega) (by rw [List.length_append, hln]; omega)
      by_cases h0 : i = 0
      · subst h0
        rw [if_neg (show ¬ (∃ u ∈ keyBefore l 0, Op.bytesLess u.toList p.f0.toList = false) by simp [keyBefore])]
        exact Ev.congr (fun k => by rw [if_pos hf, if_neg (by omega)]) go
      · have hw1 : wrap64 ((i : Int) - 1) = ((i - 1 : Nat) : Int) := by rw [wrap_in (by omega) (by omega)]; omega
        have hr1 := rd_at l (i - 1) (by omega)
        have hq : keyBefore l i = some (l[i - 1]'(by omega)).f0 := by
          unfold keyBefore
          rw [if_neg h0, List.getElem?_eq_getElem (by omega)]; rfl
        rw [hq]
        by_cases hb : Op.bytesLess (l[i - 1]'(by omega)).f0.toList p.f0.toList = true
        · rw [if_neg (show ¬ (∃ u ∈ some (l[i - 1]'(by omega)).f0, Op.bytesLess u.toList p.f0.toList = false) by simp [hb])]
          exact Ev.congr (fun k => by rw [if_pos hf, if_pos (by omega), hw1, hr1, if_pos (by omega), if_pos (by omega), if_pos hb]) go
        · rw [if_pos (show ∃ u ∈ some (l[i - 1]'(by omega)).f0, Op.bytesLess u.toList p.f0.toList = false by simpa using hb)]
          exact Ev.congr (fun k => by rw [if_pos hf, if_pos (by omega), hw1, hr1, if_pos (by omega), if_pos (by omega), if_neg hb]) (Ev.now _)
    · rw [if_pos (show fitsErr p.f0 p.f1 ≠ 0 from hf)]
      exact Ev.congr (fun k => by rw [if_neg hf]) (Ev.now _)
theorem put_f (l : List Pr) : Ev (fun k => pax_Put.f k l) (putOf l) := by
  unfold putOf
  by_cases h : 64 < l.length
  · rw [if_pos h]
    exact Ev.congr (fun k => by unfold pax_Put.f; rw [if_pos (by omega)]) (Ev.now _)
  · rw [if_neg h]
    refine Ev.congr (fun k => by unfold pax_Put.f; rw [if_neg (by omega)]; rfl) (ev_cast ?_ (put_l0 l (by omega) l.length 0 [] rfl (Nat.zero_le _) (by simp)))
    simp [keyBefore]
end Go.Proofs.YtkkffccdkbijkaaDoor.H
