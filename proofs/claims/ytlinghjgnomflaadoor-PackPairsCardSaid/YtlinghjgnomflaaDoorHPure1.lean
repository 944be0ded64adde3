/- The document's functions on paths, as printed, tell what the plain definitions tell. -/
import Derived.Test.YtlinghjgnomflaaDoorQx5
import Derived.Test.YtlinghjgnomflaaDoorHMayP
namespace Go.Proofs.YtlinghjgnomflaaDoor.Q
open Go.RowKit Go.Proofs.YtlinghjgnomflaaDoor.H Go.Proofs.YtlinghjgnomflaaDoorW.PrintWords Go.Proofs.YtlinghjgnomflaaDoorW.PrintLast Go.Proofs.YtlinghjgnomflaaDoorW.PrintMore

theorem wrap_in {x : Int} (h0 : -9223372036854775808 ≤ x) (h1 : x ≤ 9223372036854775807) : wrap64 x = x := by unfold wrap64; omega

theorem drop_at (s : ByteArray) (i : Nat) (h : i < s.size) : s.data.toList.drop i = s[i] :: s.data.toList.drop (i + 1) := by
  have hl : i < s.data.toList.length := by rw [← Lib.size_eq]; exact h
  rw [List.drop_eq_getElem_cons hl]; rfl
theorem bt_nat (s : ByteArray) (i : Nat) (h : i < s.size) : bt s (i : Int) = (s[i].toNat : Int) := by
  unfold bt; rw [dif_pos (by simpa using h)]; rfl
theorem bt_is (s : ByteArray) (i : Nat) (h : i < s.size) (c : UInt8) : bt s (i : Int) = (c.toNat : Int) ↔ s[i] = c := by
  rw [bt_nat s i h]
  exact ⟨fun e => UInt8.toNat_inj.1 (by omega), fun e => by rw [e]⟩
theorem ixb_step (s : ByteArray) (i : Nat) (h : i < s.size) (c : UInt8) : ixb (s.extract i s.size) c = if s[i] = c then 0 else if ixb (s.extract (i + 1) s.size) c = -1 then -1 else ixb (s.extract (i + 1) s.size) c + 1 := by
  unfold ixb
  rw [Lib.extract_to_end, Lib.extract_to_end, drop_at s i h, Lib.indexByte]
  simp only [beq_iff_eq]
theorem ixb_end (s : ByteArray) (i : Nat) (h : s.size ≤ i) (c : UInt8) : ixb (s.extract i s.size) c = -1 := by
  unfold ixb
  rw [Lib.extract_to_end, List.drop_eq_nil_of_le (by rw [← Lib.size_eq]; exact h)]; rfl
theorem extract_all (s : ByteArray) : s.extract 0 s.size = s := by rw [ByteArray.extract_zero_size]

theorem ev_cast {α : Type} {g : Nat → Option α} {r r' : α} (h : r' = r) (e : Ev g r) : Ev g r' := h ▸ e

/-! ### Nul -/
theorem nul_l0 (s : ByteArray) (hs : s.size ≤ 400) (d : Nat) : ∀ i : Nat, s.size - i = d → i ≤ s.size →
    Ev (fun k => tabularyref08_Nul.l0 k s (i : Int)) (if ixb (s.extract i s.size) 0 = -1 then -1 else (i : Int) + ixb (s.extract i s.size) 0) := by
  induction d with
  | zero =>
    intro i hd hi
    rw [ixb_end s i (by omega), if_pos rfl]
    exact Ev.step (f := fun _ => some (-1)) (fun k => by simp only [tabularyref08_Nul.l0]; rw [if_neg (by omega)]) (Ev.now _)
  | succ d ih =>
    intro i hd hi
    have hlt : i < s.size := by omega
    have ih' := ih (i + 1) (by omega) (by omega)
    have hg := Lib.indexByte_ge (s.extract (i + 1) s.size).data.toList 0
    rw [ixb_step s i hlt]
    have hb := bt_is s i hlt 0
    by_cases h : s[i] = 0
    · rw [if_pos h]
      refine Ev.step (f := fun _ => some ((i : Int))) (fun k => ?_) (by simpa using Ev.now (i : Int))
      simp only [tabularyref08_Nul.l0]
      rw [if_pos (by omega), if_pos (by omega), if_pos (by simpa using hb.2 h)]
    · rw [if_neg h]
      refine Ev.step (f := fun k => tabularyref08_Nul.l0 k s ((i + 1 : Nat) : Int)) (fun k => ?_) ?_
      · simp only [tabularyref08_Nul.l0]
        rw [if_pos (by omega), if_pos (by omega), if_neg (fun e => h (hb.1 (by simpa using e))), wrap_in (by omega) (by omega)]
        rfl
      · refine ev_cast ?_ ih'
        change -1 ≤ ixb (s.extract (i + 1) s.size) 0 at hg
        by_cases hm : ixb (s.extract (i + 1) s.size) 0 = -1
        · rw [if_pos hm, if_pos hm, if_pos rfl]
        · rw [if_neg hm, if_neg hm, if_neg (by omega)]; omega
theorem nul_f (s : ByteArray) (hs : s.size ≤ 400) : Ev (fun k => tabularyref08_Nul.f k s) (ixb s 0) := by
  refine ev_cast ?_ (nul_l0 s hs s.size 0 (by omega) (by omega))
  rw [extract_all]
  split <;> omega

/-! ### part -/
theorem size0 (t : ByteArray) : t.toList = [] ↔ t.size = 0 := by rw [Lib.toList_data, Lib.size_eq, List.length_eq_zero_iff]
theorem part_f (t : ByteArray) (ht : t.size ≤ 400) : Ev (fun k => tabularyref08_part.f k t) (partErr t) := by
  unfold partErr
  by_cases h0 : t.size = 0
  · rw [if_pos h0]
    exact Ev.congr (fun k => by unfold tabularyref08_part.f; rw [if_pos ((size0 t).2 h0)]) (Ev.now _)
  rw [if_neg h0]
  by_cases h1 : 120 < t.size
  · rw [if_pos h1]
    exact Ev.congr (fun k => by unfold tabularyref08_part.f; rw [if_neg (fun e => h0 ((size0 t).1 e)), if_pos (by omega)]) (Ev.now _)
  rw [if_neg h1]
  have yes : Ev (fun k => tabularyref08_part.j0 k t true) (0, 81) := Ev.step (f := fun _ => some (0, 81)) (fun k => by simp only [tabularyref08_part.j0, if_true]) (Ev.now _)
  by_cases h2 : t.toList = [46]
  · rw [if_pos (.inl h2)]
    exact Ev.congr (fun k => by unfold tabularyref08_part.f; rw [if_neg (fun e => h0 ((size0 t).1 e)), if_neg (by omega), if_pos h2]) yes
  by_cases h3 : t.toList = [46, 46]
  · rw [if_pos (.inr h3)]
    refine Ev.congr (fun k => ?_) yes
    unfold tabularyref08_part.f
    rw [if_neg (fun e => h0 ((size0 t).1 e)), if_neg (by omega), if_neg h2, beq_iff_eq.2 h3]
  rw [if_neg (fun e => e.elim h2 h3)]
  refine Ev.congr (f := fun k => tabularyref08_part.j0 k t false) (fun k => ?_) ?_
  · unfold tabularyref08_part.f
    rw [if_neg (fun e => h0 ((size0 t).1 e)), if_neg (by omega), if_neg h2, beq_eq_false_iff_ne.2 h3]
  · refine Ev.step (f := fun k => (tabularyref08_Nul.f k t).bind fun x => if x ≥ 0 then some (x, 82) else some (0, 0)) (fun k => by simp only [tabularyref08_part.j0]; rw [if_neg (by decide)]) ?_
    refine Ev.bind (nul_f t ht) ?_
    by_cases h4 : 0 ≤ ixb t 0
    · rw [if_pos h4]; exact Ev.congr (fun k => by rw [if_pos h4]) (Ev.now _)
    · rw [if_neg h4]; exact Ev.congr (fun k => by rw [if_neg h4]) (Ev.now _)

/-! ### Pieces -/
def s95 (x : Nat × ByteArray) : S95 := ⟨(x.1 : Int), x.2⟩
theorem nxt_here (s : ByteArray) (a i : Nat) (h0 : a ≤ i) (hi : i < s.size) (hc : s[i] = 47) (hn : ∀ j (h : j < s.size), a ≤ j → j < i → s[j] ≠ 47) : nxt s a = (i - a : Nat) := by
  obtain ⟨d, hd⟩ : ∃ d, i - a = d := ⟨_, rfl⟩
  induction d generalizing a with
  | zero =>
    obtain rfl : i = a := by omega
    rw [nxt, ixb_step s i hi, if_pos hc]; simp
  | succ d ih =>
    have ha : a < s.size := by omega
    have := ih (a + 1) (by omega) (fun j h h1 h2 => hn j h (by omega) h2) (by omega)
    unfold nxt at this ⊢
    rw [ixb_step s a ha, if_neg (hn a ha (by omega) (by omega)), this, if_neg (by omega)]
    omega
theorem nxt_none (s : ByteArray) (a : Nat) (hn : ∀ j (h : j < s.size), a ≤ j → s[j] ≠ 47) : nxt s a = -1 := by
  obtain ⟨d, hd⟩ : ∃ d, s.size - a = d := ⟨_, rfl⟩
  induction d generalizing a with
  | zero => exact ixb_end s a (by omega) 47
  | succ d ih =>
    have ha : a < s.size := by omega
    have := ih (a + 1) (fun j h h1 => hn j h (by omega)) (by omega)
    unfold nxt at this ⊢
    rw [ixb_step s a ha, if_neg (hn a ha (Nat.le_refl _)), this, if_pos rfl]

theorem pieces_l0 (s : ByteArray) (hs : s.size ≤ 400) (d : Nat) : ∀ (i a : Nat) (out : List S95), s.size - i = d → a ≤ i → i ≤ s.size → out.length ≤ i → (∀ j (h : j < s.size), a ≤ j → j < i → s[j] ≠ 47) →
    Ev (fun k => tabularyref08_Pieces.l0 k s out (a : Int) (i : Int)) (out ++ (pcs s a).map s95) := by
  induction d with
  | zero =>
    intro i a out hd ha hi ho hn
    obtain rfl : i = s.size := by omega
    rw [pcs_last s a (by rw [nxt_none s a (fun j h h1 => hn j h h1 h)]; decide)]
    refine Ev.step (f := fun _ => some (out ++ [s95 (a, s.extract a s.size)])) (fun k => ?_) (Ev.now _)
    simp only [tabularyref08_Pieces.l0]
    rw [if_neg (by omega), if_pos (by omega), if_pos (by omega), if_pos (by omega)]
    rfl
  | succ d ih =>
    intro i a out hd ha hi ho hn
    have hlt : i < s.size := by omega
    have hb := bt_is s i hlt 47
    by_cases h : s[i] = 47
    · have hx := nxt_here s a i ha hlt h hn
      have hnn : (nxt s a).toNat = i - a := by omega
      rw [pcs_more s a (by omega), hnn, show a + (i - a) = i by omega]
      have := ih (i + 1) (i + 1) (out ++ [s95 (a, s.extract a i)]) (by omega) (by omega) (by omega) (by simp; omega) (fun j _ h1 h2 => absurd h2 (by omega))
      refine Ev.step (f := fun k => tabularyref08_Pieces.l0 k s (out ++ [s95 (a, s.extract a i)]) ((i + 1 : Nat) : Int) ((i + 1 : Nat) : Int)) (fun k => ?_) (ev_cast (by simp) this)
      simp only [tabularyref08_Pieces.l0]
      rw [if_pos (by omega), if_pos (by omega), if_pos (by simpa using hb.2 h), if_pos (by omega), if_pos (by omega), if_pos (by omega), if_pos (by omega), wrap_in (by omega) (by omega)]
      rfl
    · have := ih (i + 1) a out (by omega) (by omega) (by omega) (by omega) (fun j h1 h2 h3 => by
        rcases Nat.lt_or_ge j i with h4 | h4
        · exact hn j h1 h2 h4
        · obtain rfl : j = i := by omega
          exact h)
      refine Ev.step (f := fun k => tabularyref08_Pieces.l0 k s out (a : Int) ((i + 1 : Nat) : Int)) (fun k => ?_) this
      simp only [tabularyref08_Pieces.l0]
      rw [if_pos (by omega), if_pos (by omega), if_neg (fun e => h (hb.1 (by simpa using e))), wrap_in (by omega) (by omega)]
      rfl
theorem pieces_f (s : ByteArray) (hs : s.size ≤ 400) : Ev (fun k => tabularyref08_Pieces.f k s) ((pcs s 0).map s95) :=
  ev_cast (by simp) (pieces_l0 s hs s.size 0 0 [] (by omega) (by omega) (by omega) (by simp) (fun j _ _ h => absurd h (by omega)))

/-! ### Check -/
theorem rd95 (l : List (Nat × ByteArray)) (i : Nat) (h : i < l.length) : rd_T95 (l.map s95) (i : Int) = s95 l[i] := by
  unfold rd_T95
  simp [h]
theorem check_l0 (l : List (Nat × ByteArray)) (hl : ∀ x ∈ l, x.1 + x.2.size ≤ 400) (hn : l.length ≤ 500) (d : Nat) : ∀ i : Nat, l.length - i = d → i ≤ l.length →
    Ev (fun k => tabularyref08_Check.l0 k (l.map s95) (i : Int)) (ckList (l.drop i)) := by
  induction d with
  | zero =>
    intro i hd hi
    rw [List.drop_eq_nil_of_le (by omega)]
    exact Ev.step (f := fun _ => some (0, 0)) (fun k => by simp only [tabularyref08_Check.l0, List.length_map]; rw [if_neg (by omega)]) (Ev.now _)
  | succ d ih =>
    intro i hd hi
    have hlt : i < l.length := by omega
    have hx := hl l[i] (List.getElem_mem hlt)
    rw [List.drop_eq_getElem_cons hlt, ckList]
    refine Ev.step (f := fun k => (tabularyref08_part.f k l[i].2).bind fun t => if t.2 = 0 then tabularyref08_Check.l0 k (l.map s95) ((i + 1 : Nat) : Int) else some (wrap64 ((l[i].1 : Int) + t.1), t.2)) (fun k => ?_) ?_
    · simp only [tabularyref08_Check.l0, List.length_map]
      rw [if_pos (by omega), if_pos (by omega), rd95 l i hlt, wrap_in (x := (i : Int) + 1) (by omega) (by omega)]
      rfl
    · refine Ev.bind (part_f _ (by omega)) ?_
      by_cases h : (partErr l[i].2).2 = 0
      · rw [if_pos h]
        exact Ev.congr (fun k => by rw [if_pos h]) (ih (i + 1) (by omega) (by omega))
      · rw [if_neg h]
        refine Ev.congr (fun k => by rw [if_neg h]) (ev_cast ?_ (Ev.now _))
        have hp : 0 ≤ (partErr l[i].2).1 ∧ (partErr l[i].2).1 ≤ 400 := by
          unfold partErr
          have := indexByte_lt l[i].2.data.toList 0
          rw [← Lib.size_eq] at this
          unfold ixb
          repeat' split
          all_goals first | (constructor <;> omega) | (constructor <;> simp)
        rw [wrap_in (by omega) (by omega)]
theorem check_f (s : ByteArray) : Ev (fun k => tabularyref08_Check.f k s) (check s) := by
  unfold check
  by_cases h : 400 < s.size
  · rw [if_pos h]
    exact Ev.congr (fun k => by unfold tabularyref08_Check.f; rw [if_pos (by omega)]) (Ev.now _)
  · rw [if_neg h]
    refine Ev.congr (f := fun k => (tabularyref08_Pieces.f k s).bind fun t => tabularyref08_Check.l0 k t 0) (fun k => by unfold tabularyref08_Check.f; rw [if_neg (by omega)]) ?_
    refine Ev.bind (pieces_f s (by omega)) ?_
    have hi := pcs_in s s.size 0 (by omega) (by omega)
    have hl := pcs_length s s.size 0 (by omega) (by omega)
    exact check_l0 (pcs s 0) (fun x hx => by have := hi x hx; omega) (by omega) _ 0 rfl (by omega)
end Go.Proofs.YtlinghjgnomflaaDoor.Q
