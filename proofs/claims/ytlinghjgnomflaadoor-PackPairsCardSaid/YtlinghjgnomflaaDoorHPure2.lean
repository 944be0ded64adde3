/- The document's Lead and May, as printed, tell what the plain definitions tell. -/
import Derived.Test.YtlinghjgnomflaaDoorHPure1
namespace Go.Proofs.YtlinghjgnomflaaDoor.Q
open Go.RowKit Go.Proofs.YtlinghjgnomflaaDoor.H Go.Proofs.YtlinghjgnomflaaDoorW.PrintWords Go.Proofs.YtlinghjgnomflaaDoorW.PrintLast Go.Proofs.YtlinghjgnomflaaDoorW.PrintMore
set_option linter.unusedSimpArgs false

/-! ### Joined -/
theorem rdof_le (l : List ByteArray) (m : Nat) (h : ∀ x ∈ l, x.size ≤ m) (i : Int) : (rdOf ByteArray.empty l i).size ≤ m := by
  unfold rdOf
  rw [List.getD_eq_getElem?_getD]
  rcases e : l[i.toNat]? with _ | x
  · simp
  · exact h x (List.mem_of_getElem? e)
theorem joined_l0 (l : List ByteArray) (hl : ∀ x ∈ l, x.size ≤ 400) (hn : l.length ≤ 1000) (d : Nat) : ∀ (i : Nat) (out : ByteArray), l.length - i = d → i ≤ l.length → out.size ≤ i * 401 →
    ∃ r, Ev (fun k => tabularyref08_Joined.l0 k l out (i : Int)) r := by
  induction d with
  | zero =>
    intro i out hd hi _
    exact ⟨out, Ev.step (f := fun _ => some out) (fun k => by simp only [tabularyref08_Joined.l0]; rw [if_neg (by omega)]) (Ev.now _)⟩
  | succ d ih =>
    intro i out hd hi ho
    have hlt : i < l.length := by omega
    have hx := rdof_le l 400 hl (i : Int)
    have hw : wrap64 ((i : Int) + 1) = ((i + 1 : Nat) : Int) := wrap_in (by omega) (by omega)
    by_cases h : (i : Int) > 0
    · obtain ⟨r, hr⟩ := ih (i + 1) ((out ++ (⟨#[47]⟩ : ByteArray)) ++ (rdOf ByteArray.empty l i)) (by omega) (by omega) (by
        rw [ByteArray.size_append, ByteArray.size_append, show (⟨#[47]⟩ : ByteArray).size = 1 from rfl]; omega)
      refine ⟨r, Ev.step (f := fun k => tabularyref08_Joined.l0 k l ((out ++ (⟨#[47]⟩ : ByteArray)) ++ (rdOf ByteArray.empty l i)) ((i + 1 : Nat) : Int)) (fun k => ?_) hr⟩
      simp only [tabularyref08_Joined.l0]
      rw [if_pos (by omega), if_pos h, if_pos (by omega), if_pos (by omega), if_pos (by rw [ByteArray.size_append, show (⟨#[47]⟩ : ByteArray).size = 1 from rfl]; omega), hw]
    · obtain ⟨r, hr⟩ := ih (i + 1) (out ++ (rdOf ByteArray.empty l i)) (by omega) (by omega) (by
        rw [ByteArray.size_append]; omega)
      refine ⟨r, Ev.step (f := fun k => tabularyref08_Joined.l0 k l (out ++ (rdOf ByteArray.empty l i)) ((i + 1 : Nat) : Int)) (fun k => ?_) hr⟩
      simp only [tabularyref08_Joined.l0]
      rw [if_pos (by omega), if_neg h, if_pos (by omega), if_pos (by omega), hw]
theorem joined_f (l : List ByteArray) (hl : ∀ x ∈ l, x.size ≤ 400) (hn : l.length ≤ 1000) : ∃ r, Ev (fun k => tabularyref08_Joined.f k l) r :=
  joined_l0 l hl hn l.length 0 ⟨#[]⟩ (by omega) (by omega) (by decide)

/-! ### Lead -/
theorem lead_l1 (l : List (Nat × ByteArray)) (hl : ∀ x ∈ l, x.2.size ≤ 400) (hn : l.length ≤ 500) (d : Nat) : ∀ (i : Nat) (st : List ByteArray), l.length - i = d → i ≤ l.length →
    (∀ x ∈ st, x.size ≤ 400) → st.length ≤ 500 + i →
    ∃ r, Ev (fun k => tabularyref08_Lead.l1 k st (l.map s95) (i : Int)) (r, if (leadD st.length (l.drop i)).isNone then 83 else 0) := by
  induction d with
  | zero =>
    intro i st hd hi hs hc
    rw [List.drop_eq_nil_of_le (by omega)]
    obtain ⟨r, hr⟩ := joined_f st hs (by omega)
    refine ⟨r, Ev.step (f := fun k => (tabularyref08_Joined.f k st).bind fun t => some (t, 0)) (fun k => by simp only [tabularyref08_Lead.l1, List.length_map]; rw [if_neg (by omega)]) ?_⟩
    exact Ev.bind hr (ev_cast (by simp [leadD]) (Ev.now _))
  | succ d ih =>
    intro i st hd hi hs hc
    have hlt : i < l.length := by omega
    have hx := hl l[i] (List.getElem_mem hlt)
    have hw : wrap64 ((i : Int) + 1) = ((i + 1 : Nat) : Int) := wrap_in (by omega) (by omega)
    rw [List.drop_eq_getElem_cons hlt]
    generalize hq : l[i].2 = q at hx
    have hrd : (rd_T95 (l.map s95) (i : Int)).f1 = q := by rw [rd95 l i hlt, ← hq]; rfl
    -- what the round does behind its test
    have skip : q.size = 0 ∨ q.toList = [46] → ∃ r, Ev (fun k => tabularyref08_Lead.j2 k st (l.map s95) (i : Int) q true) (r, if (leadD st.length (l[i] :: l.drop (i + 1))).isNone then 83 else 0) := by
      intro h
      obtain ⟨r, hr⟩ := ih (i + 1) st (by omega) (by omega) hs (by omega)
      refine ⟨r, Ev.step (f := fun k => tabularyref08_Lead.l1 k st (l.map s95) ((i + 1 : Nat) : Int)) (fun k => by simp only [tabularyref08_Lead.j2, if_true]; rw [hw]) (ev_cast ?_ hr)⟩
      rw [leadD, hq, if_pos h]
    have go : ¬ (q.size = 0 ∨ q.toList = [46]) → ∃ r, Ev (fun k => tabularyref08_Lead.j2 k st (l.map s95) (i : Int) q false) (r, if (leadD st.length (l[i] :: l.drop (i + 1))).isNone then 83 else 0) := by
      intro h
      rw [leadD, hq, if_neg h]
      by_cases h2 : q.toList = [46, 46]
      · rw [if_pos h2]
        by_cases h3 : st.length = 0
        · refine ⟨(⟨#[]⟩ : ByteArray), Ev.step (f := fun _ => some ((⟨#[]⟩ : ByteArray), 83)) (fun k => ?_) (ev_cast (by simp [h3]) (Ev.now _))⟩
          simp only [tabularyref08_Lead.j2]
          rw [if_neg (by decide), if_pos h2, if_pos (by omega)]
        · rw [if_neg h3]
          have hwl : wrap64 ((st.length : Int) - 1) = ((st.length - 1 : Nat) : Int) := by rw [wrap_in (by omega) (by omega)]; omega
          obtain ⟨r, hr⟩ := ih (i + 1) (st.take (st.length - 1)) (by omega) (by omega) (fun x hx => hs x (List.mem_of_mem_take hx)) (by rw [List.length_take]; omega)
          refine ⟨r, Ev.step (f := fun k => tabularyref08_Lead.l1 k (st.take (st.length - 1)) (l.map s95) ((i + 1 : Nat) : Int)) (fun k => ?_) (ev_cast ?_ hr)⟩
          · simp only [tabularyref08_Lead.j2]
            rw [if_neg (by decide), if_pos h2, if_neg (by omega), if_pos (by omega), if_pos (by omega), hwl, hw]
            rfl
          · rw [List.length_take, Nat.min_eq_left (by omega)]
      · rw [if_neg h2]
        obtain ⟨r, hr⟩ := ih (i + 1) (st ++ [q]) (by omega) (by omega) (by
          intro x hx'
          rcases List.mem_append.1 hx' with hx' | hx'
          · exact hs x hx'
          · obtain rfl := List.mem_singleton.1 hx'; exact hx) (by simp; omega)
        refine ⟨r, Ev.step (f := fun k => tabularyref08_Lead.l1 k (st ++ [q]) (l.map s95) ((i + 1 : Nat) : Int)) (fun k => ?_) (ev_cast (by simp) hr)⟩
        simp only [tabularyref08_Lead.j2]
        rw [if_neg (by decide), if_neg h2, if_pos (by omega), hw]
    by_cases h0 : q.toList = []
    · obtain ⟨r, hr⟩ := skip (.inl ((size0 q).1 h0))
      refine ⟨r, Ev.step (f := fun k => tabularyref08_Lead.j2 k st (l.map s95) (i : Int) q true) (fun k => ?_) hr⟩
      simp only [tabularyref08_Lead.l1, List.length_map, hrd]
      rw [if_pos (by omega), if_pos (by omega), if_pos h0]
    by_cases h1 : q.toList = [46]
    · obtain ⟨r, hr⟩ := skip (.inr h1)
      refine ⟨r, Ev.step (f := fun k => tabularyref08_Lead.j2 k st (l.map s95) (i : Int) q true) (fun k => ?_) hr⟩
      simp only [tabularyref08_Lead.l1, List.length_map, hrd]
      rw [if_pos (by omega), if_pos (by omega), if_neg h0, beq_iff_eq.2 h1]
    · obtain ⟨r, hr⟩ := go (fun e => e.elim (fun e => h0 ((size0 q).2 e)) h1)
      refine ⟨r, Ev.step (f := fun k => tabularyref08_Lead.j2 k st (l.map s95) (i : Int) q false) (fun k => ?_) hr⟩
      simp only [tabularyref08_Lead.l1, List.length_map, hrd]
      rw [if_pos (by omega), if_pos (by omega), if_neg h0, beq_eq_false_iff_ne.2 h1]

theorem lead_l0 (b : ByteArray) (hb : b.size ≤ 400) (l : List (Nat × ByteArray)) (hl : ∀ x ∈ l, x.2.size ≤ 400) (hn : l.length ≤ 500) (h1 : 1 ≤ l.length) (d : Nat) : ∀ (i : Nat) (st : List ByteArray), l.length - 1 - i = d → i ≤ l.length - 1 →
    (∀ x ∈ st, x.size ≤ 400) → st.length = i →
    ∃ r, Ev (fun k => tabularyref08_Lead.l0 k b st (l.map s95) (i : Int)) (r, if (leadD (l.length - 1) (pcs b 0)).isNone then 83 else 0) := by
  induction d with
  | zero =>
    intro i st hd hi hs hc
    have hw : wrap64 ((i : Int) + 1) = ((i + 1 : Nat) : Int) := wrap_in (by omega) (by omega)
    have hpi := pcs_in b b.size 0 (by omega) (by omega)
    have hpl := pcs_length b b.size 0 (by omega) (by omega)
    obtain ⟨r, hr⟩ := lead_l1 (pcs b 0) (fun x hx => by have := hpi x hx; omega) (by omega) _ 0 st rfl (by omega) hs (by omega)
    refine ⟨r, Ev.step (f := fun k => (tabularyref08_Pieces.f k b).bind fun t => tabularyref08_Lead.l1 k st t 0) (fun k => by simp only [tabularyref08_Lead.l0, List.length_map]; rw [hw, if_neg (by omega)]) ?_⟩
    refine Ev.bind (pieces_f b hb) (ev_cast ?_ hr)
    rw [hc, List.drop_zero, show i = l.length - 1 by omega]
  | succ d ih =>
    intro i st hd hi hs hc
    have hlt : i < l.length := by omega
    have hx := hl l[i] (List.getElem_mem hlt)
    have hw : wrap64 ((i : Int) + 1) = ((i + 1 : Nat) : Int) := wrap_in (by omega) (by omega)
    obtain ⟨r, hr⟩ := ih (i + 1) (st ++ [l[i].2]) (by omega) (by omega) (by
      intro x hx'
      rcases List.mem_append.1 hx' with hx' | hx'
      · exact hs x hx'
      · obtain rfl := List.mem_singleton.1 hx'; exact hx) (by simp; omega)
    refine ⟨r, Ev.step (f := fun k => tabularyref08_Lead.l0 k b (st ++ [l[i].2]) (l.map s95) ((i + 1 : Nat) : Int)) (fun k => ?_) hr⟩
    simp only [tabularyref08_Lead.l0, List.length_map]
    rw [hw, if_pos (by omega), if_pos (by omega), if_pos (by omega), if_pos (by omega), rd95 l i hlt]
    rfl

theorem check_small {s : ByteArray} (h : (check s).2 = 0) : s.size ≤ 400 := by
  unfold check at h
  split at h
  · simp at h
  · omega
theorem pcs_pos (s : ByteArray) (i : Nat) : 1 ≤ (pcs s i).length := by
  rcases Int.lt_or_le (nxt s i) 0 with h | h
  · rw [pcs_last s i h]; simp
  · rw [pcs_more s i h]; simp

theorem lead_f (a b : ByteArray) : ∃ r, Ev (fun k => tabularyref08_Lead.f k a b) (r, leadErr a b) := by
  have key : ∃ r, Ev (fun k => if (check a).2 = 0 then (if b.toList = ([] : List UInt8) then (some ((⟨#[]⟩ : ByteArray), (80 : Int))) else (if (b.size : Int) > 400 then (some ((⟨#[]⟩ : ByteArray), 2)) else ((tabularyref08_Nul.f k b).bind fun t140 => (if t140 ≥ 0 then (some ((⟨#[]⟩ : ByteArray), 82)) else (if 0 < (b.size : Int) then (if (bt b 0) = 47 then (some ((⟨#[]⟩ : ByteArray), 83)) else ((tabularyref08_Pieces.f k a).bind fun t141 => (tabularyref08_Lead.l0 k b ([] : List ByteArray) t141 0))) else (none)))))) else (some ((⟨#[]⟩ : ByteArray), (check a).2))) (r, leadErr a b) := by
    unfold leadErr
    by_cases hc : (check a).2 = 0
    · rw [if_neg (by simpa using hc)]
      by_cases h0 : b.size = 0
      · exact ⟨_, Ev.congr (fun k => by rw [if_pos hc, if_pos ((size0 b).2 h0)]) (ev_cast (by rw [if_pos h0]) (Ev.now _))⟩
      rw [if_neg h0]
      have h0' : ¬ b.toList = [] := fun e => h0 ((size0 b).1 e)
      by_cases h1 : 400 < b.size
      · exact ⟨_, Ev.congr (fun k => by rw [if_pos hc, if_neg h0', if_pos (by omega)]) (ev_cast (by rw [if_pos h1]) (Ev.now _))⟩
      rw [if_neg h1]
      have hsm := check_small hc
      by_cases h2 : 0 ≤ ixb b 0
      · refine ⟨_, Ev.congr (fun k => by rw [if_pos hc, if_neg h0', if_neg (by omega)]) (Ev.bind (nul_f b (by omega)) (Ev.congr (fun k => by rw [if_pos h2]) (ev_cast (by rw [if_pos h2]) (Ev.now _))))⟩
      rw [if_neg h2]
      have hhd : b.toList.head? = some 47 ↔ bt b 0 = 47 := by
        have := bt_is b 0 (by omega) 47
        rw [show bt b 0 = bt b ((0 : Nat) : Int) from rfl]
        refine Iff.trans ?_ this.symm
        rw [Lib.toList_data]
        have hd := drop_at b 0 (by omega)
        rw [List.drop_zero] at hd
        rw [hd]; simp
      by_cases h3 : bt b 0 = 47
      · refine ⟨_, Ev.congr (fun k => by rw [if_pos hc, if_neg h0', if_neg (by omega)]) (Ev.bind (nul_f b (by omega)) (Ev.congr (fun k => by rw [if_neg (by omega), if_pos (by omega), if_pos h3]) (ev_cast (by rw [if_pos (hhd.2 h3)]) (Ev.now _))))⟩
      rw [if_neg (fun e => h3 (hhd.1 e))]
      have hpi := pcs_in a a.size 0 (by omega) (by omega)
      have hpl := pcs_length a a.size 0 (by omega) (by omega)
      have hpp := pcs_pos a 0
      obtain ⟨r, hr⟩ := lead_l0 b (by omega) (pcs a 0) (fun x hx => by have := hpi x hx; omega) (by omega) hpp _ 0 [] rfl (by omega) (by simp) rfl
      refine ⟨r, Ev.congr (fun k => by rw [if_pos hc, if_neg h0', if_neg (by omega)]) (Ev.bind (nul_f b (by omega)) (Ev.congr (fun k => by rw [if_neg (by omega), if_pos (by omega), if_neg h3]) (Ev.bind (pieces_f a hsm) hr)))⟩
    · exact ⟨_, Ev.congr (fun k => by rw [if_neg hc]) (ev_cast (by rw [if_pos (by simpa using hc)]) (Ev.now _))⟩
  obtain ⟨r, hr⟩ := key
  exact ⟨r, Ev.congr (fun k => by unfold tabularyref08_Lead.f; rfl) (Ev.bind (check_f a) hr)⟩

end Go.Proofs.YtlinghjgnomflaaDoor.Q
