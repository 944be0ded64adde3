/- Both Splits and both Pairs, as printed; the law in plain Lean. -/
import Derived.Test.YtlinghjgnomflaaDoorHPure3
namespace Go.Proofs.YtlinghjgnomflaaDoor.Q
open Go.RowKit Go.Proofs.YtlinghjgnomflaaDoor.H Go.Proofs.YtlinghjgnomflaaDoorW.PrintWords Go.Proofs.YtlinghjgnomflaaDoorW.PrintLast Go.Proofs.YtlinghjgnomflaaDoorW.PrintMore
set_option linter.unusedSimpArgs false

/-- Where a byte lies last. -/
def Lst (t : ByteArray) (c : UInt8) (r : Int) : Prop :=
  (r = -1 ∧ ∀ j (h : j < t.size), t[j] ≠ c) ∨ ∃ j, ∃ h : j < t.size, r = (j : Int) ∧ t[j] = c ∧ ∀ j' (h' : j' < t.size), j < j' → t[j'] ≠ c
theorem lix_l0 (t : ByteArray) (ht : t.size ≤ 400) (c : UInt8) : ∀ n : Nat, n ≤ t.size → (∀ j (h : j < t.size), n ≤ j → t[j] ≠ c) →
    ∃ r, Ev (fun k => bytealg_LastIndexByteString.l0 k t (c.toNat : Int) ((n : Int) - 1)) r ∧ Lst t c r := by
  intro n
  induction n with
  | zero =>
    intro _ hn
    exact ⟨-1, Ev.step (f := fun _ => some (-1)) (fun k => by simp only [bytealg_LastIndexByteString.l0]; rw [if_neg (by omega)]) (Ev.now _), .inl ⟨rfl, fun j h => hn j h (by omega)⟩⟩
  | succ n ih =>
    intro hi hn
    have hlt : n < t.size := by omega
    have hb := bt_is t n hlt c
    have he : ((n + 1 : Nat) : Int) - 1 = (n : Int) := by omega
    rw [he]
    by_cases h : t[n] = c
    · refine ⟨(n : Int), Ev.step (f := fun _ => some (n : Int)) (fun k => ?_) (Ev.now _), .inr ⟨n, hlt, rfl, h, fun j' h' hj => hn j' h' (by omega)⟩⟩
      simp only [bytealg_LastIndexByteString.l0]
      rw [if_pos (by omega), if_pos (by omega), if_pos (by omega), if_pos (hb.2 h)]
    · obtain ⟨r, hr, hL⟩ := ih (by omega) (fun j hj hx => by
        rcases Nat.lt_or_ge n j with h4 | h4
        · exact hn j hj (by omega)
        · obtain rfl : j = n := by omega
          exact h)
      refine ⟨r, Ev.step (f := fun k => bytealg_LastIndexByteString.l0 k t (c.toNat : Int) ((n : Int) - 1)) (fun k => ?_) hr, hL⟩
      simp only [bytealg_LastIndexByteString.l0]
      rw [if_pos (by omega), if_pos (by omega), if_pos (by omega), if_neg (fun e => h (hb.1 e)), wrap_in (by omega) (by omega)]
theorem lix_f (t : ByteArray) (ht : t.size ≤ 400) : ∃ r, Ev (fun k => strings_LastIndexByte.f k t 47) r ∧ Lst t 47 r := by
  obtain ⟨r, hr, hL⟩ := lix_l0 t ht 47 t.size (Nat.le_refl _) (fun j h h' => absurd h (by omega))
  refine ⟨r, ?_, hL⟩
  unfold strings_LastIndexByte.f
  refine Ev.bind (a := r) ?_ (Ev.now _)
  refine Ev.congr (fun k => ?_) hr
  unfold bytealg_LastIndexByteString.f
  rw [wrap_in (by omega) (by omega)]
  rfl

/-- A place where a long path parts. -/
def Parts (s : ByteArray) : Prop := ∃ i, ∃ h : i < s.size, i ≤ 155 ∧ s[i] = 47 ∧ s.size ≤ i + 101
open Classical in
noncomputable def splitErr (s : ByteArray) : Int := if (check s).2 ≠ 0 then (check s).2 else if s.size ≤ 100 then 0 else if Parts s then 0 else 2

theorem ext_at (s : ByteArray) (m i : Nat) (hm : m ≤ s.size) (h : i < (s.extract 0 m).size) : (s.extract 0 m)[i] = s[i]'(by simp at h; omega) := by
  simp [ByteArray.getElem_extract]

def nsRest (s : ByteArray) (r : Int) : Option (ByteArray × ByteArray × Int) :=
  (if r < 0 then (some ((⟨#[]⟩ : ByteArray), (⟨#[]⟩ : ByteArray), (2 : Int))) else (if (wrap64 ((wrap64 ((s.size : Int) - r)) - 1)) > 100 then (some ((⟨#[]⟩ : ByteArray), (⟨#[]⟩ : ByteArray), 2)) else (if 0 ≤ r then (if r ≤ (s.size : Int) then (if 0 ≤ (wrap64 (r + 1)) then (if (wrap64 (r + 1)) ≤ (s.size : Int) then (some (s.extract 0 (r : Int).toNat, s.extract ((wrap64 (r + 1)) : Int).toNat s.size, 0)) else (none)) else (none)) else (none)) else (none))))
theorem name_split_f (s : ByteArray) : ∃ a b, Ev (fun k => name_Split.f k s) (a, b, splitErr s) := by
  unfold splitErr
  by_cases hc : (check s).2 = 0
  · rw [if_neg (by simpa using hc)]
    have hsm := check_small hc
    by_cases h1 : s.size ≤ 100
    · rw [if_pos h1]
      refine ⟨⟨#[]⟩, s, Ev.congr (fun k => ?_) (Ev.now _)⟩
      unfold name_Split.f name_Check.f
      rw [Option.bind_some, if_pos hc, if_pos (by omega)]
    rw [if_neg h1]
    obtain ⟨m, hm⟩ : ∃ m : Nat, mn (s.size : Int) 156 = (m : Int) ∧ m ≤ s.size ∧ m ≤ 156 ∧ (m = s.size ∨ m = 156) := by
      unfold mn
      by_cases h : (156 : Int) < (s.size : Int)
      · exact ⟨156, by rw [if_pos h]; rfl, by omega, by omega, .inr rfl⟩
      · exact ⟨s.size, by rw [if_neg h], by omega, by omega, .inl rfl⟩
    obtain ⟨hm, hm1, hm2, hm3⟩ := hm
    have hes : (s.extract 0 m).size = m := by simp; omega
    obtain ⟨r, hr, hL⟩ := lix_f (s.extract 0 m) (by omega)
    have hF : ∀ (x : ByteArray × ByteArray × Int), Ev (fun _ => nsRest s r) x → Ev (fun k => name_Split.f k s) x := by
      intro x hx
      refine Ev.congr (fun k => ?_) (Ev.bind (g := fun k => strings_LastIndexByte.f k (s.extract 0 m) 47) (f := fun _ r => nsRest s r) hr hx)
      unfold name_Split.f name_Check.f
      rw [Option.bind_some, if_pos hc, if_neg (by omega), hm, if_pos (by omega), if_pos (by omega)]
      rfl
    rcases hL with ⟨rfl, hn⟩ | ⟨j, hj, rfl, hj1, hj2⟩
    · have hnp : ¬ Parts s := by
        rintro ⟨i, h, h5, h6, h7⟩
        have := hn i (by omega)
        rw [ext_at s m i hm1] at this
        exact this h6
      rw [if_neg hnp]
      exact ⟨⟨#[]⟩, ⟨#[]⟩, hF _ (Ev.congr (fun k => by unfold nsRest; rw [if_pos (by decide)]) (Ev.now _))⟩
    · have hjm : j < m := by omega
      rw [ext_at s m j hm1] at hj1
      have hw : wrap64 ((wrap64 ((s.size : Int) - j)) - 1) = (s.size : Int) - j - 1 := by rw [wrap_in (x := (s.size : Int) - j) (by omega) (by omega), wrap_in (by omega) (by omega)]
      have hw1 : wrap64 ((j : Int) + 1) = (j : Int) + 1 := wrap_in (by omega) (by omega)
      by_cases h8 : s.size ≤ j + 101
      · have hp : Parts s := ⟨j, by omega, by omega, hj1, h8⟩
        rw [if_pos hp]
        exact ⟨s.extract 0 ((j : Int)).toNat, s.extract ((j : Int) + 1).toNat s.size, hF _ (Ev.congr (fun k => by unfold nsRest; rw [if_neg (by omega), hw, if_neg (by omega), if_pos (by omega), if_pos (by omega), hw1, if_pos (by omega), if_pos (by omega)]) (Ev.now _))⟩
      · have hnp : ¬ Parts s := by
          rintro ⟨i, h, h5, h6, h7⟩
          have hi : i < (s.extract 0 m).size := by omega
          have := hj2 i hi (by omega)
          rw [ext_at s m i hm1] at this
          exact this h6
        rw [if_neg hnp]
        exact ⟨⟨#[]⟩, ⟨#[]⟩, hF _ (Ev.congr (fun k => by unfold nsRest; rw [if_neg (by omega), hw, if_pos (by omega)]) (Ev.now _))⟩
  · rw [if_pos (by simpa using hc)]
    refine ⟨⟨#[]⟩, ⟨#[]⟩, Ev.congr (fun k => ?_) (Ev.now _)⟩
    unfold name_Split.f name_Check.f
    rw [Option.bind_some, if_neg hc]

theorem ref_split_l0 (s : ByteArray) (hs : s.size ≤ 400) (h1 : ¬ s.size ≤ 100) : ∀ n : Nat, n ≤ s.size → (∀ i (h : i < s.size), n ≤ i → ¬ (i ≤ 155 ∧ s[i] = 47 ∧ s.size ≤ i + 101)) →
    ∃ a b, Ev (fun k => tabularyref08_Split.l0 k s ((n : Int) - 1)) (a, b, (open Classical in if Parts s then (0 : Int) else 2)) := by
  intro n
  induction n with
  | zero =>
    intro _ hn
    rw [if_neg (by rintro ⟨i, h, hh⟩; exact hn i h (by omega) hh)]
    exact ⟨⟨#[]⟩, ⟨#[]⟩, Ev.step (f := fun _ => some ((⟨#[]⟩ : ByteArray), (⟨#[]⟩ : ByteArray), 2)) (fun k => by simp only [tabularyref08_Split.l0]; rw [if_neg (by omega)]) (Ev.now _)⟩
  | succ n ih =>
    intro hi hn
    have hlt : n < s.size := by omega
    have hb := bt_is s n hlt 47
    have hb' : bt s (n : Int) = 47 ↔ s[n] = 47 := hb
    have he : ((n + 1 : Nat) : Int) - 1 = (n : Int) := by omega
    rw [he]
    have hw : wrap64 ((wrap64 ((s.size : Int) - n)) - 1) = (s.size : Int) - n - 1 := by rw [wrap_in (x := (s.size : Int) - n) (by omega) (by omega), wrap_in (by omega) (by omega)]
    have hw1 : wrap64 ((n : Int) + 1) = (n : Int) + 1 := wrap_in (by omega) (by omega)
    have hw2 : wrap64 ((n : Int) - 1) = (n : Int) - 1 := wrap_in (by omega) (by omega)
    by_cases h : n ≤ 155 ∧ s[n] = 47 ∧ s.size ≤ n + 101
    · obtain ⟨ha, hbb, hcc⟩ := h
      have hp : Parts s := ⟨n, hlt, ha, hbb, hcc⟩
      rw [if_pos hp]
      refine ⟨s.extract 0 ((n : Int)).toNat, s.extract ((n : Int) + 1).toNat s.size, Ev.step (f := fun _ => some (s.extract 0 ((n : Int)).toNat, s.extract ((n : Int) + 1).toNat s.size, 0)) (fun k => ?_) (Ev.now _)⟩
      simp only [tabularyref08_Split.l0]
      rw [if_pos (by omega), if_pos (by omega), if_pos (by omega), if_pos (hb'.2 hbb), if_pos (by omega), hw, if_pos (by omega), if_pos (by omega), hw1, if_pos (by omega), if_pos (by omega)]
    · obtain ⟨a, b, hr⟩ := ih (by omega) (fun j hj hx => by
        rcases Nat.lt_or_ge n j with h4 | h4
        · exact hn j hj (by omega)
        · obtain rfl : j = n := by omega
          exact h)
      refine ⟨a, b, Ev.step (f := fun k => tabularyref08_Split.l0 k s ((n : Int) - 1)) (fun k => ?_) hr⟩
      simp only [tabularyref08_Split.l0]
      rw [if_pos (by omega), if_pos (by omega), if_pos (by omega), hw, hw2]
      by_cases ha : s[n] = 47
      · rw [if_pos (hb'.2 ha)]
        by_cases hbb : n ≤ 155
        · rw [if_pos (by omega), if_neg (fun e => h ⟨hbb, ha, by omega⟩)]
        · rw [if_neg (by omega)]
      · rw [if_neg (fun e => ha (hb'.1 e))]
theorem ref_split_f (s : ByteArray) : ∃ a b, Ev (fun k => tabularyref08_Split.f k s) (a, b, splitErr s) := by
  unfold splitErr
  have hF : ∀ (x : ByteArray × ByteArray × Int), Ev (fun k => (if (check s).2 = 0 then (if (s.size : Int) ≤ 100 then (some ((⟨#[]⟩ : ByteArray), s, (0 : Int))) else (tabularyref08_Split.l0 k s (wrap64 ((s.size : Int) - 1)))) else (some ((⟨#[]⟩ : ByteArray), (⟨#[]⟩ : ByteArray), (check s).2)))) x → Ev (fun k => tabularyref08_Split.f k s) x := by
    intro x hx
    exact Ev.congr (fun k => by unfold tabularyref08_Split.f; rfl) (Ev.bind (g := fun k => tabularyref08_Check.f k s) (f := fun k e => if e.2 = 0 then (if (s.size : Int) ≤ 100 then (some ((⟨#[]⟩ : ByteArray), s, (0 : Int))) else (tabularyref08_Split.l0 k s (wrap64 ((s.size : Int) - 1)))) else (some ((⟨#[]⟩ : ByteArray), (⟨#[]⟩ : ByteArray), e.2))) (check_f s) hx)
  by_cases hc : (check s).2 = 0
  · rw [if_neg (by simpa using hc)]
    have hsm := check_small hc
    by_cases h1 : s.size ≤ 100
    · rw [if_pos h1]
      exact ⟨⟨#[]⟩, s, hF _ (Ev.congr (fun k => by rw [if_pos hc, if_pos (by omega)]) (Ev.now _))⟩
    rw [if_neg h1]
    obtain ⟨a, b, hr⟩ := ref_split_l0 s hsm h1 s.size (Nat.le_refl _) (fun i h h' => absurd h (by omega))
    exact ⟨a, b, hF _ (Ev.congr (fun k => by rw [if_pos hc, if_neg (by omega), wrap_in (by omega) (by omega)]) hr)⟩
  · rw [if_pos (by simpa using hc)]
    exact ⟨⟨#[]⟩, ⟨#[]⟩, hF _ (Ev.congr (fun k => by rw [if_neg hc]) (Ev.now _))⟩
theorem cut_f (s : ByteArray) : Ev (fun k => tabularyref12_cut.f k s) (splitErr s == 0) := by
  obtain ⟨a, b, h⟩ := ref_split_f s
  exact Ev.congr (fun k => by unfold tabularyref12_cut.f; rfl) (Ev.bind h (Ev.now _))

/-! ### Pairs -/
def kLink : ByteArray := ⟨#[108, 105, 110, 107, 112, 97, 116, 104]⟩
def kPath : ByteArray := ⟨#[112, 97, 116, 104]⟩
def linkPairs (l : ByteArray) : List S33 := if 100 < l.size then [⟨kLink, l⟩] else []
noncomputable def pairsIs (p : ByteArray) (e : Int) (l : ByteArray) : List S33 × Int :=
  if e = 0 then ((if splitErr p = 0 then linkPairs l else linkPairs l ++ [⟨kPath, p⟩]), 0) else ([], e)
theorem link_len (l : ByteArray) : (linkPairs l).length ≤ 1 := by unfold linkPairs; split <;> simp
theorem api_pair_is (l : List S33) : api_Pair.f l = some l := rfl

theorem pack_pairs_f (p : ByteArray) (kd m t : Int) (L : List Int) (l : ByteArray) : Ev (fun k => pack_Pairs.f k p kd m t L l) (pairsIs p (mayErr p kd m t L.length l) l) := by
  unfold pairsIs
  by_cases he : mayErr p kd m t L.length l = 0
  · rw [if_pos he]
    obtain ⟨a, b, hs⟩ := name_split_f p
    have hj : Ev (fun k => pack_Pairs.j0 k (linkPairs l) p kd m t L l) ((if splitErr p = 0 then linkPairs l else linkPairs l ++ [⟨kPath, p⟩]), 0) := by
      have hk := link_len l
      refine Ev.step (f := fun k => (name_Split.f k p).bind fun x => if x.2.2 = 0 then some (linkPairs l, 0) else some (linkPairs l ++ [⟨kPath, p⟩], 0)) (fun k => ?_) (Ev.bind hs ?_)
      · simp only [pack_Pairs.j0, api_pair_is, Option.bind_some]
        rw [if_pos (show (linkPairs l).length < 4398046511104 by omega)]
        rfl
      · by_cases h : splitErr p = 0
        · rw [if_pos h]; exact Ev.congr (fun k => by rw [if_pos h]) (Ev.now _)
        · rw [if_neg h]; exact Ev.congr (fun k => by rw [if_neg h]) (Ev.now _)
    refine Ev.congr (fun k => ?_) hj
    unfold pack_Pairs.f tree_May.f
    rw [Option.bind_some, if_pos he]
    unfold linkPairs
    by_cases h : 100 < l.size
    · rw [if_pos (by omega), if_pos (by decide), if_pos h]; rfl
    · rw [if_neg (by omega), if_neg h]
  · rw [if_neg he]
    refine Ev.congr (fun k => ?_) (Ev.now _)
    unfold pack_Pairs.f tree_May.f
    rw [Option.bind_some, if_neg he]

theorem ref_pairs_f (p : ByteArray) (kd m t : Int) (L : List Int) (l : ByteArray) : Ev (fun k => tabularyref12_Pairs.f k p kd m t L l) (pairsIs p (mayErr p kd m t L.length l) l) := by
  have hF : ∀ x, Ev (fun k => if mayErr p kd m t L.length l = 0 then (tabularyref12_cut.f k p).bind (fun c => if c = true then some (linkPairs l, (0 : Int)) else some (linkPairs l ++ [⟨kPath, p⟩], 0)) else some (([] : List S33), mayErr p kd m t L.length l)) x → Ev (fun k => tabularyref12_Pairs.f k p kd m t L l) x := by
    intro x hx
    refine Ev.congr (fun k => ?_) (Ev.bind (g := fun k => tabularyref11_May.f k p kd m t L l) (f := fun k e => if e = 0 then (tabularyref12_cut.f k p).bind (fun c => if c = true then some (linkPairs l, (0 : Int)) else some (linkPairs l ++ [⟨kPath, p⟩], 0)) else some (([] : List S33), e)) (may_f p kd m t L l) hx)
    unfold tabularyref12_Pairs.f linkPairs
    congr 1; funext e
    by_cases he : e = 0
    · rw [if_pos he, if_pos he]
      by_cases h : 100 < l.size
      · rw [if_pos (show (l.size : Int) > 100 by omega), if_pos (by decide), if_pos h, Option.bind_some]
        congr 1
      · rw [if_neg (show ¬ (l.size : Int) > 100 by omega), if_neg h]
        congr 1
    · rw [if_neg he, if_neg he]
  refine hF _ ?_
  unfold pairsIs
  by_cases he : mayErr p kd m t L.length l = 0
  · rw [if_pos he]
    refine Ev.congr (fun k => by rw [if_pos he]) (Ev.bind (cut_f p) ?_)
    by_cases h : splitErr p = 0
    · rw [if_pos h]; exact Ev.congr (fun k => by rw [if_pos (by simpa using h)]) (Ev.now _)
    · rw [if_neg h]; exact Ev.congr (fun k => by rw [if_neg (by simpa using h)]) (Ev.now _)
  · rw [if_neg he]; exact Ev.congr (fun k => by rw [if_neg he]) (Ev.now _)

/-! ### The law -/
theorem check_a : (check ⟨#[97]⟩).2 = 0 := by
  have h : ckList (pcs ⟨#[97]⟩ 0) = (0, 0) := by
    rw [pcs_last _ 0 (by decide)]
    kernel_rfl
  unfold check
  rw [if_neg (by decide), h]
theorem may_a : mayErr ⟨#[97]⟩ 0 0 0 0 ⟨#[]⟩ = 1 := by
  unfold mayErr
  rw [if_neg (by simpa using check_a), if_neg (by decide), if_neg (by decide), if_neg (by decide), if_neg (by decide)]

theorem law_l0 (x : List S33) (hx : x.length ≤ 2) (d : Nat) : ∀ i : Nat, x.length - i = d → i ≤ x.length → Ev (fun k => tabularylaw12_PackPairs.l0 k x x (i : Int)) true := by
  induction d with
  | zero =>
    intro i hd hi
    refine Ev.step (f := fun k => (pack_Pairs.f k (⟨#[97]⟩ : ByteArray) 0 0 0 ([] : List Int) (⟨#[]⟩ : ByteArray)).bind fun b => some (b.2 == 1)) (fun k => by simp only [tabularylaw12_PackPairs.l0]; rw [if_neg (by omega)]) ?_
    refine Ev.bind (pack_pairs_f _ 0 0 0 [] _) (ev_cast ?_ (Ev.now _))
    rw [show ([] : List Int).length = 0 from rfl, may_a]; rfl
  | succ d ih =>
    intro i hd hi
    refine Ev.step (f := fun k => tabularylaw12_PackPairs.l0 k x x ((i + 1 : Nat) : Int)) (fun k => ?_) (ih (i + 1) (by omega) (by omega))
    simp only [tabularylaw12_PackPairs.l0]
    rw [if_pos (by omega), if_pos (by omega), if_pos (by omega), if_neg (by simp), wrap_in (by omega) (by omega)]
    rfl
theorem law_true (p : ByteArray) (kd m t : Int) (L : List Int) (l : ByteArray) : ∃ k, tabularylaw12_PackPairs.f k p kd m t L l = some true := by
  refine Ev.rounds (g := fun k => tabularylaw12_PackPairs.f k p kd m t L l) ?_
  obtain ⟨x, hx⟩ : ∃ x, x = pairsIs p (mayErr p kd m t L.length l) l := ⟨_, rfl⟩
  have hlen : x.1.length ≤ 2 := by
    rw [hx]; unfold pairsIs
    have := link_len l
    split
    · split
      · show (linkPairs l).length ≤ 2; omega
      · show (linkPairs l ++ [_]).length ≤ 2; simp; omega
    · simp
  have h1 := pack_pairs_f p kd m t L l
  have h2 := ref_pairs_f p kd m t L l
  rw [← hx] at h1 h2
  refine Ev.congr (fun k => by unfold tabularylaw12_PackPairs.f; rfl) (Ev.bind h1 (Ev.bind h2 ?_))
  refine Ev.congr (f := fun k => tabularylaw12_PackPairs.j0 k x.1 x.1 false) (fun k => by rw [if_pos rfl]; simp) ?_
  exact Ev.step (f := fun k => tabularylaw12_PackPairs.l0 k x.1 x.1 0) (fun k => by simp only [tabularylaw12_PackPairs.j0]; rw [if_neg (by decide)]) (law_l0 x.1 hlen _ 0 rfl (by omega))
end Go.Proofs.YtlinghjgnomflaaDoor.Q
