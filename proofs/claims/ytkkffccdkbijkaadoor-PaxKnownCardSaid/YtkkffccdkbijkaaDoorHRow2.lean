/- For the rows of the laws: a row of pairs, a row of bytes that came in. -/
import Derived.Test.YtkkffccdkbijkaaDoorHRow
import Derived.Test.YtkkffccdkbijkaaDoorIx0
import Derived.Test.YtkkffccdkbijkaaDoorWSized
import Derived.Deep.SlicePairs
namespace Go.Proofs.YtkkffccdkbijkaaDoor.R
open Go.ChangeShapes Go.WideShapes Go.ChangeAt Go.RowKit Go.Joins Go.Deep
open Go.Proofs.YtkkffccdkbijkaaDoor.H Go.Proofs.YtkkffccdkbijkaaDoor.I Go.Proofs.YtkkffccdkbijkaaDoorW.PrintWords
set_option linter.unusedVariables false

/-- So many pairs, read one by one. -/
theorem pairs_upto {H : Type} {enc : TypeId × Value → H} {W : World} {a : Addr} {n : Nat} {V0 V1 : Nat → Value} {D0 D1 : Nat → DataW H} {P0 P1 : Nat → List MemPlace} (len : Nat)
    (h : ∀ i, i < len → W.cell? (a.add (i * 2)) = some (V0 i) ∧ W.cell? (a.add (i * 2 + 1)) = some (V1 i) ∧ DataW.trod enc Tryd.prog W 0 (fun _ => true) true n 9 [V0 i] = some (D0 i, P0 i) ∧ DataW.trod enc Tryd.prog W 0 (fun _ => true) true n 9 [V1 i] = some (D1 i, P1 i)) :
    ∃ l : List S32, l.length = len ∧ ∀ i p, l[i]? = some p → W.cell? (a.add (i * 2)) = some (.string p.f0) ∧ W.cell? (a.add (i * 2 + 1)) = some (.string p.f1) := by
  induction len with
  | zero => exact ⟨[], rfl, fun i p h => by simp at h⟩
  | succ len ih =>
    obtain ⟨l, hl, hc⟩ := ih (fun i hi => h i (by omega))
    obtain ⟨c0, c1, t0, t1⟩ := h len (by omega)
    obtain ⟨s, e0, -, -⟩ := DataW.trod_string Tryd.underlying9 t0
    obtain ⟨s', e1, -, -⟩ := DataW.trod_string Tryd.underlying9 t1
    have f0 : V0 len = .string s := by simpa using e0
    have f1 : V1 len = .string s' := by simpa using e1
    rw [f0] at c0
    rw [f1] at c1
    refine ⟨l ++ [⟨s, s'⟩], by rw [List.length_append, hl]; rfl, fun i p hp => ?_⟩
    rcases Nat.lt_or_ge i len with hi | hi
    · rw [List.getElem?_append_left (by omega)] at hp
      exact hc i p hp
    · have hi2 : i = len := by
        have := (List.getElem?_eq_some_iff.1 hp).1
        rw [List.length_append, hl, List.length_singleton] at this
        omega
      subst hi2
      rw [← hl, List.getElem?_concat_length] at hp
      obtain rfl := Option.some.inj hp
      exact ⟨c0, c1⟩
set_option maxRecDepth 100000 in
/-- A row of pairs that came in. -/
theorem open_pairs {H : Type} {enc : TypeId × Value → H} {W : World} {base : Nat} {v : Value} {d : DataW H} {p : List MemPlace} (hv : Value.okWide Tryd.prog W .any base 22 v) (h : DataW.Trod enc Tryd.prog W 0 (fun _ => true) true 22 v d p)
    (hsz : ∀ n ∈ DataW.weights Tryd.prog 22 d, n ≤ reachBytes) :
    ∃ (A : Option Addr) (c : Nat) (l : List S32), v = .slice A l.length c ∧ l.length ≤ c ∧ l.length * 32 ≤ 140737488351232 ∧ Kd.C k32 W A l.length l := by
  obtain ⟨a, len, cap, rfl⟩ := okWide_slice Tryd.underlying22 hv
  obtain ⟨fuel, hf⟩ := h
  rcases open_slice_pairs Tryd.underlying22 Tryd.underlying32 cells2 rfl rfl (by kernel_rfl) (by kernel_rfl) hf with ⟨hcs, _⟩ | ⟨x, l, c, m, n, V0, V1, D0, D1, P0, P1, hcs, _, hl, hm, hmm, hx, hi⟩
  · simp [Value.cells] at hcs
    obtain ⟨rfl, rfl, rfl⟩ := hcs
    exact ⟨none, 0, [], rfl, Nat.le_refl _, by decide, Kd.C_nil _ _⟩
  · simp [Value.cells] at hcs
    obtain ⟨rfl, rfl, rfl⟩ := hcs
    rw [if_pos rfl] at hmm
    subst hmm
    obtain ⟨ps, hpl, hpc⟩ := pairs_upto len (fun i h => hi i (by omega))
    injection hx with hd _
    subst hd
    have z := hsz ((len + (m - len)) * 32) (by
      have hb : Tryd.prog.bytesOf 32 = 32 := by kernel_rfl
      simp [DataW.weights, Tryd.underlying22, hb])
    have hmx : len ≤ 9223372036854775807 := by unfold maxLen at hm; omega
    subst hpl
    refine ⟨some x, m, ps, rfl, by omega, by unfold reachBytes at z; omega, rfl, hmx, fun _ => ⟨x, rfl, fun j p hj => ?_⟩⟩
    obtain ⟨k0, k1⟩ := hpc j p hj
    refine ⟨[.string p.f0, .string p.f1], rfl, k32_mk _ _, fun i u hu => ?_⟩
    have hi2 : i < 2 := (List.getElem?_eq_some_iff.1 hu).1
    rcases (show i = 0 ∨ i = 1 by omega) with rfl | rfl
    · obtain rfl : Value.string p.f0 = u := by simpa using hu
      exact k0
    · obtain rfl : Value.string p.f1 = u := by simpa using hu
      exact k1
set_option maxRecDepth 100000 in
/-- A row of bytes that came in. -/
theorem open_bytes {H : Type} {enc : TypeId × Value → H} {W : World} {base : Nat} {v : Value} {d : DataW H} {p : List MemPlace} {ts : List TypeId} {ds : List (DataW H)} {j : Nat} (hv : Value.okWide Tryd.prog W .any base 35 v) (h : DataW.Trod enc Tryd.prog W 0 (fun _ => true) true 35 v d p)
    (hsz : (DataW.weightsEach Tryd.prog ts ds).all (· ≤ reachBytes) = true) (hts : ts[j]? = some 35) (hds : ds[j]? = some d) :
    ∃ (A : Option Addr) (c : Nat) (l : List Int), v = .slice A l.length c ∧ l.length ≤ c ∧ l.length ≤ 140737488351232 ∧ (∀ x ∈ l, 0 ≤ x ∧ x < 256) ∧ Kd.C (Kd.int .u8) W A l.length l := by
  obtain ⟨a, len, cap, rfl⟩ := okWide_slice Tryd.underlying35 hv
  have z := sized_ints hsz hts hds Tryd.underlying35 Tryd.underlying5 (by kernel_rfl) (B := 1) (by kernel_rfl) h
  obtain ⟨fuel, hf⟩ := h
  obtain ⟨zs, hrow⟩ : ∃ zs : List Int, (a = none ∧ len = 0 ∧ cap = 0 ∧ zs = []) ∨ ∃ x, a = some x ∧ len ≤ cap ∧ cap ≤ maxLen ∧ zs.length = cap ∧ (∀ i, i < zs.length → W.cell? (x.add i) = some (.int .u8 (zs.getD i 0))) ∧ ∀ n ∈ zs, (Lit.int .u8 n).wf = true := by
    rcases open_ints Tryd.underlying35 Tryd.underlying5 (by kernel_rfl) hf with ⟨hcs, _⟩ | ⟨x, l, c, zs, hcs, _, hl, hm, hz, _, hcell, hwz⟩
    · simp [Value.cells] at hcs
      obtain ⟨rfl, rfl, rfl⟩ := hcs
      exact ⟨[], .inl ⟨rfl, rfl, rfl, rfl⟩⟩
    · simp [Value.cells] at hcs
      obtain ⟨rfl, rfl, rfl⟩ := hcs
      exact ⟨zs, .inr ⟨_, rfl, hl, hm, by simpa using hz, hcell, hwz⟩⟩
  obtain ⟨l, rfl, hr, hm, hw, hc⟩ := ReadsInt.ofRowC hrow
  refine ⟨a, cap, l, rfl, hc, by omega, fun x hx => ?_, Kd.C_of_reads (d := (0 : Int)) (h1 := fun _ => rfl) hr⟩
  have := hw x hx
  simp [Lit.wf] at this
  have h1 : IntKind.u8.min = 0 := rfl
  have h2 : IntKind.u8.max = 255 := rfl
  omega
end Go.Proofs.YtkkffccdkbijkaaDoor.R
