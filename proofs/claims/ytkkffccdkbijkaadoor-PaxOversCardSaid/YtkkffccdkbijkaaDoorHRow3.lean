/- The keys of a row of pairs that came in are no longer than a string may be. -/
import Derived.Test.YtkkffccdkbijkaaDoorHRow2
import Derived.Test.YtkkffccdkbijkaaDoorHPaxP
namespace Go.Proofs.YtkkffccdkbijkaaDoor.H
open Go.ChangeShapes Go.WideShapes Go.ChangeAt Go.RowKit Go.Joins Go.Deep
open Go.Proofs.YtkkffccdkbijkaaDoor.I Go.Proofs.YtkkffccdkbijkaaDoor.R Go.Proofs.YtkkffccdkbijkaaDoorW.PrintWords
set_option linter.unusedVariables false
theorem keys_small {H : Type} {enc : TypeId × Value → H} {W : World} {A : Option Addr} {c : Nat} {l : List S32} {d : DataW H} {p : List MemPlace} (h : DataW.Trod enc Tryd.prog W 0 (fun _ => true) true 22 (.slice A l.length c) d p)
    (C : Kd.C k32 W A l.length l) : ∀ q ∈ l, q.f0.size ≤ 9223372036854775807 := by
  obtain ⟨fuel, hf⟩ := h
  intro q hq
  obtain ⟨i, hi2, rfl⟩ := List.getElem_of_mem hq
  rcases open_slice_pairs Tryd.underlying22 Tryd.underlying32 cells2 rfl rfl (by kernel_rfl) (by kernel_rfl) hf with ⟨hcs, _⟩ | ⟨x, len, c', m, n, V0, V1, D0, D1, P0, P1, hcs, _, hl, hm, hmm, hx, hi⟩
  · simp [Value.cells] at hcs
    obtain ⟨-, hn, -⟩ := hcs
    rw [hn] at hi2
    exact absurd hi2 (by simp)
  · simp [Value.cells] at hcs
    obtain ⟨rfl, hn, rfl⟩ := hcs
    rw [if_pos rfl] at hmm
    obtain ⟨ad, hAd, hca, -⟩ := at_T32 C (i : Int) (by omega) (by omega)
    obtain rfl := Option.some.inj hAd
    rw [rd_at l i hi2, Int.toNat_natCast] at hca
    obtain ⟨k0, -, t0, -⟩ := hi i (by omega)
    obtain ⟨s, e0, -, hs⟩ := DataW.trod_string Tryd.underlying9 t0
    have f0 : V0 i = .string s := by simpa using e0
    rw [f0, hca] at k0
    have := Option.some.inj k0
    injection this with this
    rw [this]
    exact hs
end Go.Proofs.YtkkffccdkbijkaaDoor.H
