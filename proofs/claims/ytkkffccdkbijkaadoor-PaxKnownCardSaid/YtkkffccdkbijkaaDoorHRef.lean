/- refused: bytes that are no records, at a place. -/
import Derived.Test.YtkkffccdkbijkaaDoorHAwake
import Derived.Lib.ConvBytes
import Derived.Outline
namespace Go.Proofs.YtkkffccdkbijkaaDoor.H
open Go.RowKit Go.Proofs.YtkkffccdkbijkaaDoor.I Go.Proofs.YtkkffccdkbijkaaDoorW.PrintWords Go.Proofs.YtkkffccdkbijkaaDoorW.PrintLast Go.Proofs.YtkkffccdkbijkaaDoorW.PrintMore
set_option linter.unusedVariables false
set_option linter.unusedSimpArgs false
/-- []byte(s), as it is read. -/
theorem C_conv (w : World) (s : ByteArray) (hs : s.size ≤ 140737488355328) : Kd.C (Kd.int .u8) (Lib.bytesWorld w 5 s) (some ⟨w.heap.size, 0, none⟩) (bytesOf s).length (bytesOf s) := by
  have hr := bytes_reads w 5 s (by omega)
  rw [← hr.1] at hr
  refine Kd.C_of_reads (d := (0 : Int)) (h1 := fun _ => rfl) ⟨rfl, hr.2.1, fun hp => ?_⟩
  obtain ⟨ad, e, hc⟩ := hr.2.2 hp
  exact ⟨ad, e, hc⟩
set_option maxRecDepth 100000 in
theorem refused_calls (s : ByteArray) (pl er : Int) (hs : s.size ≤ 140737488351232) (h : getOf (bytesOf s) = ([], pl, er)) (w : World) (hG : GOK w) :
    Calls Tryd.prog 22 #[.string s, .int .i64 pl, .int .i64 er] w fun e w' => e = .returned (.bool true) ∧ Below w.heap.size w w' := by
  have kb := fun (s : ByteArray) (W : World) => print_bytes (P := Tryd.prog) 9 35 5 Tryd.underlying9 Tryd.underlying35 Tryd.underlying5 s W
  have hb0 : Below w.heap.size w (Lib.bytesWorld w 5 s) := bytes_below (Below.refl _ _) (Nat.le_refl _) _ _
  have HB0 := Lib.hid hb0
  have HG := Lib.hid (hG.below hb0)
  have HC := Lib.hid (C_conv w s (by omega))
  have hl : (bytesOf s).length = s.size := (bytes_reads w 5 s (by omega)).1
  have HL := Lib.hid hl
  have HH := Lib.hid h
  have HS := Lib.hid hs
  clear hb0 hG hl h hs
  go_enter Tryd.func22, Tryd.ntmps22
  go_wp2_with fail
  have hget := get_calls (some ⟨w.heap.size, 0, none⟩) (grownCap w s.size 0 5) (bytesOf s) (Lib.bytesWorld w 5 s) HC.out (by rw [HL.out]; exact grownCap_ge _ _ _ _) (by rw [HL.out]; have := HS.out; omega) HG.out
  rw [HH.out, HL.out] at hget
  refine hget.mono ?_
  rintro e w1 ⟨v, rfl, ⟨A, c, rfl, hc, hF⟩, hb⟩
  have HB1 := Lib.hid (HB0.out.trans (hb.mono HB0.out.size))
  clear hget hF hb
  go_wp2
  go_ret
  exact ⟨rfl, HB1.out⟩
end Go.Proofs.YtkkffccdkbijkaaDoor.H
