/- The document's Record: walked by hand. -/
import Derived.Test.YtkkffccdkbijkaaDoorHRefP
import Derived.Lib.ConvBytes
import Derived.Deep.RegionHeld3
import Derived.Laws.Concat
import Derived.Outline
namespace Go.Proofs.YtkkffccdkbijkaaDoor.H
open Go.RowKit Go.Proofs.YtkkffccdkbijkaaDoor.I Go.Proofs.YtkkffccdkbijkaaDoorW.PrintWords Go.Proofs.YtkkffccdkbijkaaDoorW.PrintLast Go.Proofs.YtkkffccdkbijkaaDoorW.PrintMore
set_option linter.unusedVariables false
set_option linter.unusedSimpArgs false

theorem info32 : (Tryd.prog.info? 32).map (fun i => (i.zero, i.size, i.bytes)) = some (some (.agg #[.string ⟨#[]⟩, .string ⟨#[]⟩]), 2, 32) := by kernel_rfl
/-- A row of bytes that is read, in a block that may be told. -/
theorem F_row (W : World) (b : Nat) (l : List Int) (ok : Nat → Prop) (hlt : b < W.heap.size) (hok : ok b) (hr : ReadsInt W .u8 (some ⟨b, 0, none⟩) l.length l) : Kd.F (Kd.int .u8) W ok (some ⟨b, 0, none⟩) l.length l := by
  intro W' hk
  refine Kd.C_of_reads (d := (0 : Int)) (h1 := fun _ => rfl) ⟨rfl, hr.2.1, fun hp => ?_⟩
  obtain ⟨ad, e, hc⟩ := hr.2.2 hp
  obtain rfl := Option.some.inj e
  refine ⟨_, rfl, fun j hj => ?_⟩
  have h := hc j hj
  have e : (⟨b, 0, none⟩ : Addr).add j = ⟨b, j, none⟩ := by unfold Addr.add; split <;> simp_all
  rw [e] at h ⊢
  unfold World.cell? at h ⊢
  rw [hk b hok hlt]
  exact h
theorem bytes_add (a b : ByteArray) : bytesOf (a ++ b) = bytesOf a ++ bytesOf b := by
  unfold bytesOf
  simp
theorem rec_bytes (k v : ByteArray) : bytesOf (((((strOfNums (digs (recSize k v)) ++ ⟨#[32]⟩) ++ k) ++ ⟨#[61]⟩) ++ v) ++ ⟨#[10]⟩) = recOf k v := by
  have hd : bytesOf (strOfNums (digs (recSize k v))) = digs (recSize k v) := bytes_str _ (fun x hx => by have := digs_isD _ x hx; unfold isD at this; omega)
  simp only [bytes_add, hd]
  rfl
/-- What is carried through the drawn region. -/
theorem rec_keep {w W W' : World} {k v : ByteArray} (hb : Below W.heap.size W W') (h0 : W.cell? ⟨w.heap.size, 0, none⟩ = some (.string k)) (h1 : W.cell? ⟨w.heap.size, 1, none⟩ = some (.string v)) (hB : Below w.heap.size w W) :
    W'.cell? ⟨w.heap.size, 0, none⟩ = some (.string k) ∧ W'.cell? ⟨w.heap.size, 1, none⟩ = some (.string v) ∧ Below w.heap.size w W' :=
  ⟨(hb.cell (World.block_lt_of_cell? _ _ h0)).trans h0, (hb.cell (World.block_lt_of_cell? _ _ h1)).trans h1, hB.trans (hb.mono hB.size)⟩
theorem rec_keep2 {w W W' : World} {k v : ByteArray} (hb : Below W.heap.size W W') (h : W.cell? ⟨w.heap.size, 0, none⟩ = some (.string k) ∧ W.cell? ⟨w.heap.size, 1, none⟩ = some (.string v) ∧ Below w.heap.size w W) :
    W'.cell? ⟨w.heap.size, 0, none⟩ = some (.string k) ∧ W'.cell? ⟨w.heap.size, 1, none⟩ = some (.string v) ∧ Below w.heap.size w W' := rec_keep hb h.1 h.2.1 h.2.2
theorem below_draw (W : World) : Below W.heap.size W W.drew := ⟨rfl, rfl, rfl, Nat.le_refl _, fun _ _ => rfl⟩
set_option maxRecDepth 100000 in
theorem rec_calls (k v : ByteArray) (hk : k.size ≤ 9223372036854775807) (w : World) :
    Calls Tryd.prog 38 #[.agg #[.string k, .string v]] w fun e w' => ∃ v0_ : Value, e = .returned (.tuple #[v0_, .int .i64 (recErr k v).2]) ∧ Kd.V (Kd.int .u8) 5 w' w.heap.size (fun k_ => w.heap.size ≤ k_) v0_ (recErr k v).1 ∧ Below w.heap.size w w' := by
  obtain ⟨kf, hkf⟩ := Ev.rounds (refFits_f k v hk)
  have HKF := Lib.hid hkf
  clear hkf
  have HB0 := Lib.hid ((Below.refl w.heap.size w).alloc (Nat.le_refl _) (.cells #[.string k, .string v] 32))
  have hn := heap_alloc_new w (.cells #[.string k, .string v] 32)
  have HC0 := Lib.hid (show (w.alloc (.cells #[.string k, .string v] 32)).cell? ⟨w.heap.size, 0, none⟩ = some (.string k) from by unfold World.cell?; rw [hn]; rfl)
  have HC1 := Lib.hid (show (w.alloc (.cells #[.string k, .string v] 32)).cell? ⟨w.heap.size, 1, none⟩ = some (.string v) from by unfold World.cell?; rw [hn]; rfl)
  clear hn
  by_cases hf : fitsErr k v = 0
  · have hre : recErr k v = (recOf k v, 0) := by unfold recErr; rw [if_pos hf]
    rw [hre]
    have hrs := rec_small hf
    have hfo := fits_ok hf
    obtain ⟨ks, hks⟩ := Ev.rounds (refSize_f k v (by omega) (by omega))
    obtain ⟨kd, hkd⟩ := Ev.rounds (decimal_f (recSize k v) (by rw [ten17]; omega))
    have HKS := Lib.hid hks
    have HKD := Lib.hid hkd
    rw [hf] at HKF
    have hff := hf
    have HRB := Lib.hid (rec_bytes k v)
    have HSZ := Lib.hid hfo
    clear hks hkd hre hrs hfo hf
    obtain ⟨D, hD⟩ : ∃ D, strOfNums (digs (recSize k v)) = D := ⟨_, rfl⟩
    obtain ⟨n, hn⟩ : ∃ n, recSize k v = n := ⟨_, rfl⟩
    rw [hD] at HRB HKD
    rw [hn] at HKS HKD
    have HDS : D.size ≤ 19 := by
      rw [← hD]
      have := rec_digs hff
      rw [strOfNums_size]
      omega
    have s1 : (⟨#[32]⟩ : ByteArray).size = 1 := rfl
    have s2 : (⟨#[61]⟩ : ByteArray).size = 1 := rfl
    have s3 : (⟨#[10]⟩ : ByteArray).size = 1 := rfl
    have HSZ1 := HSZ.out
    have q1 : D.size + (⟨#[32]⟩ : ByteArray).size ≤ 9223372036854775807 := by omega
    have q2 : (D ++ ⟨#[32]⟩).size + k.size ≤ 9223372036854775807 := by rw [ByteArray.size_append]; omega
    have q3 : ((D ++ ⟨#[32]⟩) ++ k).size + (⟨#[61]⟩ : ByteArray).size ≤ 9223372036854775807 := by simp only [ByteArray.size_append]; omega
    have q4 : (((D ++ ⟨#[32]⟩) ++ k) ++ ⟨#[61]⟩).size + v.size ≤ 9223372036854775807 := by simp only [ByteArray.size_append]; omega
    have q5 : ((((D ++ ⟨#[32]⟩) ++ k) ++ ⟨#[61]⟩) ++ v).size + (⟨#[10]⟩ : ByteArray).size ≤ 9223372036854775807 := by simp only [ByteArray.size_append]; omega
    have HFS := Lib.hid (show (((((D ++ ⟨#[32]⟩) ++ k) ++ ⟨#[61]⟩) ++ v) ++ ⟨#[10]⟩ : ByteArray).size ≤ 9223372036854775807 by simp only [ByteArray.size_append]; omega)
    have t1 := fun (w : World) => run_string_add_sum (P := Tryd.prog) (w := w) _ _ q1
    have t2 := fun (w : World) => run_string_add_sum (P := Tryd.prog) (w := w) _ _ q2
    have t3 := fun (w : World) => run_string_add_sum (P := Tryd.prog) (w := w) _ _ q3
    have t4 := fun (w : World) => run_string_add_sum (P := Tryd.prog) (w := w) _ _ q4
    have t5 := fun (w : World) => run_string_add_sum (P := Tryd.prog) (w := w) _ _ q5
    clear q1 q2 q3 q4 q5 HDS s1 s2 s3 HSZ1 hff hD hn
    have kb := fun (s : ByteArray) (W : World) => print_bytes (P := Tryd.prog) 9 35 5 Tryd.underlying9 Tryd.underlying35 Tryd.underlying5 s W
    go_enter Tryd.func38, Tryd.ntmps38
    go_wp2_with (first | (go_at_call 48; refine (I.tabularyref09_Fits.calls kf k v 0 _ HKF.out).mono ?_; rintro e w1 ⟨rfl, hb1⟩))
    have HB1 := Lib.hid (HB0.out.trans (hb1.mono HB0.out.size))
    have hc0 := (hb1.cell (World.block_lt_of_cell? _ _ HC0.out)).trans HC0.out
    have hc1 := (hb1.cell (World.block_lt_of_cell? _ _ HC1.out)).trans HC1.out
    go_region_held3 (fun W => W.cell? ⟨w.heap.size, 0, none⟩ = some (.string k) ∧ W.cell? ⟨w.heap.size, 1, none⟩ = some (.string v) ∧ Below w.heap.size w W)
      ((first | assumption | exact rec_keep (below_draw _) hc0 hc1 HB1.out | exact rec_keep (W := w1.drew) (by assumption) hc0 hc1 (HB1.out.trans ((below_draw w1).mono HB1.out.size)) | exact rec_keep2 (by assumption) (by assumption)))
      ((first | (go_at_call 50; refine (I.tabularyref09_Size.calls ks k v n _ HKS.out).mono ?_; rintro e w2 ⟨rfl, hb2⟩) | (go_at_call 49; refine (I.tabularyref09_decimal.calls kd n D _ HKD.out).mono ?_; rintro e w3 ⟨rfl, hb3⟩)))
    go_wp2
    go_ret2
    have hBf : Below w.heap.size w w3 := by
      have h := ‹w3.cell? ⟨w.heap.size, 0, none⟩ = some (.string k) ∧ w3.cell? ⟨w.heap.size, 1, none⟩ = some (.string v) ∧ Below w.heap.size w w3›
      exact h.2.2
    have hr := bytes_reads w3 5 _ HFS.out
    rw [HRB.out] at hr
    have hlen : (recOf k v).length = D.size + 1 + k.size + 1 + v.size + 1 := by
      have := hr.1
      simp only [ByteArray.size_append] at this
      exact this
    rw [← hr.1] at hr
    refine ⟨.slice (some ⟨w3.heap.size, 0, none⟩) (recOf k v).length (grownCap w3 (recOf k v).length 0 5), by rw [hlen]; rfl, Kd.V_mk (grownCap_ge _ _ _ _) (F_row _ _ _ _ ?_ ?_ hr), bytes_below hBf hBf.size _ _⟩
    · rw [Lib.bytesWorld_size]; exact Nat.lt_succ_self _
    · exact hBf.size
  · have hre : recErr k v = ([], fitsErr k v) := by unfold recErr; rw [if_neg hf]
    rw [hre]
    go_enter Tryd.func38, Tryd.ntmps38
    go_wp2_with (first | (go_at_call 48; refine (I.tabularyref09_Fits.calls kf k v _ _ HKF.out).mono ?_; rintro e w1 ⟨rfl, hb1⟩; have hne : (fitsErr k v != 0) = true := bne_iff_ne.mpr hf))
    go_ret2
    exact ⟨_, rfl, Kd.V_nil _ _ _ _ _, HB0.out.trans (hb1.mono HB0.out.size)⟩
end Go.Proofs.YtkkffccdkbijkaaDoor.H
namespace Go.Proofs.YtkkffccdkbijkaaDoor.I
open Go.RowKit Go.Proofs.YtkkffccdkbijkaaDoor.H Go.Proofs.YtkkffccdkbijkaaDoorW.PrintWords
def tabularyref09_Record.f (k v : ByteArray) : Option (List Int × Int) := if k.size ≤ 9223372036854775807 then some (recErr k v) else none
theorem tabularyref09_Record.calls (a0 a1 : ByteArray) (r1 : List Int) (r2 : Int) (w : World) (h : tabularyref09_Record.f a0 a1 = some (r1, r2)) :
    Calls Tryd.prog 38 #[.agg #[.string a0, .string a1]] w fun e w' => ∃ v0_ : Value, e = .returned (.tuple #[v0_, .int .i64 r2]) ∧ Kd.V (Kd.int .u8) 5 w' w.heap.size (fun k_ => w.heap.size ≤ k_) v0_ r1 ∧ Below w.heap.size w w' := by
  unfold tabularyref09_Record.f at h
  by_cases hs : a0.size ≤ 9223372036854775807
  · rw [if_pos hs] at h
    have := rec_calls a0 a1 hs w
    rw [Option.some.inj h] at this
    exact this
  · rw [if_neg hs] at h
    cases h
end Go.Proofs.YtkkffccdkbijkaaDoor.I
