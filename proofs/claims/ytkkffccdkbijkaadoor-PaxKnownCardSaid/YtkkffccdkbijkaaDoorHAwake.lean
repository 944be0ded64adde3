/- awake: two records, there and back. -/
import Derived.Test.YtkkffccdkbijkaaDoorHAwakeP
import Derived.Lib.SlBytesConst
import Derived.Deep.RegionHeld3
import Derived.Outline
namespace Go.Proofs.YtkkffccdkbijkaaDoor.H
open Go.RowKit Go.Lib Go.Proofs.YtkkffccdkbijkaaDoor.I Go.Proofs.YtkkffccdkbijkaaDoorW.PrintWords Go.Proofs.YtkkffccdkbijkaaDoorW.PrintLast Go.Proofs.YtkkffccdkbijkaaDoorW.PrintMore
set_option linter.unusedVariables false
set_option linter.unusedSimpArgs false

/-- A row of bytes that was just laid down. -/
theorem C_new (w : World) (l : List Int) (fr : Nat × Nat) (hl : l.length ≤ 9223372036854775807) : Kd.C (Kd.int .u8) (w.alloc (.cells (l.map (Value.int .u8)).toArray 5 fr)) (some ⟨w.heap.size, 0, none⟩) l.length l := by
  refine Kd.C_of_reads (d := (0 : Int)) (h1 := fun _ => rfl) ⟨rfl, hl, fun _ => ⟨_, rfl, fun j hj => ?_⟩⟩
  have h := heap_alloc_new w (.cells (l.map (Value.int .u8)).toArray 5 fr)
  have e : (⟨w.heap.size, 0, none⟩ : Addr).add j = ⟨w.heap.size, j, none⟩ := by unfold Addr.add; split <;> simp_all
  rw [e]
  unfold World.cell?
  rw [h]
  simp [List.getD_eq_getElem?_getD, List.getElem?_eq_getElem hj]
theorem get_new (w : World) (l : List Int) (n : Nat) (cs : Array Value) (fr : Nat × Nat) (hn : l.length = n) (hcs : (l.map (Value.int .u8)).toArray = cs) (hl : n ≤ 140737488355328) (hG : GOK w) (out : List Pr) (p e : Int) (h : getOf l = (out, p, e)) :
    Calls Tryd.prog 19 #[.slice (some ⟨w.heap.size, 0, none⟩) n n] (w.alloc (.cells cs 5 fr)) fun en w' => ∃ A c, en = .returned (.tuple #[.slice A out.length c, .int .i64 p, .int .i64 e]) ∧ out.length ≤ c ∧ Kd.C k32 w' A out.length out ∧ Below w.heap.size w w' := by
  subst hn hcs
  have := get_calls (some ⟨w.heap.size, 0, none⟩) l.length l (w.alloc (.cells (l.map (Value.int .u8)).toArray 5 fr)) (C_new w l fr (by omega)) (Nat.le_refl _) hl (hG.below ((Below.refl _ _).alloc (Nat.le_refl _) _))
  rw [h, World.size_alloc] at this
  refine this.mono ?_
  rintro e w' ⟨v, he, ⟨A, c, rfl, hc, hF⟩, hb⟩
  exact ⟨A, c, he, hc, Kd.F_now hF, ((Below.refl _ _).alloc (Nat.le_refl _) _).trans (hb.mono (Nat.le_succ _))⟩
theorem pairs_new (w : World) (k : Nat) (A : Option Addr) (c : Nat) (hc : ([⟨⟨#[97]⟩, ⟨#[98]⟩⟩, ⟨⟨#[99]⟩, ⟨#[100]⟩⟩] : List Pr).length ≤ c) (hC : Kd.C k32 w A ([⟨⟨#[97]⟩, ⟨#[98]⟩⟩, ⟨⟨#[99]⟩, ⟨#[100]⟩⟩] : List Pr).length [⟨⟨#[97]⟩, ⟨#[98]⟩⟩, ⟨⟨#[99]⟩, ⟨#[100]⟩⟩])
    (h : tabularylaw09_pairs.f k [⟨⟨#[97]⟩, ⟨#[98]⟩⟩, ⟨⟨#[99]⟩, ⟨#[100]⟩⟩] [⟨⟨#[97]⟩, ⟨#[98]⟩⟩, ⟨⟨#[99]⟩, ⟨#[100]⟩⟩] = some true) :
    Calls Tryd.prog 12 #[.slice A 2 c, .slice (some ⟨w.heap.size, 0, none⟩) 2 2] (w.alloc (.cells #[.string ⟨#[97]⟩, .string ⟨#[98]⟩, .string ⟨#[99]⟩, .string ⟨#[100]⟩] 32)) fun e w' => e = .returned (.bool true) ∧ Below w.heap.size w w' := by
  have hb : Below w.heap.size w (w.alloc (.cells #[.string ⟨#[97]⟩, .string ⟨#[98]⟩, .string ⟨#[99]⟩, .string ⟨#[100]⟩] 32)) := (Below.refl _ _).alloc (Nat.le_refl _) _
  refine (I.tabularylaw09_pairs.calls k A c _ (some ⟨w.heap.size, 0, none⟩) 2 _ true _ (Kd.C_below hC hb) hc ?_ (by decide) h).mono ?_
  · refine ⟨rfl, by decide, fun _ => ⟨_, rfl, fun j p hj => ?_⟩⟩
    have h := heap_alloc_new w (.cells #[.string ⟨#[97]⟩, .string ⟨#[98]⟩, .string ⟨#[99]⟩, .string ⟨#[100]⟩] 32)
    refine ⟨[.string p.f0, .string p.f1], rfl, k32_mk _ _, fun i u hu => ?_⟩
    have hi : i < 2 := (List.getElem?_eq_some_iff.1 hu).1
    have hj2 : j < 2 := (List.getElem?_eq_some_iff.1 hj).1
    have e : (⟨w.heap.size, 0, none⟩ : Addr).add (j * k32.sz + i) = ⟨w.heap.size, j * 2 + i, none⟩ := by show (⟨w.heap.size, 0, none⟩ : Addr).add (j * 2 + i) = _; unfold Addr.add; split <;> simp_all
    rw [e]
    unfold World.cell?
    rw [h]
    rcases (show j = 0 ∨ j = 1 by omega) with rfl | rfl <;> rcases (show i = 0 ∨ i = 1 by omega) with rfl | rfl <;> simp at hj hu <;> subst hj <;> subst hu <;> rfl
  · rintro e w' ⟨he, hd⟩
    exact ⟨he, hb.trans (hd.below.mono hb.size)⟩
set_option maxRecDepth 100000 in
set_option maxHeartbeats 8000000 in
theorem awake_calls (w : World) (hG : GOK w) : Calls Tryd.prog 15 #[] w fun e w' => e = .returned (.bool true) ∧ Below w.heap.size w w' := by
  have kc := fun (w : World) (C : Array Value) (n c : Nat) => Lib.run_convert_bytes_const (P := Tryd.prog) w 35 5 C n c Tryd.underlying35 Tryd.underlying5
  have HG := Lib.hid hG
  obtain ⟨kr, hkr⟩ := Ev.rounds (record_f (⟨#[112, 97, 116, 104]⟩ : ByteArray) (⟨#[97, 47, 98]⟩ : ByteArray))
  rw [rec_one] at hkr
  have HKR := Lib.hid hkr
  clear hG hkr
  obtain ⟨kp, hkp⟩ := Ev.rounds (pairs_same ([⟨⟨#[97]⟩, ⟨#[98]⟩⟩, ⟨⟨#[99]⟩, ⟨#[100]⟩⟩] : List Pr) (by decide))
  have HKP := Lib.hid hkp
  clear hkp
  go_enter Tryd.func15, Tryd.ntmps15
  go_wp2_with fail
  refine (get_new w [54, 32, 97, 61, 98, 10, 54, 32, 99, 61, 100, 10] _ _ _ rfl rfl (by decide) HG.out _ _ _ get_one).mono ?_
  rintro e w1 ⟨A1, c1, rfl, hc1, hC1, hb1⟩
  have H1 := Lib.hid hC1
  have B1 := Lib.hid hb1
  clear hC1 hb1
  go_wp2_with fail
  refine (I.pax_Record.calls kr _ _ _ _ w1 (HG.out.below B1.out) HKR.out).mono ?_
  rintro e w2 ⟨v2, rfl, hR2, hb2⟩
  obtain ⟨A2, c2, rfl, hc2, hC2⟩ := Kd.R_reads hR2
  have H2 := Lib.hid hC2
  have H1b := Lib.hid (Kd.C_below H1.out hb2)
  have B2 := Lib.hid (B1.out.trans (hb2.mono B1.out.size))
  clear hR2 hC2 hb2
  go_wp2_with fail
  refine (get_new w2 [54, 32, 97, 61, 98, 10, 120] _ _ _ rfl rfl (by decide) (HG.out.below B2.out) _ _ _ get_two).mono ?_
  rintro e w3 ⟨A3, c3, rfl, hc3, hC3, hb3⟩
  have H1c := Lib.hid (Kd.C_below H1b.out hb3)
  have H2c := Lib.hid (Kd.C_below H2.out hb3)
  have B3 := Lib.hid (B2.out.trans (hb3.mono B2.out.size))
  clear hb3
  go_wp2_with fail
  refine (pairs_new w3 kp A1 c1 hc1 H1c.out HKP.out).mono ?_
  rintro e w4 ⟨rfl, hb4⟩
  have hcv : (convert 35 9 (.slice A2 12 c2)).run Tryd.prog w4 = .ok (.string ⟨#[49, 50, 32, 112, 97, 116, 104, 61, 97, 47, 98, 10]⟩) w4 := Kd.C_string Tryd.underlying35 Tryd.underlying5 Tryd.underlying9 (Kd.C_below H2c.out hb4) (c := c2)
  have B4 := Lib.hid (B3.out.trans (hb4.mono B3.out.size))
  go_wp2
  go_ret
  exact ⟨rfl, B4.out⟩
end Go.Proofs.YtkkffccdkbijkaaDoor.H
namespace Go.Proofs.YtkkffccdkbijkaaDoor.I
open Go.RowKit Go.Proofs.YtkkffccdkbijkaaDoor.H Go.Proofs.YtkkffccdkbijkaaDoorW.PrintWords
def tabularylaw09_awake.f : Option Bool := some true
theorem tabularylaw09_awake.calls (r : Bool) (w : World) (hG : GOK w) (h : tabularylaw09_awake.f = some r) :
    Calls Tryd.prog 15 #[] w fun e w' => e = .returned (.bool r) ∧ Below w.heap.size w w' := by
  cases h
  exact awake_calls w hG
end Go.Proofs.YtkkffccdkbijkaaDoor.I
