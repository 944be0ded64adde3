/- PaxKnown: the walk. -/
import Derived.Test.YtkkffccdkbijkaaDoorHKnownP
import Derived.Test.YtkkffccdkbijkaaDoorHRef
import Derived.Deep.RegionHeld3
import Derived.Laws.Concat
import Derived.IntWalk
import Derived.Outline
namespace Go.Proofs.YtkkffccdkbijkaaDoor.H
open Go.RowKit Go.Proofs.YtkkffccdkbijkaaDoor.I Go.Proofs.YtkkffccdkbijkaaDoorW.PrintWords Go.Proofs.YtkkffccdkbijkaaDoorW.PrintLast Go.Proofs.YtkkffccdkbijkaaDoorW.PrintMore
set_option linter.unusedVariables false
set_option linter.unusedSimpArgs false
theorem below_draw2 (W : World) : Below W.heap.size W W.drew := ⟨rfl, rfl, rfl, Nat.le_refl _, fun _ _ => rfl⟩
theorem add_v (i : Nat) (h : i ≤ 1000) (w : World) : (Op.stringOp .add (rep i) ⟨#[118]⟩).run Tryd.prog w = .ok (.string (rep (i + 1))) w := by
  have e : (⟨#[118]⟩ : ByteArray).size = 1 := rfl
  have h2 := run_string_add_sum (P := Tryd.prog) (w := w) (rep i) ⟨#[118]⟩ (by rw [rep_size, e]; omega)
  rw [rep_succ] at h2
  exact h2
def szs : List Int := [97, 98, 99, 101, 102]
theorem cell_new (w : World) (o : Array Value) (t : TypeId) (fr : Nat × Nat) (i : Nat) : (w.alloc (.cells o t fr)).cell? ⟨w.heap.size, i, none⟩ = o[i]? := by
  have h := heap_alloc_new w (.cells o t fr)
  unfold World.cell?
  rw [h]
  rfl
theorem BelowC {w W W' : World} (h : Below w.heap.size w W) (h2 : Below W.heap.size W W') : Below w.heap.size w W' := h.trans (h2.mono h.size)
theorem first_below {A : Prop} {B : Prop} (h : A ∧ B) : B := h.2
theorem kn_keep {w W W' : World} {b i : Nat} {x : Value} (hb : Below W.heap.size W W') (h : W.cell? ⟨b, i, none⟩ = some x ∧ Below w.heap.size w W) : W'.cell? ⟨b, i, none⟩ = some x ∧ Below w.heap.size w W' :=
  ⟨(hb.cell (World.block_lt_of_cell? _ _ h.1)).trans h.1, h.2.trans (hb.mono h.2.size)⟩
theorem rep_extract (n m : Nat) (h : m ≤ n) : (rep n).extract 0 m = rep m := by
  apply ByteArray.ext
  apply Array.toList_inj.1
  unfold rep
  simp [List.take_replicate, Nat.min_eq_left h]
theorem add_none (a : Addr) : a.add 0 = a := by
  first | exact Addr.add_zero a | (cases a; simp [Addr.add]; done) | (cases a; unfold Addr.add; split <;> simp_all)
theorem other_size : other.size = 100 := by unfold other; simp only [ByteArray.size_append, rep_size]; rfl
theorem kn_keep4 {w W W' : World} {a1 a2 a3 a4 : Addr} {x1 x2 x3 x4 : Value} (hb : Below W.heap.size W W') (h : W.cell? a1 = some x1 ∧ W.cell? a2 = some x2 ∧ W.cell? a3 = some x3 ∧ W.cell? a4 = some x4 ∧ Below w.heap.size w W) :
    W'.cell? a1 = some x1 ∧ W'.cell? a2 = some x2 ∧ W'.cell? a3 = some x3 ∧ W'.cell? a4 = some x4 ∧ Below w.heap.size w W' :=
  ⟨(hb.cell (World.block_lt_of_cell? _ _ h.1)).trans h.1, (hb.cell (World.block_lt_of_cell? _ _ h.2.1)).trans h.2.1, (hb.cell (World.block_lt_of_cell? _ _ h.2.2.1)).trans h.2.2.1, (hb.cell (World.block_lt_of_cell? _ _ h.2.2.2.1)).trans h.2.2.2.1, h.2.2.2.2.trans (hb.mono h.2.2.2.2.size)⟩
theorem last5 {A B C D E : Prop} (h : A ∧ B ∧ C ∧ D ∧ E) : E := h.2.2.2.2
/-- Two pairs, three pairs that were just laid down. -/
theorem C_two (w : World) (p q : Pr) (fr : Nat × Nat) : Kd.C k32 (w.alloc (.cells #[.string p.f0, .string p.f1, .string q.f0, .string q.f1] 32 fr)) (some ⟨w.heap.size, 0, none⟩) [p, q].length [p, q] := by
  refine ⟨rfl, by simp, fun _ => ⟨_, rfl, fun j x hj => ?_⟩⟩
  refine ⟨[.string x.f0, .string x.f1], rfl, k32_mk _ _, fun i u hu => ?_⟩
  have hi : i < 2 := (List.getElem?_eq_some_iff.1 hu).1
  have hj2 : j < 2 := (List.getElem?_eq_some_iff.1 hj).1
  have e : (⟨w.heap.size, 0, none⟩ : Addr).add (j * k32.sz + i) = ⟨w.heap.size, j * 2 + i, none⟩ := by show (⟨w.heap.size, 0, none⟩ : Addr).add (j * 2 + i) = _; unfold Addr.add; split <;> simp_all
  rw [e, cell_new]
  rcases (show j = 0 ∨ j = 1 by omega) with rfl | rfl <;> rcases (show i = 0 ∨ i = 1 by omega) with rfl | rfl <;> simp at hj hu <;> subst hj <;> subst hu <;> rfl
theorem C_three (w : World) (p q r : Pr) (fr : Nat × Nat) : Kd.C k32 (w.alloc (.cells #[.string p.f0, .string p.f1, .string q.f0, .string q.f1, .string r.f0, .string r.f1] 32 fr)) (some ⟨w.heap.size, 0, none⟩) [p, q, r].length [p, q, r] := by
  refine ⟨rfl, by simp, fun _ => ⟨_, rfl, fun j x hj => ?_⟩⟩
  refine ⟨[.string x.f0, .string x.f1], rfl, k32_mk _ _, fun i u hu => ?_⟩
  have hi : i < 2 := (List.getElem?_eq_some_iff.1 hu).1
  have hj2 : j < 3 := (List.getElem?_eq_some_iff.1 hj).1
  have e : (⟨w.heap.size, 0, none⟩ : Addr).add (j * k32.sz + i) = ⟨w.heap.size, j * 2 + i, none⟩ := by show (⟨w.heap.size, 0, none⟩ : Addr).add (j * 2 + i) = _; unfold Addr.add; split <;> simp_all
  rw [e, cell_new]
  rcases (show j = 0 ∨ j = 1 ∨ j = 2 by omega) with rfl | rfl | rfl <;> rcases (show i = 0 ∨ i = 1 by omega) with rfl | rfl <;> simp at hj hu <;> subst hj <;> subst hu <;> rfl
theorem put_new (w : World) (k : Nat) (p q : Pr) (fr : Nat × Nat) (r1 : List Int) (r2 r3 : Int) (hG : GOK w) (h : pax_Put.f k [p, q] = some (r1, r2, r3)) :
    Calls Tryd.prog 18 #[.slice (some ⟨w.heap.size, 0, none⟩) 2 2] (w.alloc (.cells #[.string p.f0, .string p.f1, .string q.f0, .string q.f1] 32 fr)) fun e w' => ∃ v0_ : Value, e = .returned (.tuple #[v0_, .int .i64 r2, .int .i64 r3]) ∧ Below w.heap.size w w' := by
  have hb := (Below.refl w.heap.size w).alloc (Nat.le_refl _) (.cells #[.string p.f0, .string p.f1, .string q.f0, .string q.f1] 32 fr)
  refine (I.pax_Put.calls k (some ⟨w.heap.size, 0, none⟩) 2 [p, q] r1 r2 r3 _ (C_two w p q fr) (Nat.le_refl _) (hG.below hb) h).mono ?_
  rintro e w' ⟨v, he, -, hb2⟩
  exact ⟨v, he, hb.trans (hb2.mono hb.size)⟩
theorem over_new (w : World) (p q r s : Pr) (fr fr' : Nat × Nat) (R : List Pr) (c : Int) (hG : GOK w) (h : overOf [p, q] [r, s] = (R, c)) :
    Calls Tryd.prog 10 #[.slice (some ⟨w.heap.size, 0, none⟩) 2 2, .slice (some ⟨w.heap.size + 1, 0, none⟩) 2 2] ((w.alloc (.cells #[.string p.f0, .string p.f1, .string q.f0, .string q.f1] 32 fr)).alloc (.cells #[.string r.f0, .string r.f1, .string s.f0, .string s.f1] 32 fr')) fun e w' => ∃ A n, e = .returned (.tuple #[.slice A R.length n, .int .i64 c]) ∧ R.length ≤ n ∧ Kd.C k32 w' A R.length R ∧ Below w.heap.size w w' := by
  have hb := (Below.refl w.heap.size w).alloc (Nat.le_refl _) (.cells #[.string p.f0, .string p.f1, .string q.f0, .string q.f1] 32 fr)
  have hb2 := hb.alloc (hb.size) (.cells #[.string r.f0, .string r.f1, .string s.f0, .string s.f1] 32 fr')
  have h2 := C_two (w.alloc (.cells #[.string p.f0, .string p.f1, .string q.f0, .string q.f1] 32 fr)) r s fr'
  rw [World.size_alloc] at h2
  have := over_calls (some ⟨w.heap.size, 0, none⟩) 2 [p, q] (some ⟨w.heap.size + 1, 0, none⟩) 2 [r, s] _ (Kd.C_alloc (C_two w p q fr) _) (Nat.le_refl _) h2 (Nat.le_refl _) (hG.below hb2)
  rw [h] at this
  refine this.mono ?_
  rintro e w' ⟨v, he, hV, hb3⟩
  obtain ⟨A, n, rfl⟩ := Kd.V_slice hV
  obtain ⟨-, hn, hC⟩ := Kd.V_reads' hV
  exact ⟨A, n, he, hn, hC, hb2.trans (hb3.mono hb2.size)⟩
set_option maxHeartbeats 16000000 in
set_option maxRecDepth 100000 in
theorem known_calls (w : World) (hG : GOK w) : Calls Tryd.prog 7 #[] w fun e w' => e = .returned (.bool true) ∧ Below w.heap.size w w' := by
  have HG := Lib.hid hG
  have HB0 := Lib.hid ((Below.refl w.heap.size w).alloc (Nat.le_refl _) (.cells #[.int .i64 97, .int .i64 98, .int .i64 99, .int .i64 101, .int .i64 102] 3))
  have HCE := Lib.hid (cell_new w #[.int .i64 97, .int .i64 98, .int .i64 99, .int .i64 101, .int .i64 102] 3 (0, 0))
  clear hG
  go_enter Tryd.func7, Tryd.ntmps7
  go_wp2
  go_loopg [1, 3] 91 (fun g s1 s3 wx => ∃ i : Nat, i + g = 91 ∧ s1 = .string (rep i) ∧ s3 = .int .i64 i ∧ wx = w.alloc (.cells #[.int .i64 97, .int .i64 98, .int .i64 99, .int .i64 101, .int .i64 102] 3))
  case atStart => exact ⟨0, by omega, rfl, rfl, rfl⟩
  case round =>
    obtain ⟨i, hig, rfl, rfl, rfl⟩ := hrel
    cases gk with
    | succ g =>
      have hi : i < 91 := by omega
      have hd : decide ((i : Int) < 91) = true := decide_eq_true (by omega)
      have ta := add_v i (by omega)
      go_wp2
      go_roundg g
      case measure => omega
      case rel => exact ⟨i + 1, by omega, rfl, by go_num, rfl⟩
    | zero =>
      obtain rfl : i = 91 := by omega
      go_wp2
      generalize hW1 : w.alloc (.cells #[.int .i64 97, .int .i64 98, .int .i64 99, .int .i64 101, .int .i64 102] 3) = W1 at HB0 HCE ⊢
      go_loopg [1, 4] 5 (fun g s1 s4 wx => ∃ i : Nat, i + g = 5 ∧ s1 = .string (rep (91 + i)) ∧ s4 = .int .i64 i ∧ Below W1.heap.size W1 wx)
      case atStart => exact ⟨0, by omega, rfl, rfl, Below.refl _ _⟩
      case round =>
        obtain ⟨i, hig, rfl, rfl, hB⟩ := hrel
        cases gk with
        | succ g =>
          have hi : i < 5 := by omega
          have ta := add_v (91 + i) (by omega)
          have hsz := size_a i hi
          obtain ⟨ks, hks⟩ := Ev.rounds (size_f (⟨#[97]⟩ : ByteArray) (rep (91 + i)) (by unfold restOf; rw [rep_size, ten17]; show 3 + 1 + _ < _; omega))
          rw [hsz] at hks
          have HKS := Lib.hid hks
          have HI := Lib.hid hi
          have hce : W1.cell? ⟨w.heap.size, i, none⟩ = some (.int .i64 (([97, 98, 99, 101, 102] : List Int).getD i 0)) := by
            rw [HCE.out]
            rcases (show i = 0 ∨ i = 1 ∨ i = 2 ∨ i = 3 ∨ i = 4 by omega) with rfl | rfl | rfl | rfl | rfl <;> rfl
          have hcx := (hB.cell (World.block_lt_of_cell? _ _ hce)).trans hce
          have HBX := Lib.hid hB
          have HIG := Lib.hid hig
          clear hB
          generalize ([97, 98, 99, 101, 102] : List Int).getD i 0 = z at hcx HKS
          clear hsz hks hce
          have p0 : (0 : Int) ≤ (i : Int) := by omega
          have p1 : (i : Int) < 5 := by omega
          clear hi hig
          go_wp2
          go_region_held3 (fun W => W.cell? ⟨w.heap.size, i, none⟩ = some (.int .i64 z) ∧ Below W1.heap.size W1 W)
            ((first | assumption | exact kn_keep (below_draw2 _) ⟨hcx, HBX.out⟩ | exact kn_keep (W := wx.drew) (by assumption) (kn_keep (below_draw2 _) ⟨hcx, HBX.out⟩) | exact kn_keep (by assumption) (by assumption)))
            ((first | (go_at_call 14; refine (I.pax_Size.calls ks _ _ z _ (HG.out.below (HB0.out.trans ((show Below W1.heap.size W1 _ from first_below (by assumption)).mono HB0.out.size))) HKS.out).mono ?_; rintro e w2 ⟨rfl, hb2⟩)))
          go_wp2
          go_roundg g
          case measure => omega
          case rel => exact ⟨i + 1, by have := HIG.out; omega, rfl, by go_num, And.right (by assumption)⟩
        | zero =>
          obtain rfl : i = 5 := by omega
          have HBA := Lib.hid (HB0.out.trans (hB.mono HB0.out.size))
          clear hB HCE
          obtain ⟨k1, hk1⟩ := Ev.rounds (record_f (⟨#[]⟩ : ByteArray) (⟨#[98]⟩ : ByteArray))
          rw [rec_e1] at hk1
          have HK1 := Lib.hid hk1
          obtain ⟨k2, hk2⟩ := Ev.rounds (record_f (⟨#[97, 61, 98]⟩ : ByteArray) (⟨#[]⟩ : ByteArray))
          rw [rec_e2] at hk2
          have HK2 := Lib.hid hk2
          obtain ⟨k3, hk3⟩ := Ev.rounds (put_f [⟨⟨#[98]⟩, ⟨#[]⟩⟩, ⟨⟨#[97]⟩, ⟨#[]⟩⟩])
          rw [put_ba] at hk3
          have HK3 := Lib.hid hk3
          obtain ⟨k4, hk4⟩ := Ev.rounds (put_f [⟨⟨#[97]⟩, ⟨#[]⟩⟩, ⟨⟨#[97]⟩, ⟨#[]⟩⟩])
          rw [put_aa] at hk4
          have HK4 := Lib.hid hk4
          obtain ⟨k5, hk5⟩ := Ev.rounds (pairs_same [⟨⟨#[97]⟩, ⟨#[49]⟩⟩, ⟨⟨#[98]⟩, ⟨#[51]⟩⟩, ⟨⟨#[99]⟩, ⟨#[52]⟩⟩] (by decide))
          have HK5 := Lib.hid hk5
          clear hk1 hk2 hk3 hk4 hk5
          go_wp2_with fail
          refine (I.pax_Record.calls k1 _ _ _ _ _ (HG.out.below HBA.out) HK1.out).mono ?_
          rintro e w3 ⟨v3, rfl, -, hb3⟩
          have HB3 := Lib.hid (HBA.out.trans (hb3.mono HBA.out.size))
          clear hb3
          go_wp2_with fail
          refine (I.pax_Record.calls k2 _ _ _ _ _ (HG.out.below HB3.out) HK2.out).mono ?_
          rintro e w4 ⟨v4, rfl, -, hb4⟩
          have HB4 := Lib.hid (HB3.out.trans (hb4.mono HB3.out.size))
          clear hb4
          go_wp2_with fail
          refine (put_new w4 k3 ⟨⟨#[98]⟩, ⟨#[]⟩⟩ ⟨⟨#[97]⟩, ⟨#[]⟩⟩ _ _ _ _ (HG.out.below HB4.out) HK3.out).mono ?_
          rintro e w5 ⟨v5, rfl, hb5⟩
          have HB5 := Lib.hid (HB4.out.trans (hb5.mono HB4.out.size))
          clear hb5
          go_wp2_with fail
          refine (put_new w5 k4 ⟨⟨#[97]⟩, ⟨#[]⟩⟩ ⟨⟨#[97]⟩, ⟨#[]⟩⟩ _ _ _ _ (HG.out.below HB5.out) HK4.out).mono ?_
          rintro e w6 ⟨v6, rfl, hb6⟩
          have HB6 := Lib.hid (HB5.out.trans (hb6.mono HB5.out.size))
          clear hb6
          go_wp2_with fail
          refine (over_new w6 ⟨⟨#[97]⟩, ⟨#[49]⟩⟩ ⟨⟨#[98]⟩, ⟨#[50]⟩⟩ ⟨⟨#[98]⟩, ⟨#[51]⟩⟩ ⟨⟨#[99]⟩, ⟨#[52]⟩⟩ _ _ _ _ (HG.out.below HB6.out) over_k).mono ?_
          rintro e w7 ⟨A7, n7, rfl, hn7, hC7, hb7⟩
          have HC7 := Lib.hid hC7
          have HB7 := Lib.hid (HB6.out.trans (hb7.mono HB6.out.size))
          clear hb7 hC7
          go_wp2_with fail
          refine (I.tabularylaw09_pairs.calls k5 A7 n7 _ _ 3 _ true _ (Kd.C_alloc HC7.out _) hn7 (C_three w7 ⟨⟨#[97]⟩, ⟨#[49]⟩⟩ ⟨⟨#[98]⟩, ⟨#[51]⟩⟩ ⟨⟨#[99]⟩, ⟨#[52]⟩⟩ _) (Nat.le_refl _) HK5.out).mono ?_
          rintro e w8 ⟨rfl, hd8⟩
          have hb8 := ((Below.refl w7.heap.size w7).alloc (Nat.le_refl _) (.cells #[.string ⟨#[97]⟩, .string ⟨#[49]⟩, .string ⟨#[98]⟩, .string ⟨#[51]⟩, .string ⟨#[99]⟩, .string ⟨#[52]⟩] 32)).trans (hd8.below.mono (by simp))
          have HB8 := Lib.hid (HB7.out.trans (hb8.mono HB7.out.size))
          clear hb8 hd8
          go_wp2_with fail
          have he : (⟨#[49, 48, 48, 32, 97, 61]⟩ : ByteArray) ++ (rep 96).extract 0 93 ++ ⟨#[10]⟩ = other := by rw [rep_extract 96 93 (by omega)]; rfl
          simp only [he]
          clear he
          have HN := Lib.hid (cell_new w8 #[.int .i64 0, .int .i64 3, .int .i64 4, .int .i64 5, .int .i64 90] 3 (0, 0))
          have HB9 := Lib.hid (HB8.out.alloc HB8.out.size (.cells #[.int .i64 0, .int .i64 3, .int .i64 4, .int .i64 5, .int .i64 90] 3))
          generalize hW9 : w8.alloc (.cells #[.int .i64 0, .int .i64 3, .int .i64 4, .int .i64 5, .int .i64 90] 3) = W9 at HN HB9 ⊢
          go_loopg [131] 5 (fun g s131 wx => ∃ i : Nat, i + g = 5 ∧ s131 = .int .i64 i ∧ Below W9.heap.size W9 wx)
          case atStart => exact ⟨0, by omega, rfl, Below.refl _ _⟩
          case round =>
            obtain ⟨i, hig, rfl, hB⟩ := hrel
            cases gk with
            | succ g =>
              have hi : i < 5 := by omega
              obtain ⟨m, hm90, hme⟩ : ∃ m : Nat, m ≤ 90 ∧ (#[.int .i64 0, .int .i64 3, .int .i64 4, .int .i64 5, .int .i64 90] : Array Value)[i]? = some (.int .i64 (m : Int)) := by
                rcases (show i = 0 ∨ i = 1 ∨ i = 2 ∨ i = 3 ∨ i = 4 by omega) with rfl | rfl | rfl | rfl | rfl
                · exact ⟨0, by omega, rfl⟩
                · exact ⟨3, by omega, rfl⟩
                · exact ⟨4, by omega, rfl⟩
                · exact ⟨5, by omega, rfl⟩
                · exact ⟨90, by omega, rfl⟩
              have hce := (HN.out i).trans hme
              have hcx := (hB.cell (World.block_lt_of_cell? _ _ hce)).trans hce
              have HBX := Lib.hid hB
              have HIG := Lib.hid hig
              have HM := Lib.hid hm90
              have p0 : (0 : Int) ≤ (i : Int) := by omega
              have p1 : (i : Int) < 5 := by omega
              have p1' : decide ((i : Int) < 5) = true := decide_eq_true p1
              have q0 : (0 : Int) ≤ (m : Int) := by omega
              have q1 : (m : Int) ≤ ((rep 96).size : Int) := by rw [rep_size]; omega
              have q2 : m ≤ (rep 96).size := by rw [rep_size]; omega
              have q3 := rep_extract 96 m (by omega)
              obtain ⟨kr, hkr⟩ := Ev.rounds (record_f (⟨#[107, 101, 121]⟩ : ByteArray) (rep m))
              have hre : recErr (⟨#[107, 101, 121]⟩ : ByteArray) (rep m) = (recOf ⟨#[107, 101, 121]⟩ (rep m), 0) := by unfold recErr; rw [if_pos (key_fits m hm90)]
              rw [hre] at hkr
              have HKR := Lib.hid hkr
              clear hB hig hm90 hme hce hi hkr hre
              have hlen := recOf_len (⟨#[107, 101, 121]⟩ : ByteArray) (rep m) (by have := rest_small (key_fits m HM.out); rw [ten17]; omega)
              have hsm := key_size m HM.out
              obtain ⟨ks, hks⟩ := Ev.rounds (size_f (⟨#[107, 101, 121]⟩ : ByteArray) (rep m) (by have := rest_small (key_fits m HM.out); rw [ten17]; omega))
              have hkg := key_get m HM.out
              rw [← hlen] at hks hsm
              generalize recOf (⟨#[107, 101, 121]⟩ : ByteArray) (rep m) = L at hks hsm hkg HKR
              have HKS := Lib.hid hks
              have HKG := Lib.hid hkg
              have HSM := Lib.hid hsm
              clear hlen hks hkg hsm
              have HBX1 := Lib.hid (BelowC HB9.out HBX.out)
              go_wp2_with fail
              have hbb := (Below.refl wr.heap.size wr).alloc (Nat.le_refl _) (.cells #[.string ⟨#[107, 101, 121]⟩, .string (rep m)] 32)
              have HBB := Lib.hid (BelowC HBX.out hbb)
              have hx0 := cell_new wr #[.string ⟨#[107, 101, 121]⟩, .string (rep m)] 32 (0, 0) 0
              have hx1 := cell_new wr #[.string ⟨#[107, 101, 121]⟩, .string (rep m)] 32 (0, 0) 1
              refine (I.pax_Record.calls kr _ _ _ _ _ (HG.out.below (BelowC HB9.out HBB.out)) HKR.out).mono ?_
              rintro e w10 ⟨v10, rfl, hR10, hb10⟩
              obtain ⟨A10, c10, rfl, hc10, hC10⟩ := Kd.R_reads hR10
              have hy0 := (hb10.cell (World.block_lt_of_cell? _ _ hx0)).trans hx0
              have hy1 := (hb10.cell (World.block_lt_of_cell? _ _ hx1)).trans hx1
              have HB10 := Lib.hid (BelowC HBB.out hb10)
              have HC10 := Lib.hid hC10
              clear hR10 hb10 hC10 hx0 hx1 hbb
              have HY0 := Lib.hid hy0
              have HY1 := Lib.hid hy1
              clear hy0 hy1
              go_wp2_with fail
              have hget := get_calls A10 c10 L w10 HC10.out hc10 (by have := HSM.out; omega) (HG.out.below (BelowC HB9.out HB10.out))
              rw [HKG.out] at hget
              refine hget.mono ?_
              rintro e w11 ⟨v11, rfl, hV11, hb11⟩
              obtain ⟨A11, c11, rfl⟩ := Kd.V_slice hV11
              obtain ⟨-, hc11, hC11⟩ := Kd.V_reads' hV11
              obtain ⟨ad, rfl, hca, hcb⟩ := at_T32 hC11 0 (by omega) (by simp)
              have hrd : rd_T32 [⟨⟨#[107, 101, 121]⟩, rep m⟩] 0 = ⟨⟨#[107, 101, 121]⟩, rep m⟩ := rfl
              rw [hrd] at hca hcb
              simp only [Int.toNat_zero, Nat.zero_mul] at hca hcb
              rw [add_none ad] at hca hcb
              have hy0 := (hb11.cell (World.block_lt_of_cell? _ _ HY0.out)).trans HY0.out
              have hy1 := (hb11.cell (World.block_lt_of_cell? _ _ HY1.out)).trans HY1.out
              have HB11 := Lib.hid (BelowC HB10.out hb11)
              clear hget hV11 hb11 hC11 hrd
              have hl1 : ([⟨⟨#[107, 101, 121]⟩, rep m⟩] : List Pr).length = 1 := rfl
              rw [hl1] at hc11
              go_wp2_with fail
              go_region_held3 (fun W => W.cell? ⟨wr.heap.size, 0, none⟩ = some (.string ⟨#[107, 101, 121]⟩) ∧ W.cell? ⟨wr.heap.size, 1, none⟩ = some (.string (rep m)) ∧ W.cell? ad = some (.string ⟨#[107, 101, 121]⟩) ∧ W.cell? ⟨ad.block, ad.off + 1, none⟩ = some (.string (rep m)) ∧ Below W9.heap.size W9 W)
                ((first | assumption | exact kn_keep4 (below_draw2 _) ⟨hy0, hy1, hca, hcb, HB11.out⟩ | exact kn_keep4 (W := w11.drew) (by assumption) (kn_keep4 (below_draw2 _) ⟨hy0, hy1, hca, hcb, HB11.out⟩) | exact kn_keep4 (by assumption) (by assumption)))
                ((first | (go_at_call 14; refine (I.pax_Size.calls ks _ _ L.length _ (HG.out.below (BelowC HB9.out (show Below W9.heap.size W9 _ from last5 (by assumption)))) HKS.out).mono ?_; rintro e w12 ⟨rfl, hb12⟩)))
              go_wp2
              go_roundg g
              case measure => omega
              case rel => exact ⟨i + 1, by have := HIG.out; omega, by go_num, last5 (by assumption)⟩
            | zero =>
              obtain rfl : i = 5 := by omega
              have HBX := Lib.hid (HB9.out.trans (hB.mono HB9.out.size))
              clear hB
              obtain ⟨k6, hk6⟩ := Ev.rounds (record_f (⟨#[97, 98, 99, 100, 101, 102, 103, 104, 105, 106, 107, 108, 109, 110, 111, 112, 113, 114, 115, 116, 117, 118, 119, 120, 121, 122, 49, 50, 51, 52, 53, 54]⟩ : ByteArray) (⟨#[]⟩ : ByteArray))
              obtain ⟨R6, e6⟩ : ∃ R, recErr (⟨#[97, 98, 99, 100, 101, 102, 103, 104, 105, 106, 107, 108, 109, 110, 111, 112, 113, 114, 115, 116, 117, 118, 119, 120, 121, 122, 49, 50, 51, 52, 53, 54]⟩ : ByteArray) (⟨#[]⟩ : ByteArray) = R := ⟨_, rfl⟩
              have e62 : R6.2 = 0 := by rw [← e6]; exact long_key
              obtain ⟨r61, r62⟩ := R6
              obtain rfl : r62 = 0 := e62
              rw [e6] at hk6
              have HK6 := Lib.hid hk6
              obtain ⟨k7, hk7⟩ := Ev.rounds (record_f (⟨#[97, 98, 99, 100, 101, 102, 103, 104, 105, 106, 107, 108, 109, 110, 111, 112, 113, 114, 115, 116, 117, 118, 119, 120, 121, 122, 49, 50, 51, 52, 53, 54, 55]⟩ : ByteArray) (⟨#[]⟩ : ByteArray))
              rw [longer_key] at hk7
              have HK7 := Lib.hid hk7
              clear hk6 hk7 e6
              go_wp2_with fail
              refine (I.pax_Record.calls k6 _ _ _ _ _ (HG.out.below HBX.out) HK6.out).mono ?_
              rintro e x1 ⟨y1, rfl, -, g1⟩
              have G1 := Lib.hid (BelowC HBX.out g1)
              clear g1
              go_wp2_with fail
              refine (I.pax_Record.calls k7 _ _ _ _ _ (HG.out.below G1.out) HK7.out).mono ?_
              rintro e x2 ⟨y2, rfl, -, g2⟩
              have G2 := Lib.hid (BelowC G1.out g2)
              clear g2
              go_wp2_with fail
              refine (refused_calls _ _ _ (by decide) bad1 _ (HG.out.below G2.out)).mono ?_
              rintro e x3 ⟨rfl, g3⟩
              have G3 := Lib.hid (BelowC G2.out g3)
              clear g3
              go_wp2_with fail
              refine (refused_calls _ _ _ (by decide) bad2 _ (HG.out.below G3.out)).mono ?_
              rintro e x4 ⟨rfl, g4⟩
              have G4 := Lib.hid (BelowC G3.out g4)
              clear g4
              go_wp2_with fail
              refine (refused_calls _ _ _ (by decide) bad3 _ (HG.out.below G4.out)).mono ?_
              rintro e x5 ⟨rfl, g5⟩
              have G5 := Lib.hid (BelowC G4.out g5)
              clear g5
              go_wp2_with fail
              refine (refused_calls _ _ _ (by decide) bad4 _ (HG.out.below G5.out)).mono ?_
              rintro e x6 ⟨rfl, g6⟩
              have G6 := Lib.hid (BelowC G5.out g6)
              clear g6
              have hos := other_size
              go_wp2_with fail
              refine (awake_calls _ (HG.out.below G6.out)).mono ?_
              rintro e x7 ⟨rfl, g7⟩
              have G7 := Lib.hid (BelowC G6.out g7)
              clear g7
              go_wp2_with fail
              refine (refused_calls other _ _ (by rw [other_size]; decide) bad5 _ (HG.out.below G7.out)).mono ?_
              rintro e x8 ⟨rfl, g8⟩
              have G8 := Lib.hid (BelowC G7.out g8)
              clear g8
              go_wp2_with fail
              refine (refused_calls _ _ _ (by decide) bad6 _ (HG.out.below G8.out)).mono ?_
              rintro e x9 ⟨rfl, g9⟩
              have G9 := Lib.hid (BelowC G8.out g9)
              clear g9
              go_wp2_with fail
              refine (refused_calls _ _ _ (by decide) bad7 _ (HG.out.below G9.out)).mono ?_
              rintro e x10 ⟨rfl, g10⟩
              have G10 := Lib.hid (BelowC G9.out g10)
              clear g10
              go_wp2_with fail
              refine (refused_calls _ _ _ (by decide) bad8 _ (HG.out.below G10.out)).mono ?_
              rintro e x11 ⟨rfl, g11⟩
              have G11 := Lib.hid (BelowC G10.out g11)
              clear g11
              go_wp2_with fail
              refine (refused_calls _ _ _ (by decide) bad9 _ (HG.out.below G11.out)).mono ?_
              rintro e x12 ⟨rfl, g12⟩
              have G12 := Lib.hid (BelowC G11.out g12)
              clear g12
              go_wp2
              go_ret
              exact ⟨rfl, G12.out⟩
end Go.Proofs.YtkkffccdkbijkaaDoor.H
