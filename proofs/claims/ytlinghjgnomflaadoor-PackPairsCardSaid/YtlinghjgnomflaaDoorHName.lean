/- name.Each and name.Check: what their calls do. -/
import Derived.RangeFuncNested
import Derived.RangeFuncBound
import Derived.RangeFuncCalls
import Derived.RangeFuncLeaves
import Derived.RangeFuncBox
import Derived.RangeFuncFrom
import Derived.Shelf.Abstract
import Derived.Shelf.RegionOpen
import Derived.WalkKit
import Derived.OwnWalkIn
import Derived.TacticsInMore
import Derived.LoopNIn
import Derived.LoopIn
import Derived.Outline
import Derived.Test.YtlinghjgnomflaaDoorHPcs
import Derived.Test.YtlinghjgnomflaaDoorShelf
namespace Go.Proofs.YtlinghjgnomflaaDoor.H
open Go.RowKit Go.Shelf
attribute [local go_sem] Oper.semAt_some

/-- A piece and its place, within a length. -/
abbrev Pc (s : ByteArray) := { x : Nat × ByteArray // x.1 + x.2.size ≤ s.size }
/-- What a round keeps for the iterator: the box that it reads. -/
def Kb (Bp : Nat) (s : ByteArray) (W W' : World) : Prop := Boxed W Bp 9 (.string s) → Boxed W' Bp 9 (.string s)
theorem kb_t {Bp : Nat} {s : ByteArray} {A B C : World} (h : Kb Bp s A B) (k : Kb Bp s B C) : Kb Bp s A C := fun x => k (h x)
theorem kb_b {Bp : Nat} {s : ByteArray} {m : Nat} (W : World) (l : Nat) (o o' : Obj) (_ : m ≤ l) (h : W.heap[l]? = some o) (hc : o.isCells = false) (_ : o.isWalk = false) : Kb Bp s W (W.putObj l o') := fun b => by
  refine (World.putObj_heap_other (fun e => ?_)).trans b
  subst e
  rw [show W.heap[Bp]? = _ from b] at h; cases h; cases hc
theorem boxed_below {w W : World} (h : Below w.heap.size w W) {B : Nat} {t : TypeId} {v : Value} (hb : Boxed w B t v) : Boxed W B t v := (h.block B hb.lt).trans hb
def encPc {s : ByteArray} (x : Pc s) : Array Value := #[.int .i64 (x.1.1 : Int), .string x.1.2]

theorem indexByte_is (s : ByteArray) (c : Int) (u : UInt8) (hu : c.toNat.toUInt8 = u) (w : World) :
    Calls Tryd.prog 43 #[.string s, .int .u8 c] w fun e w' => e = .returned (.int .i64 (ixb s u)) ∧ w' = w := by
  subst hu; exact Tryd.strings_IndexByte s c w

theorem inw {n : Nat} {P : Program} {f : FuncId} {args : Array Value} {w : World} {R : Ending → World → Prop} (h : Calls P f args w R) : CallsIn Fence.wide n P f args w R := callsIn_wide.2 h
theorem nxt_is (s : ByteArray) (i n : Nat) (w : World) : CallsIn Fence.wide n Tryd.prog 43 #[.string (s.extract i s.size), .int .u8 47] w fun e w' => e = .returned (.int .i64 (nxt s i)) ∧ w = w' :=
  inw ((indexByte_is _ 47 47 rfl w).mono fun _ _ h => ⟨h.1, h.2.symm⟩)

set_option maxRecDepth 100000 in
set_option maxHeartbeats 1000000 in
theorem each1_in (s : ByteArray) (hs : s.size ≤ 400) (n l Bp : Nat) (h1 : 1 ≤ n) (J Jx : List (Pc s) → World → Prop)
    (hY : ∀ pre x W, J pre W → pre.length < s.size + 1 → YieldAt Fence.wide (n - 1) Tryd.prog l (encPc x) W fun e W' =>
      (e = .returned (.bool true) ∧ J (pre ++ [x]) W' ∧ Kb Bp s W W') ∨ (e = .returned (.bool false) ∧ Jx (pre ++ [x]) W'))
    (W : World) (hbox : Boxed W Bp 9 (.string s)) (h0 : J [] W) :
    CallsIn Fence.wide n Tryd.prog 57 #[.func (.yield l) #[] #[], .pointer (some ⟨Bp, 0, none⟩)] W fun e W' => (∃ v, e = .returned v) ∧
      ((∃ ys : List (Pc s), ys.map (·.1) = pcs s 0 ∧ J ys W') ∨ (∃ pre : List (Pc s), pre.map (·.1) <+: pcs s 0 ∧ Jx pre W')) := by
  refine callsIn_of_wp Tryd.func57 rfl trivial ?_ rfl
  have HB0 := Lib.hid hbox
  clear hbox
  simp only [Tryd.ntmps57, List.size_toArray, List.length_cons, List.length_nil, Nat.reduceAdd, Nat.reduceSub, Array.replicate_succ, Array.replicate_zero, List.push_toArray, List.append_toArray, List.nil_append, List.cons_append]
  gi_wp2
  gi_loopw [3] (fun a wr => ∃ (i : Nat) (pre : List (Pc s)), i ≤ s.size ∧ a = .int .i64 i ∧ pre.map (·.1) ++ pcs s i = pcs s 0 ∧ pre.length ≤ i ∧ J pre wr ∧ Go.RowKit.Hid (Boxed wr Bp 9 (.string s)))
    (fun a _ => s.size + 1 - (Go.RowKit.intOf a).toNat)
  case atStart => exact ⟨0, [], by omega, rfl, rfl, Nat.zero_le _, h0, HB0⟩
  case round =>
    obtain ⟨i, pre, hi, rfl, hpre, hlen, hJ, hnx⟩ := hrel
    have hcw : wr.cell? ⟨Bp, 0, none⟩ = some (.string s) := hnx.out.cell
    have hge := nxt_ge s i
    by_cases hn : nxt s i < 0
    · obtain ⟨fn, tmps, assign, body, hy, hR⟩ := hY pre ⟨(i, s.extract i s.size), by simp; omega⟩ wr hJ (by omega)
      dsimp only [encPc] at hy
      gi_wp2_with (refine ⟨trivial, ?_⟩; gi_at_call 43; refine (nxt_is _ _ _ _).mono ?_; rintro e w' ⟨rfl, rfl⟩)
      refine hR.mono ?_
      rintro e W3 (⟨rfl, hJ3, hk3⟩ | ⟨rfl, hJx3⟩)
      · gi_wp2
        refine bodyPost_ret (results_none rfl _ _ _) rfl ?_
        exact ⟨⟨_, rfl⟩, .inl ⟨_, by rw [← hpre, pcs_last s i hn]; simp, hJ3⟩⟩
      · gi_wp2
        refine bodyPost_ret (results_none rfl _ _ _) rfl ?_
        exact ⟨⟨_, rfl⟩, .inr ⟨_, by rw [← hpre, pcs_last s i hn]; simp, hJx3⟩⟩
    · have hlt := nxt_lt s i (by omega)
      obtain ⟨m, hm⟩ : ∃ m : Nat, nxt s i = m := ⟨(nxt s i).toNat, by omega⟩
      have N := fun k w => nxt_is s i k w
      have hpm := pcs_more s i (by omega)
      rw [hm] at N hlt hpm
      have hmm : (m : Int).toNat = m := by omega
      rw [hmm] at hlt hpm
      have hL := Lib.hid hpm
      have hP := Lib.hid hpre
      clear hn hge hm hmm hpm hpre
      have hle : (i : Int) + (m : Int) ≤ (s.size : Int) := by omega
      have hle0 : (i : Int) ≤ (i : Int) + (m : Int) := by omega
      have htn : ((i : Int) + (m : Int)).toNat = i + m := by omega
      obtain ⟨fn, tmps, assign, body, hy, hR⟩ := hY pre ⟨(i, s.extract i (i + m)), by simp; omega⟩ wr hJ (by omega)
      dsimp only [encPc] at hy
      gi_wp2_with (refine ⟨trivial, ?_⟩; gi_at_call 43; refine (N _ _).mono ?_; rintro e w' ⟨rfl, rfl⟩)
      refine hR.mono ?_
      rintro e W3 (⟨rfl, hJ3, hk3⟩ | ⟨rfl, hJx3⟩)
      · gi_wp2
        go_roundw
        case rel => exact ⟨i + m + 1, _, by omega, by go_num, by rw [← hP.out, hL.out]; simp, by simp; omega, hJ3, Lib.hid (hk3 hnx.out)⟩
        case measure => simp [Go.RowKit.intOf]; omega
      · gi_wp2
        refine bodyPost_ret (results_none rfl _ _ _) rfl ?_
        exact ⟨⟨_, rfl⟩, .inr ⟨_, by rw [← hP.out, hL.out]; simp, hJx3⟩⟩

theorem each_stops (s : ByteArray) (hs : s.size ≤ 400) (n Bp : Nat) (h1 : 1 ≤ n) (w : World) (hc : Boxed w Bp 9 (.string s)) :
    SeqStopsK Fence.wide n Tryd.prog 57 #[.pointer (some ⟨Bp, 0, none⟩)] (encPc (s := s)) (Kb Bp s) (fun ys => ys.map (·.1) = pcs s 0) (fun pre => pre.map (·.1) <+: pcs s 0) (s.size + 1) w :=
  fun l J Jx W hW _ _ hY h0 => each1_in s hs n l Bp h1 J Jx hY W (boxed_below hW hc) h0

set_option maxHeartbeats 1000000 in
theorem each_in (s : ByteArray) (n : Nat) (w : World) :
    CallsIn Fence.wide n Tryd.prog 42 #[.string s] w fun e w' => e = .returned (.func (.func 57) #[] #[.pointer (some ⟨w.heap.size, 0, none⟩)]) ∧ w' = w.alloc (.cells #[.string s] 9) := by
  refine callsIn_of_wp Tryd.func42 rfl trivial ?_ rfl
  simp only [Tryd.ntmps42, List.size_toArray, List.length_cons, List.length_nil, Nat.reduceAdd, Nat.reduceSub, Array.replicate_succ, Array.replicate_zero, List.push_toArray, List.append_toArray, List.nil_append, List.cons_append]
  gi_wp2
  go_ret
  exact ⟨rfl, rfl⟩
end Go.Proofs.YtlinghjgnomflaaDoor.H
