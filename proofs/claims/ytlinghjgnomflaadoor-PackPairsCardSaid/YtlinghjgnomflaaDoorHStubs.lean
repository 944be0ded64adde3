/- Contracts of this session's, in the form that the printed texts call them by. -/
import Derived.Test.YtlinghjgnomflaaDoorQx0
import Derived.Test.YtlinghjgnomflaaDoorHMay
namespace Go.Proofs.YtlinghjgnomflaaDoor.Q
open Go.RowKit Go.Proofs.YtlinghjgnomflaaDoor.H Go.Proofs.YtlinghjgnomflaaDoorW.PrintWords Go.Proofs.YtlinghjgnomflaaDoorW.PrintLast Go.Proofs.YtlinghjgnomflaaDoorW.PrintMore
set_option linter.unusedVariables false

def name_Check.f (a0 : ByteArray) : Option (Int × Int) := some (check a0)
theorem name_Check.calls (a0 : ByteArray) (r1 : Int) (r2 : Int) (w : World) (h : name_Check.f a0 = some (r1, r2)) :
    Calls Tryd.prog 29 #[.string a0] w fun e w' => e = .returned (.tuple #[.int .i64 r1, .int .i64 r2]) ∧ Below w.heap.size w w' := by
  have e := Option.some.inj h
  have := check_calls a0 w
  rw [e] at this
  exact this

def tree_May.f (a0_0 : ByteArray) (a0_1 : Int) (a0_2 : Int) (a0_3 : Int) (l0_4 : List Int) (a0_5 : ByteArray) : Option Int := some (mayErr a0_0 a0_1 a0_2 a0_3 l0_4.length a0_5)
theorem tree_May.calls (a0_0 : ByteArray) (a0_1 : Int) (a0_2 : Int) (a0_3 : Int) (A0_4 : Option Addr) (c0_4 : Nat) (l0_4 : List Int) (a0_5 : ByteArray) (r : Int) (w : World) (hr0_4 : Kd.C (Kd.int .u8) w A0_4 l0_4.length l0_4) (hc0_4 : l0_4.length ≤ c0_4) (hG : GOK w) (h : tree_May.f a0_0 a0_1 a0_2 a0_3 l0_4 a0_5 = some r) :
    Calls Tryd.prog 20 #[.agg #[.string a0_0, .int .u8 a0_1, .int .i64 a0_2, .int .i64 a0_3, .slice A0_4 l0_4.length c0_4, .string a0_5]] w fun e w' => e = .returned (.int .i64 r) ∧ Below w.heap.size w w' := by
  obtain rfl := Option.some.inj h
  exact may_calls a0_0 a0_1 a0_2 a0_3 A0_4 l0_4.length c0_4 a0_5 w hG

/-- slices.Clip of pairs. -/
def api_Pair.f (l0 : List S33) : Option (List S33) := some l0
theorem api_Pair.calls (P0_ : Nat → Prop) (A0 : Option Addr) (c0 : Nat) (l0 : List S33) (r : List S33) (w : World) (hs0 : Kd.V k33 33 w w.heap.size (fun k_ => P0_ k_) (.slice A0 l0.length c0) l0) (h : api_Pair.f l0 = some r) :
    Calls Tryd.prog 22 #[.slice A0 l0.length c0] w fun e w' => ∃ v0_ : Value, e = .returned v0_ ∧ Kd.V k33 33 w' w.heap.size (fun k_ => (P0_ k_ ∨ w.heap.size ≤ k_)) v0_ r ∧ Below w.heap.size w w' := by
  obtain rfl := Option.some.inj h
  obtain ⟨A, c, hv, hc, hF⟩ := hs0
  obtain ⟨rfl, rfl⟩ : A0 = A ∧ c0 = c := by simpa using hv
  have hm := Kd.F_max hF
  have hN : Kd.V k33 33 w w.heap.size (fun k_ => (P0_ k_ ∨ w.heap.size ≤ k_)) (.slice A0 l0.length l0.length) l0 := ⟨A0, l0.length, rfl, Nat.le_refl _, Kd.F_mono hF (fun _ h => .inl h)⟩
  have H := Lib.hid hN
  have hc' : (l0.length : Int) ≤ (c0 : Int) := by omega
  clear hv hF hN
  go_enter Tryd.func22, Tryd.ntmps22
  go_wp2
  go_ret
  exact ⟨_, rfl, H.out, Below.refl _ _⟩
end Go.Proofs.YtlinghjgnomflaaDoor.Q
