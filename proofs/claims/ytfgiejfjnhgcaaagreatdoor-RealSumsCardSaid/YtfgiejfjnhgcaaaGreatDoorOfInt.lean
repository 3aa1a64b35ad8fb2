/- The walks of word.Signed and real.OfInt. -/
import Derived.Test.YtfgiejfjnhgcaaaGreatDoorRealOps
import Derived.Test.YtfgiejfjnhgcaaaGreatDoorExact
namespace Go.Proofs.YtfgiejfjnhgcaaaGreatDoor
open Go Go.RowKit SolF

set_option maxRecDepth 100000 in
theorem signed_any (a : Nat) (w : World) : Calls Tryz.prog 42 #[.int .u32 (a : Int)] w fun e w' => e = .returned (.int .i64 (wrap32 a)) ∧ w = w' := by
  go_enter Tryz.func42, Tryz.ntmps42
  go_wp2
  go_ret
  exact ⟨congrArg (fun x => Ending.returned (.int .i64 x)) (by unfold wrap64 wrap32; omega), rfl⟩

set_option maxRecDepth 100000 in
theorem ofInt_any (a : Nat) (w : World) : Calls Tryz.prog 20 #[.int .u32 (a : Int)] w fun e w' => e = .returned (.int .u64 (canon (floatOfInt .f64 (wrap32 a)) : Nat)) ∧ w = w' := by
  have hS := signed_any a w
  generalize wrap32 (a : Int) = x at *
  have HS := Lib.hid hS
  clear hS
  go_enter Tryz.func20, Tryz.ntmps20
  go_wp2_with fail
  refine HS.out.mono ?_
  rintro e w' ⟨rfl, rfl⟩
  go_wp2_with fail
  refine (bits_any _ _).mono ?_
  rintro e w' ⟨rfl, rfl⟩
  go_wp2
  go_ret
  exact ⟨rfl, rfl⟩

theorem floatOfInt_num (n : Int) : (rd (floatOfInt .f64 n)).isNaN = false := by
  show (rd (Ieee.double.write (.number (decide (n < 0)) n.natAbs 0))).isNaN = false
  exact write_num _ rfl

/-- a word below 2 to the 31 -/
theorem ofInt_small (a : Nat) (w : World) (ha : a < 2147483648) : Calls Tryz.prog 20 #[.int .u32 (a : Int)] w fun e w' => e = .returned (.int .u64 (ofNat a : Nat)) ∧ w = w' := by
  have h : wrap32 (a : Int) = a := by unfold wrap32; omega
  have h2 := ofInt_any a w
  rw [h, canon_num (floatOfInt_num _), floatOfInt_nat] at h2
  exact h2
end Go.Proofs.YtfgiejfjnhgcaaaGreatDoor
