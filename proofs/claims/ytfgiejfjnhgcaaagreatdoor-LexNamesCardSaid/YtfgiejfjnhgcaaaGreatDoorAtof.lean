/- The walks of internal/strconv.atof64, parseFloatPrefix, ParseFloat and strconv.ParseFloat where the short road (atof64exact) answers. -/
import Derived.Test.YtfgiejfjnhgcaaaGreatDoorReadFloat
import Derived.Test.YtfgiejfjnhgcaaaGreatDoorExact
namespace Go.Proofs.YtfgiejfjnhgcaaaGreatDoor
open Go Go.RowKit SolF

theorem bool2_false (w : World) : Calls Tryz.prog 163 #[.bool false] w fun e w' => e = .returned (.int .u64 0) ∧ w = w' := by
  go_enter Tryz.func163, Tryz.ntmps163
  go_wp2
  go_ret
  exact ⟨rfl, rfl⟩

set_option maxRecDepth 100000 in
set_option maxHeartbeats 2000000 in
theorem atof64_exact (s : ByteArray) (w : World) (p m : Nat) (E : Int) (r : Nat) (H : Mant s p m) (HT : Told s m E) (T : Tabs w) (h0 : (rsAt s m).mant ≠ 0) (ht : (rsAt s m).trunc = false)
    (hlo : -345 ≤ (rsAt s m).dp + E - (rsAt s m).ndm) (hhi : (rsAt s m).dp + E - (rsAt s m).ndm ≤ 310)
    (HX : ∀ w, Tabs w → Calls Tryz.prog 165 #[.int .u64 (rsAt s m).mant, .int .i64 ((rsAt s m).dp + E - (rsAt s m).ndm), .bool false] w fun e w' => e = .returned (.tuple #[.float .f64 r, .bool true]) ∧ w = w') :
    Calls Tryz.prog 142 #[.string s] w fun e w' => e = .returned (.tuple #[.float .f64 r, .int .i64 s.size, .nilIface]) ∧ w = w' := by
  have hms := H.hm
  have hpm := H.h2
  have hp1 := H.h1
  have hs40 := H.hs
  have c1 := T.opt
  have hS := special_digit s w (by omega) (H.dig 0 (by omega) (by omega))
  have hR := readFloat_any s w p m E H HT
  rw [rfVals_more s m E h0, ht] at hR
  have HX' := HX w T
  clear HX HT
  generalize (rsAt s m).dp + E - (rsAt s m).ndm = x at *
  have t0 : (((rsAt s m).mant : Int) == 0) = false := beq_eq_false_iff_ne.2 (by omega)
  generalize (rsAt s m).mant = d at *
  have HS := Lib.hid hS
  have HR := Lib.hid hR
  have HY := Lib.hid HX'
  have t1 : ¬ (310 : Int) < x := by omega
  have t2 : ¬ x < -345 := by omega
  clear hS hR HX' h0 ht T
  go_enter Tryz.func142, Tryz.ntmps142
  go_wp2_with fail
  refine HS.out.mono ?_
  rintro e w' ⟨rfl, rfl⟩
  go_wp2_with fail
  refine HR.out.mono ?_
  rintro e w' ⟨rfl, rfl⟩
  go_wp2_with fail
  refine (bool2_false _).mono ?_
  rintro e w' ⟨rfl, rfl⟩
  go_wp2_with fail
  refine HY.out.mono ?_
  rintro e w' ⟨rfl, rfl⟩
  go_wp2
  go_ret3
  exact ⟨rfl, rfl⟩

/-- what internal/strconv.ParseFloat comes to, out of what atof64 does: bits and an error -/
theorem parse_of_atof (s : ByteArray) (w : World) (Q : World → World → Prop) (r : Nat) (err : Value)
    (h : Calls Tryz.prog 142 #[.string s] w fun e w' => e = .returned (.tuple #[.float .f64 r, .int .i64 s.size, err]) ∧ Q w w') :
    Calls Tryz.prog 84 #[.string s, .int .i64 64] w fun e w' => e = .returned (.tuple #[.float .f64 r, err]) ∧ Q w w' := by
  have HA := Lib.hid h
  clear h
  have hp : Calls Tryz.prog 120 #[.string s, .int .i64 64] w fun e w' => e = .returned (.tuple #[.float .f64 r, .int .i64 s.size, err]) ∧ Q w w' := by
    go_enter Tryz.func120, Tryz.ntmps120
    go_wp2_with fail
    refine HA.out.mono ?_
    rintro e w' ⟨rfl, hq⟩
    go_wp2
    go_ret3
    exact ⟨rfl, hq⟩
  have HP := Lib.hid hp
  clear hp HA
  have t : ((s.size : Int) != s.size) = false := by rw [bne_eq_false_iff_eq]
  go_enter Tryz.func84, Tryz.ntmps84
  go_wp2_with fail
  refine HP.out.mono ?_
  rintro e w' ⟨rfl, hq⟩
  go_wp2
  go_ret2
  exact ⟨rfl, hq⟩

/-- strconv.ParseFloat where the inner one tells no error -/
theorem public_of_inner (s : ByteArray) (w : World) (Q : World → World → Prop) (r : Nat)
    (h : Calls Tryz.prog 84 #[.string s, .int .i64 64] w fun e w' => e = .returned (.tuple #[.float .f64 r, .nilIface]) ∧ Q w w') :
    Calls Tryz.prog 57 #[.string s, .int .i64 64] w fun e w' => e = .returned (.tuple #[.float .f64 r, .nilIface]) ∧ Q w w' := by
  have HA := Lib.hid h
  clear h
  go_enter Tryz.func57, Tryz.ntmps57
  go_wp2_with fail
  refine HA.out.mono ?_
  rintro e w' ⟨rfl, hq⟩
  go_wp2
  go_ret2
  exact ⟨rfl, hq⟩
end Go.Proofs.YtfgiejfjnhgcaaaGreatDoor
