/- The walks of internal/strconv.special and atof64exact: small mantissas with small exponents are done by one product or quotient. -/
import Derived.Test.YtfgiejfjnhgcaaaGreatDoorProg
import Derived.WalkKit
import Derived.WalkLawsBesides
import Derived.WalkSpells
import Derived.Outline
import Derived.Lib.Hide
import Derived.Laws.BitsAllLaws
import Derived.Deep.Draws
import Derived.Laws.FloatArith
import Derived.Test.YtfgiejfjnhgcaaaGreatDoorFloatSums
import Derived.Test.YtfgiejfjnhgcaaaGreatDoorRS
namespace Go.Proofs.YtfgiejfjnhgcaaaGreatDoor
open Go Go.RowKit SolF

/-- the exact powers of ten, as bits -/
def p10 : List Nat := [4607182418800017408, 4621819117588971520, 4636737291354636288, 4652007308841189376, 4666723172467343360, 4681608360884174848, 4696837146684686336, 4711630319722168320, 4726483295884279808, 4741671816366391296, 4756540486875873280, 4771362005757984768, 4786511204640096256, 4801453603149578240, 4816244402031689728, 4831355200913801216, 4846369599423283200, 4861130398305394688, 4876203697187506176, 4891288408196988160, 4906019910204099648, 4921056587992461136, 4936209963552724370]

/-- what the walks read of package-level variables -/
structure Tabs (w : World) : Prop where
  opt : w.cell? ⟨6, 0, none⟩ = some (.bool true)
  mb : w.cell? ⟨7, 0, none⟩ = some (.int .u64 52)

set_option maxRecDepth 100000 in
theorem special_digit (s : ByteArray) (w : World) (h0 : 0 < s.size) (hd : 48 ≤ bt s 0 ∧ bt s 0 ≤ 57) :
    Calls Tryz.prog 154 #[.string s] w fun e w' => e = .returned (.tuple #[.float .f64 0, .int .i64 0, .bool false]) ∧ w = w' := by
  rw [bt_eq s 0 h0] at hd
  obtain ⟨a, b⟩ := hd
  have hne : ((s.size : Int) == 0) = false := beq_eq_false_iff_ne.2 (by omega)
  have i0 : (0 : Int) < s.size := by omega
  have t1 : ((s[0].toNat : Int) == 43) = false := beq_eq_false_iff_ne.2 (by omega)
  have t2 : ((s[0].toNat : Int) == 45) = false := beq_eq_false_iff_ne.2 (by omega)
  have t3 : ((s[0].toNat : Int) == 105) = false := beq_eq_false_iff_ne.2 (by omega)
  have t4 : ((s[0].toNat : Int) == 73) = false := beq_eq_false_iff_ne.2 (by omega)
  have t5 : ((s[0].toNat : Int) == 110) = false := beq_eq_false_iff_ne.2 (by omega)
  have t6 : ((s[0].toNat : Int) == 78) = false := beq_eq_false_iff_ne.2 (by omega)
  clear a b
  go_enter Tryz.func154, Tryz.ntmps154
  go_wp2
  go_ret3
  exact ⟨rfl, rfl⟩

theorem floatOfInt_nat (m : Nat) : floatOfInt .f64 (m : Int) = ofNat m := by
  unfold floatOfInt FloatKind.nearest FloatKind.encode ofNat
  rw [show decide ((m : Int) < 0) = false from decide_eq_false (by omega), Int.natAbs_natCast]
  rfl

set_option maxRecDepth 100000 in
theorem exact_zero (m : Nat) (w : World) (hm : m < 4503599627370496) (T : Tabs w) :
    Calls Tryz.prog 165 #[.int .u64 (m : Int), .int .i64 0, .bool false] w fun e w' => e = .returned (.tuple #[.float .f64 (ofNat m), .bool true]) ∧ w = w' := by
  have c1 := T.mb
  have hq : (((m : Int) / 4503599627370496) != 0) = false := by rw [bne_eq_false_iff_eq]; omega
  have hf := floatOfInt_nat m
  go_enter Tryz.func165, Tryz.ntmps165
  go_wp2
  go_ret2
  exact ⟨rfl, rfl⟩
end Go.Proofs.YtfgiejfjnhgcaaaGreatDoor
