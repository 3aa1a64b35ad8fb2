/- The walks of internal/strconv.uscale and the small functions round it. -/
import Derived.Test.YtfgiejfjnhgcaaaGreatDoorExactAll
import Derived.Test.YtfgiejfjnhgcaaaGreatDoorShelfB
import Derived.Test.YtfgiejfjnhgcaaaGreatDoorAtof
import Derived.Deep.QuietTactic
import Derived.BigQuiet
namespace SolF
open Go
/-- x times the power, unrounded: what uscale does -/
def uscaleN (x hi lo s : Nat) : Nat :=
  if x * hi / 18446744073709551616 / 2 ^ s * 2 ^ s ≠ x * hi / 18446744073709551616 then x * hi / 18446744073709551616 / 2 ^ s ||| 1
  else (x * hi / 18446744073709551616 + 18446744073709551616 - (if x * hi % 18446744073709551616 < x * lo / 18446744073709551616 then 1 else 0)) % 18446744073709551616 / 2 ^ s |||
    (if 1 < (x * hi % 18446744073709551616 + 18446744073709551616 - x * lo / 18446744073709551616) % 18446744073709551616 then 1 else 0)
def roundN (u : Nat) : Nat := (u + 1 + u / 4 % 2) % 18446744073709551616 / 4
end SolF
namespace Go.Proofs.YtfgiejfjnhgcaaaGreatDoor
open Go Go.RowKit SolF Go.Shelf

theorem mul64_any (x y : Nat) (hx : x < 18446744073709551616) (hy : y < 18446744073709551616) (w : World) : Calls Tryz.prog 110 #[.int .u64 (x : Int), .int .u64 (y : Int)] w fun e w' => e = .returned (.tuple #[.int .u64 ((x * y / 18446744073709551616 : Nat) : Int), .int .u64 ((x * y % 18446744073709551616 : Nat) : Int)]) ∧ w = w' :=
  (Any.bits_Mul64 Tryz.lays264 x y hx hy w).mono fun _ _ h => ⟨h.1, h.2.symm⟩
theorem len64_any (x : Nat) (hx : x < 18446744073709551616) (w : World) : Calls Tryz.prog 132 #[.int .u64 (x : Int)] w fun e w' => e = .returned (.int .i64 (Lib.bitLen x : Nat)) ∧ w = w' :=
  (Any.bits_Len64 Tryz.lays129 x w (by omega) (by omega)).mono fun _ _ h => ⟨h.1, h.2.symm⟩
theorem bool2_any (b : Bool) (w : World) : Calls Tryz.prog 163 #[.bool b] w fun e w' => e = .returned (.int .u64 (b.toNat : Int)) ∧ w = w' := by
  cases b
  all_goals
    go_enter Tryz.func163, Tryz.ntmps163
    go_wp2
    go_ret
    exact ⟨rfl, rfl⟩
theorem bool2i_any (b : Bool) (w : World) : Calls Tryz.prog 133 #[.bool b] w fun e w' => e = .returned (.int .i64 (b.toNat : Int)) ∧ w = w' := by
  cases b
  all_goals
    go_enter Tryz.func133, Tryz.ntmps133
    go_wp2
    go_ret
    exact ⟨rfl, rfl⟩
set_option maxRecDepth 100000 in
theorem log2_any (x : Int) (w : World) (h1 : -400 ≤ x) (h2 : x ≤ 400) : Calls Tryz.prog 173 #[.int .i64 x] w fun e w' => e = .returned (.int .i64 (x * 108853 / 32768)) ∧ w = w' := by
  go_enter Tryz.func173, Tryz.ntmps173
  go_wp2
  go_ret
  exact ⟨rfl, rfl⟩
set_option maxRecDepth 100000 in
theorem unmin_any (w : World) : Calls Tryz.prog 176 #[.int .u64 9007199254740992] w fun e w' => e = .returned (.int .u64 36028797018963966) ∧ w = w' := by
  go_enter Tryz.func176, Tryz.ntmps176
  go_wp2
  go_ret
  exact ⟨rfl, rfl⟩
theorem and_one (u : Nat) (h : u < 18446744073709551616) : bits BinOp.and IntKind.u64 (u : Int) 1 = ((u % 2 : Nat) : Int) := by
  rw [show (1 : Int) = ((1 : Nat) : Int) from rfl, u64_and_nat u 1 h (by decide), Nat.and_one_is_mod]
theorem wrap_nat (n : Nat) : IntKind.u64.wrap (n : Int) = ((n % 18446744073709551616 : Nat) : Int) := by
  rw [IntKind.wrap_u64]; omega
set_option maxRecDepth 100000 in
theorem round_any (u : Nat) (hu : u < 18446744073709551616) (w : World) : Calls Tryz.prog 178 #[.int .u64 (u : Int)] w fun e w' => e = .returned (.int .u64 (roundN u : Nat)) ∧ w = w' := by
  have h1 : (u : Int) / 4 = ((u / 4 : Nat) : Int) := by omega
  have h2 := and_one (u / 4) (by omega)
  have HR := Lib.hid (show IntKind.u64.wrap (IntKind.u64.wrap ((u : Int) + 1) + ((u / 4 % 2 : Nat) : Int)) / 4 = (roundN u : Nat) by
    unfold roundN
    rw [IntKind.wrap_u64, IntKind.wrap_u64]
    omega)
  generalize u / 4 % 2 = q at *
  generalize u / 4 = p at *
  go_enter Tryz.func178, Tryz.ntmps178
  go_wp2
  go_ret
  exact ⟨by rw [← HR.out]; rfl, rfl⟩

theorem i64_and63 (s : Nat) (h : s < 64) : bits .and .i64 (s : Int) 63 = (s : Int) := by
  have h63 : (BitVec.ofInt 64 63).toNat = 2 ^ 6 - 1 := by decide
  have key : (BitVec.ofInt 64 (s : Int) &&& BitVec.ofInt 64 63).toNat = ((s : Int) % ((2 ^ 64 : Nat) : Int)).toNat % 2 ^ 6 := by
    rw [BitVec.toNat_and, BitVec.toNat_ofInt, h63, Nat.and_two_pow_sub_one_eq_mod]
  show IntKind.i64.wrap ((BitVec.ofInt 64 (s : Int) &&& BitVec.ofInt 64 63).toNat : Nat) = (s : Int)
  rw [key, IntKind.wrap_i64]
  omega

set_option maxRecDepth 100000 in
set_option maxHeartbeats 1000000 in
theorem uscale_any (x hi lo s : Nat) (b : Nat) (w : World) (hx : x < 18446744073709551616) (hh : hi < 18446744073709551616) (hl : lo < 18446744073709551616) (hs : s < 64)
    (c0 : w.cell? ⟨b, 0, none⟩ = some (.int .u64 (hi : Int))) (c1 : w.cell? ⟨b, 1, none⟩ = some (.int .u64 (lo : Int))) (c2 : w.cell? ⟨b, 2, none⟩ = some (.int .i64 (s : Int))) :
    Calls Tryz.prog 175 #[.int .u64 (x : Int), .pointer (some ⟨b, 0, none⟩)] w fun e w' => e = .returned (.int .u64 (uscaleN x hi lo s : Nat)) ∧ ∃ n, w' = w.drewN n := by
  have hand := i64_and63 s hs
  have hM1 := Lib.hid (mul64_any x hi hx hh)
  have hM2 := Lib.hid (mul64_any x lo hx hl)
  obtain ⟨U, hU⟩ : ∃ U, U = uscaleN x hi lo s := ⟨_, rfl⟩
  rw [← hU]
  unfold uscaleN at hU
  have hb1 : x * hi / 18446744073709551616 < 18446744073709551616 := by
    rw [Nat.div_lt_iff_lt_mul (by decide)]
    exact Nat.mul_lt_mul'' hx hh
  have hb2 : x * lo / 18446744073709551616 < 18446744073709551616 := by
    rw [Nat.div_lt_iff_lt_mul (by decide)]
    exact Nat.mul_lt_mul'' hx hl
  have hb3 : x * hi % 18446744073709551616 < 18446744073709551616 := Nat.mod_lt _ (by decide)
  generalize x * hi / 18446744073709551616 = h at *
  generalize x * hi % 18446744073709551616 = m1 at *
  generalize x * lo / 18446744073709551616 = m2 at *
  generalize x * lo % 18446744073709551616 = m3 at *
  have hq : (h : Int) / 2 ^ s = ((h / 2 ^ s : Nat) : Int) := by norm_cast
  have hqle : h / 2 ^ s * 2 ^ s ≤ h := Nat.div_mul_le_self _ _
  have hqh : h / 2 ^ s ≤ h := Nat.div_le_self _ _
  have hp : IntKind.u64.wrap (((h / 2 ^ s : Nat) : Int) * 2 ^ s) = ((h / 2 ^ s * 2 ^ s : Nat) : Int) := by
    rw [show ((h / 2 ^ s : Nat) : Int) * 2 ^ s = ((h / 2 ^ s * 2 ^ s : Nat) : Int) by norm_cast, wrap_nat, Nat.mod_eq_of_lt (by omega)]
  have hor := u64_or_nat (h / 2 ^ s) 1 (by omega) (by decide)
  by_cases hne : h / 2 ^ s * 2 ^ s ≠ h
  · rw [if_pos hne] at hU
    have HU := Lib.hid hU
    clear hU
    generalize h / 2 ^ s * 2 ^ s = p at *
    generalize h / 2 ^ s = q at *
    have t1 : ((p : Int) != (h : Int)) = true := by rw [bne_iff_ne]; omega
    clear hne hqle
    go_enter Tryz.func175, Tryz.ntmps175
    go_wp2_with fail
    refine (hM1.out _).mono ?_
    rintro e w' ⟨rfl, rfl⟩
    go_wp2
    go_ret
    exact ⟨by rw [HU.out]; exact congrArg (fun z => Ending.returned (Value.int .u64 z)) hor, 0, rfl⟩
  · rw [if_neg hne] at hU
    have hE : h / 2 ^ s * 2 ^ s = h := by simpa using hne
    rw [hE] at hp
    generalize h / 2 ^ s = q at *
    clear hne hqle hE hor
    have t1 : ((h : Int) != (h : Int)) = false := by rw [bne_eq_false_iff_eq]
    -- the bit that is borrowed, the bit of what is left
    obtain ⟨c, hc⟩ : ∃ c : Bool, c = decide (m1 < m2) := ⟨_, rfl⟩
    have hci : decide (m1 < m2) = c := hc.symm
    have hcn : (if m1 < m2 then 1 else 0 : Nat) = c.toNat := by rw [hc]; split <;> rename_i hh <;> simp [hh]
    rw [hcn] at hU
    have hd0 : IntKind.u64.wrap ((m1 : Int) - (m2 : Int)) = (((m1 + 18446744073709551616 - m2) % 18446744073709551616 : Nat) : Int) := by rw [IntKind.wrap_u64]; omega
    generalize hdd : (m1 + 18446744073709551616 - m2) % 18446744073709551616 = d at *
    obtain ⟨f, hf⟩ : ∃ f : Bool, f = decide (1 < d) := ⟨_, rfl⟩
    have hfi : decide ((1 : Int) < (d : Int)) = f := by rw [hf, decide_eq_decide]; omega
    have hfi2 : decide (1 < d) = f := hf.symm
    have hfn : (if 1 < d then 1 else 0 : Nat) = f.toNat := by rw [hf]; split <;> rename_i hh <;> simp [hh]
    rw [hfn] at hU
    have hct : c.toNat ≤ 1 := by cases c <;> decide
    have hft : f.toNat ≤ 1 := by cases f <;> decide
    have hh0 : IntKind.u64.wrap ((h : Int) - (c.toNat : Int)) = (((h + 18446744073709551616 - c.toNat) % 18446744073709551616 : Nat) : Int) := by rw [IntKind.wrap_u64]; omega
    have hh1 : (h + 18446744073709551616 - c.toNat) % 18446744073709551616 < 18446744073709551616 := Nat.mod_lt _ (by decide)
    generalize (h + 18446744073709551616 - c.toNat) % 18446744073709551616 = g at *
    have hg : (g : Int) / 2 ^ s = ((g / 2 ^ s : Nat) : Int) := by norm_cast
    have hgle : g / 2 ^ s ≤ g := Nat.div_le_self _ _
    have hor := u64_or_nat (g / 2 ^ s) f.toNat (by omega) (by omega)
    generalize g / 2 ^ s = y at *
    have HU := Lib.hid (hor.trans (by rw [← hU]))
    have HB1 := Lib.hid (bool2_any c)
    have HB2 := Lib.hid (bool2_any f)
    generalize c.toNat = cn at *
    generalize f.toNat = fn at *
    clear hor hU hc hf hcn hfn hdd
    go_enter Tryz.func175, Tryz.ntmps175
    go_wp2_with fail
    refine (hM1.out _).mono ?_
    rintro e w' ⟨rfl, rfl⟩
    go_wp2_with fail
    refine (hM2.out _).mono ?_
    rintro e w' ⟨rfl, rfl⟩
    go_wp2_with fail
    refine (HB1.out _).mono ?_
    rintro e w' ⟨rfl, rfl⟩
    go_wp2_with fail
    go_quiet ((go_at_call 163; exact Calls.quiet_of_same ((HB2.out _).mono fun _ _ h => ⟨h.1, h.2.symm⟩)))
    go_wp2
    go_ret
    exact ⟨congrArg (fun z => Ending.returned (Value.int .u64 z)) HU.out, nq, rfl⟩
end Go.Proofs.YtfgiejfjnhgcaaaGreatDoor
