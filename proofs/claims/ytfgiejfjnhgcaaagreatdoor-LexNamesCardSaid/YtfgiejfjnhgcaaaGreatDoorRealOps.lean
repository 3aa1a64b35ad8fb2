/- The walks of package real's operations on bits: of, bits, Canon, Neg, Do, Compare, and the law's helpers do, is. -/
import Derived.Test.YtfgiejfjnhgcaaaGreatDoorProg
import Derived.WalkKit
import Derived.WalkLawsBesides
import Derived.WalkSpells
import Derived.Outline
import Derived.Lib.Hide
import Derived.Laws.Externs
import Derived.Laws.BitsAllLaws
import Derived.Deep.Draws
import Derived.Laws.FloatArith
import Derived.Test.YtfgiejfjnhgcaaaGreatDoorFloatSums
namespace Go.Proofs.YtfgiejfjnhgcaaaGreatDoor
open Go Go.RowKit SolF

theorem ret_float {k : FloatKind} {a b : Nat} (h : a = b) : Ending.returned (.float k a) = .returned (.float k b) := by rw [h]
theorem frombits (a : Nat) (w : World) : (callFunc 68 #[.int .u64 (a : Int)]).run Tryz.prog w = .ok (.value (.float .f64 a)) w := by
  rw [run_callFunc_extern Tryz.func68 (by kernel_rfl) (by kernel_rfl) (by kernel_rfl) (e := Extern.MathFloatBits.float64frombits) (by kernel_rfl)]
  rfl
theorem tobits (a : Nat) (w : World) : (callFunc 67 #[.float .f64 a]).run Tryz.prog w = .ok (.value (.int .u64 (a : Int))) w := by
  rw [run_callFunc_extern Tryz.func67 (by kernel_rfl) (by kernel_rfl) (by kernel_rfl) (e := Extern.MathFloatBits.float64bits) (by kernel_rfl)]
  rfl

theorem frombits_int (n : Int) (w : World) : (callFunc 68 #[.int .u64 n]).run Tryz.prog w = .ok (.value (.float .f64 n.toNat)) w := by
  rw [run_callFunc_extern Tryz.func68 (by kernel_rfl) (by kernel_rfl) (by kernel_rfl) (e := Extern.MathFloatBits.float64frombits) (by kernel_rfl)]
  rfl
theorem of_int (n : Int) (w : World) : Calls Tryz.prog 40 #[.int .u64 n] w fun e w' => e = .returned (.float .f64 n.toNat) ∧ w = w' := by
  have h1 := frombits_int n w
  go_enter Tryz.func40, Tryz.ntmps40
  go_wp2
  go_ret
  exact ⟨rfl, rfl⟩
theorem of_any (a : Nat) (w : World) : Calls Tryz.prog 40 #[.int .u64 (a : Int)] w fun e w' => e = .returned (.float .f64 a) ∧ w = w' := by
  have h1 := frombits a w
  go_enter Tryz.func40, Tryz.ntmps40
  go_wp2
  go_ret
  exact ⟨rfl, rfl⟩

theorem isNaN_any (a : Nat) (w : World) : Calls Tryz.prog 46 #[.float .f64 a] w fun e w' => e = .returned (.bool (rd a).isNaN) ∧ w = w' := by
  have hs := Lib.hid (order_self a)
  go_enter Tryz.func46, Tryz.ntmps46
  go_wp2
  go_ret
  exact ⟨congrArg (fun b => Ending.returned (.bool b)) hs.out, rfl⟩

theorem bits_any (a : Nat) (w : World) : Calls Tryz.prog 39 #[.float .f64 a] w fun e w' => e = .returned (.int .u64 (canon a : Nat)) ∧ w = w' := by
  have h1 := tobits a w
  have hI := isNaN_any a w
  by_cases h : (rd a).isNaN = true
  · rw [canon_nan h]
    rw [h] at hI
    clear h
    have HI := Lib.hid hI
    clear hI
    go_enter Tryz.func39, Tryz.ntmps39
    go_wp2_with fail
    refine HI.out.mono ?_
    rintro e w' ⟨rfl, rfl⟩
    go_wp2
    go_ret
    exact ⟨rfl, rfl⟩
  · have h' : (rd a).isNaN = false := by simpa using h
    rw [canon_num h']
    rw [h'] at hI
    clear h h'
    have HI := Lib.hid hI
    clear hI
    go_enter Tryz.func39, Tryz.ntmps39
    go_wp2_with fail
    refine HI.out.mono ?_
    rintro e w' ⟨rfl, rfl⟩
    go_wp2
    go_ret
    exact ⟨rfl, rfl⟩

theorem canon_any (a : Nat) (w : World) : Calls Tryz.prog 17 #[.int .u64 (a : Int)] w fun e w' => e = .returned (.int .u64 (canon a : Nat)) ∧ w = w' := by
  go_enter Tryz.func17, Tryz.ntmps17
  go_wp2_with fail
  refine (of_any a _).mono ?_
  rintro e w' ⟨rfl, rfl⟩
  go_wp2_with fail
  refine (bits_any a _).mono ?_
  rintro e w' ⟨rfl, rfl⟩
  go_wp2
  go_ret
  exact ⟨rfl, rfl⟩

theorem copysign_any (a b : Nat) (w : World) (ha : a < 18446744073709551616) (hb : b < 18446744073709551616) :
    Calls Tryz.prog 41 #[.float .f64 a, .float .f64 b] w fun e w' => e = .returned (.float .f64 ((a &&& 9223372036854775807) ||| (b &&& 9223372036854775808))) ∧ w = w' := by
  have h1 := tobits a w
  have h2 := tobits b w
  have h3 := fun n => frombits_int n w
  have e1 := Lib.hid (u64_andNot_nat a 9223372036854775808 ha (by decide))
  have e2 := Lib.hid (u64_and_nat b 9223372036854775808 hb (by decide))
  have e3 := Lib.hid (u64_or_nat (a &&& 9223372036854775807) (b &&& 9223372036854775808) (Nat.lt_of_le_of_lt Nat.and_le_left ha) (Nat.lt_of_le_of_lt Nat.and_le_left hb))
  go_enter Tryz.func41, Tryz.ntmps41
  go_wp2
  go_ret
  refine ⟨ret_float ?_, rfl⟩
  rw [show bits BinOp.andNot IntKind.u64 (a : Int) 9223372036854775808 = ((a &&& 9223372036854775807 : Nat) : Int) from e1.out, show bits BinOp.and IntKind.u64 (b : Int) 9223372036854775808 = ((b &&& 9223372036854775808 : Nat) : Int) from e2.out, e3.out, Int.toNat_natCast]

theorem neg_any (a : Nat) (w : World) (ha : a < 18446744073709551616) : Calls Tryz.prog 18 #[.int .u64 (a : Int)] w fun e w' => e = .returned (.int .u64 (neg a : Nat)) ∧ w = w' := by
  have ex := u64_xor_nat a 9223372036854775808 ha (by decide)
  rw [xor_top a ha] at ex
  have EX := Lib.hid ex
  clear ex
  go_enter Tryz.func18, Tryz.ntmps18
  go_wp2_with fail
  refine (of_any a _).mono ?_
  rintro e w' ⟨rfl, rfl⟩
  go_wp2_with fail
  refine (of_int _ _).mono ?_
  rintro e w' ⟨rfl, rfl⟩
  go_wp2_with fail
  rw [show (bits BinOp.xor IntKind.u64 (a : Int) 9223372036854775808).toNat = flip a from by rw [show bits BinOp.xor IntKind.u64 (a : Int) 9223372036854775808 = ((flip a : Nat) : Int) from EX.out, Int.toNat_natCast]]
  refine (copysign_any a (flip a) _ ha (flip_lt ha)).mono ?_
  rw [copysign_flip a ha]
  rintro e w' ⟨rfl, rfl⟩
  go_wp2_with fail
  refine (bits_any (flip a) _).mono ?_
  rintro e w' ⟨rfl, rfl⟩
  go_wp2
  go_ret
  exact ⟨rfl, rfl⟩

/-- a NaN of the model's own choice is one -/
theorem nan_cut (t : Nat) (x y : Nat) : (rd ((Question.nanBits .f64 x y).cut t)).isNaN = true := by
  have h : (Question.nanBits .f64 x y).cut t = t % 2 * 9223372036854775808 + 9218868437227405312 + 1 + t / 2 % 4503599627370495 := rfl
  rw [h, rd_eq]
  have h2 : (t % 2 * 9223372036854775808 + 9218868437227405312 + 1 + t / 2 % 4503599627370495) % 9223372036854775808 = 9218868437227405313 + t / 2 % 4503599627370495 := by omega
  rw [h2]
  unfold rdF
  rw [if_neg (by omega), if_neg (by omega), if_neg (by omega)]
  rfl

/-- an operation on floats gives a number whose bits, NaN in its one form, are the plain function's -/
theorem run_float_any {P : Program} (op : BinOp) (t : TypeId) (x y : Nat) (w : World) (hop : op = .add ∨ op = .sub ∨ op = .mul ∨ op = .quo) :
    ∃ r n, canon r = bitsOf (floatBits op .f64 x y) ∧ (binOp op t (.float .f64 x) (.float .f64 y)).run P w = .ok (.float .f64 r) (w.drewN n) := by
  cases h : floatBits op .f64 x y with
  | some r => exact ⟨r, 0, rfl, run_float_arith w op t .f64 x y r h⟩
  | none =>
    refine ⟨(Question.nanBits .f64 x y).cut (w.tape w.drawn (.nanBits .f64 x y)), 1, canon_nan (nan_cut _ _ _), ?_⟩
    rcases hop with rfl | rfl | rfl | rfl <;> (unfold floatBits at h; simp only at h; simp [binOp, Op.floatArith, h, choose, Sem.run, Question.forced, World.drewN])

/-- nothing but answers of the tape has been taken -/
def Drawn (w w' : World) : Prop := ∃ n, w' = w.drewN n

theorem do_add (a b : Nat) (w : World) : Calls Tryz.prog 37 #[.int .i64 45, .int .u64 (a : Int), .int .u64 (b : Int)] w fun e w' => e = .returned (.tuple #[.int .u64 (fadd a b : Nat), .int .i64 0]) ∧ Drawn w w' := by
  obtain ⟨r, n, hc, hr⟩ := run_float_any (P := Tryz.prog) .add 62 a b w (by simp)
  have HC := Lib.hid hc
  clear hc
  go_enter Tryz.func37, Tryz.ntmps37
  go_wp2_with (first | (go_at_call 40; refine (of_any _ _).mono ?_; rintro e w' ⟨rfl, rfl⟩) | (go_at_call 39; refine (bits_any _ _).mono ?_; rintro e w' ⟨rfl, rfl⟩))
  go_ret2
  exact ⟨by rw [HC.out]; rfl, ⟨n, rfl⟩⟩

theorem do_sub (a b : Nat) (w : World) : Calls Tryz.prog 37 #[.int .i64 46, .int .u64 (a : Int), .int .u64 (b : Int)] w fun e w' => e = .returned (.tuple #[.int .u64 (fsub a b : Nat), .int .i64 0]) ∧ Drawn w w' := by
  obtain ⟨r, n, hc, hr⟩ := run_float_any (P := Tryz.prog) .sub 62 a b w (by simp)
  have HC := Lib.hid hc
  clear hc
  go_enter Tryz.func37, Tryz.ntmps37
  go_wp2_with (first | (go_at_call 40; refine (of_any _ _).mono ?_; rintro e w' ⟨rfl, rfl⟩) | (go_at_call 39; refine (bits_any _ _).mono ?_; rintro e w' ⟨rfl, rfl⟩))
  go_ret2
  exact ⟨by rw [HC.out]; rfl, ⟨n, rfl⟩⟩

theorem do_mul (a b : Nat) (w : World) : Calls Tryz.prog 37 #[.int .i64 47, .int .u64 (a : Int), .int .u64 (b : Int)] w fun e w' => e = .returned (.tuple #[.int .u64 (fmul a b : Nat), .int .i64 0]) ∧ Drawn w w' := by
  obtain ⟨r, n, hc, hr⟩ := run_float_any (P := Tryz.prog) .mul 62 a b w (by simp)
  have HC := Lib.hid hc
  clear hc
  go_enter Tryz.func37, Tryz.ntmps37
  go_wp2_with (first | (go_at_call 40; refine (of_any _ _).mono ?_; rintro e w' ⟨rfl, rfl⟩) | (go_at_call 39; refine (bits_any _ _).mono ?_; rintro e w' ⟨rfl, rfl⟩))
  go_ret2
  exact ⟨by rw [HC.out]; rfl, ⟨n, rfl⟩⟩

theorem do_div (a b : Nat) (w : World) : Calls Tryz.prog 37 #[.int .i64 48, .int .u64 (a : Int), .int .u64 (b : Int)] w fun e w' => e = .returned (.tuple #[.int .u64 (fdiv a b : Nat), .int .i64 0]) ∧ Drawn w w' := by
  obtain ⟨r, n, hc, hr⟩ := run_float_any (P := Tryz.prog) .quo 62 a b w (by simp)
  have HC := Lib.hid hc
  clear hc
  go_enter Tryz.func37, Tryz.ntmps37
  go_wp2_with (first | (go_at_call 40; refine (of_any _ _).mono ?_; rintro e w' ⟨rfl, rfl⟩) | (go_at_call 39; refine (bits_any _ _).mono ?_; rintro e w' ⟨rfl, rfl⟩))
  go_ret2
  exact ⟨by rw [HC.out]; rfl, ⟨n, rfl⟩⟩

/-- a comparison's word -/
def bitN (b : Bool) : Nat := if b then 1 else 0

theorem cmp_eq (a b : Nat) (w : World) : Calls Tryz.prog 38 #[.int .i64 51, .int .u64 (a : Int), .int .u64 (b : Int)] w fun e w' => e = .returned (.tuple #[.int .u32 (bitN (feq a b) : Nat), .int .i64 0]) ∧ w = w' := by
  go_enter Tryz.func38, Tryz.ntmps38
  go_wp2_with (first | (go_at_call 40; refine (of_any _ _).mono ?_; rintro e w' ⟨rfl, rfl⟩))
  · have h : feq a b = true := by assumption
    go_ret2
    exact ⟨by rw [h]; rfl, rfl⟩
  · have h : feq a b = false := by assumption
    go_ret2
    exact ⟨by rw [h]; rfl, rfl⟩

theorem is_eq (a b : Nat) (w : World) : Calls Tryz.prog 16 #[.int .i64 51, .int .u64 (a : Int), .int .u64 (b : Int)] w fun e w' => e = .returned (.bool (feq a b)) ∧ w = w' := by
  cases h : feq a b
  all_goals
    have hc := cmp_eq a b w
    rw [h] at hc
    have HC := Lib.hid hc
    clear hc h
    go_enter Tryz.func16, Tryz.ntmps16
    go_wp2_with fail
    refine HC.out.mono ?_
    rintro e w' ⟨rfl, rfl⟩
    simp only [bitN]
    go_wp2
    go_ret
    exact ⟨rfl, rfl⟩

theorem cmp_lt (a b : Nat) (w : World) : Calls Tryz.prog 38 #[.int .i64 52, .int .u64 (a : Int), .int .u64 (b : Int)] w fun e w' => e = .returned (.tuple #[.int .u32 (bitN (flt a b) : Nat), .int .i64 0]) ∧ w = w' := by
  go_enter Tryz.func38, Tryz.ntmps38
  go_wp2_with (first | (go_at_call 40; refine (of_any _ _).mono ?_; rintro e w' ⟨rfl, rfl⟩))
  · have h : flt a b = true := by assumption
    go_ret2
    exact ⟨by rw [h]; rfl, rfl⟩
  · have h : flt a b = false := by assumption
    go_ret2
    exact ⟨by rw [h]; rfl, rfl⟩

theorem is_lt (a b : Nat) (w : World) : Calls Tryz.prog 16 #[.int .i64 52, .int .u64 (a : Int), .int .u64 (b : Int)] w fun e w' => e = .returned (.bool (flt a b)) ∧ w = w' := by
  cases h : flt a b
  all_goals
    have hc := cmp_lt a b w
    rw [h] at hc
    have HC := Lib.hid hc
    clear hc h
    go_enter Tryz.func16, Tryz.ntmps16
    go_wp2_with fail
    refine HC.out.mono ?_
    rintro e w' ⟨rfl, rfl⟩
    simp only [bitN]
    go_wp2
    go_ret
    exact ⟨rfl, rfl⟩

theorem cmp_le (a b : Nat) (w : World) : Calls Tryz.prog 38 #[.int .i64 53, .int .u64 (a : Int), .int .u64 (b : Int)] w fun e w' => e = .returned (.tuple #[.int .u32 (bitN (fle a b) : Nat), .int .i64 0]) ∧ w = w' := by
  go_enter Tryz.func38, Tryz.ntmps38
  go_wp2_with (first | (go_at_call 40; refine (of_any _ _).mono ?_; rintro e w' ⟨rfl, rfl⟩))
  · have hx : (FloatKind.f64.format.order a b == some Ordering.lt) = true ∨ (FloatKind.f64.format.order a b == some Ordering.eq) = true := by assumption
    have h : fle a b = true := by
      show (_ || _) = true
      rw [Bool.or_eq_true]
      exact hx
    go_ret2
    exact ⟨by rw [h]; rfl, rfl⟩
  · have hx : (FloatKind.f64.format.order a b == some Ordering.lt) = false ∧ (FloatKind.f64.format.order a b == some Ordering.eq) = false := by assumption
    have h : fle a b = false := by
      show (_ || _) = false
      rw [Bool.or_eq_false_iff]
      exact hx
    go_ret2
    exact ⟨by rw [h]; rfl, rfl⟩

theorem is_le (a b : Nat) (w : World) : Calls Tryz.prog 16 #[.int .i64 53, .int .u64 (a : Int), .int .u64 (b : Int)] w fun e w' => e = .returned (.bool (fle a b)) ∧ w = w' := by
  cases h : fle a b
  all_goals
    have hc := cmp_le a b w
    rw [h] at hc
    have HC := Lib.hid hc
    clear hc h
    go_enter Tryz.func16, Tryz.ntmps16
    go_wp2_with fail
    refine HC.out.mono ?_
    rintro e w' ⟨rfl, rfl⟩
    simp only [bitN]
    go_wp2
    go_ret
    exact ⟨rfl, rfl⟩

theorem law_add (a b : Nat) (w : World) : Calls Tryz.prog 19 #[.int .i64 45, .int .u64 (a : Int), .int .u64 (b : Int)] w fun e w' => e = .returned (.int .u64 (fadd a b : Nat)) ∧ Drawn w w' := by
  go_enter Tryz.func19, Tryz.ntmps19
  go_wp2_with fail
  refine (do_add a b _).mono ?_
  rintro e w' ⟨rfl, n, rfl⟩
  go_wp2
  go_ret
  exact ⟨rfl, n, rfl⟩

theorem law_sub (a b : Nat) (w : World) : Calls Tryz.prog 19 #[.int .i64 46, .int .u64 (a : Int), .int .u64 (b : Int)] w fun e w' => e = .returned (.int .u64 (fsub a b : Nat)) ∧ Drawn w w' := by
  go_enter Tryz.func19, Tryz.ntmps19
  go_wp2_with fail
  refine (do_sub a b _).mono ?_
  rintro e w' ⟨rfl, n, rfl⟩
  go_wp2
  go_ret
  exact ⟨rfl, n, rfl⟩

theorem law_mul (a b : Nat) (w : World) : Calls Tryz.prog 19 #[.int .i64 47, .int .u64 (a : Int), .int .u64 (b : Int)] w fun e w' => e = .returned (.int .u64 (fmul a b : Nat)) ∧ Drawn w w' := by
  go_enter Tryz.func19, Tryz.ntmps19
  go_wp2_with fail
  refine (do_mul a b _).mono ?_
  rintro e w' ⟨rfl, n, rfl⟩
  go_wp2
  go_ret
  exact ⟨rfl, n, rfl⟩

theorem law_div (a b : Nat) (w : World) : Calls Tryz.prog 19 #[.int .i64 48, .int .u64 (a : Int), .int .u64 (b : Int)] w fun e w' => e = .returned (.int .u64 (fdiv a b : Nat)) ∧ Drawn w w' := by
  go_enter Tryz.func19, Tryz.ntmps19
  go_wp2_with fail
  refine (do_div a b _).mono ?_
  rintro e w' ⟨rfl, n, rfl⟩
  go_wp2
  go_ret
  exact ⟨rfl, n, rfl⟩

end Go.Proofs.YtfgiejfjnhgcaaaGreatDoor
