/- The walks of internal/strconv.prescale, pack64 and parseFloat64 (no sign). -/
import Derived.Test.YtfgiejfjnhgcaaaGreatDoorScale
namespace SolF
open Go
def pack64N (m : Nat) (e : Int) : Nat × Bool :=
  if m &&& 4503599627370496 = 0 then (m, false)
  else if 972 ≤ e then (m &&& 9223372036854775808 ||| 9218868437227405312, true)
  else (m &&& (18446744073709551615 - 4503599627370496) ||| (1075 + e).toNat * 4503599627370496 % 18446744073709551616, false)
end SolF
namespace Go.Proofs.YtfgiejfjnhgcaaaGreatDoor
open Go Go.RowKit SolF Go.Shelf

theorem frombits2 (a : Int) (w : World) : (callFunc 164 #[.int .u64 a]).run Tryz.prog w = .ok (.value (.float .f64 a.toNat)) w := by
  rw [run_callFunc_extern Tryz.func164 (by kernel_rfl) (by kernel_rfl) (by kernel_rfl) (e := Extern.MathFloatBits.float64frombits) (by kernel_rfl)]
  rfl

set_option maxRecDepth 100000 in
theorem prescale_any (b i : Nat) (e lp : Int) (w : World) (x0 x1 x2 : Value) (hi : i < 696) (T : PFTabs w) (he : -5000 ≤ e) (he2 : e ≤ 5000) (hl : -5000 ≤ lp) (hl2 : lp ≤ 5000)
    (hb : w.heap[b]? = some (.cells #[x0, x1, x2] 209 (0, 0))) (_hg : b ≠ 15) :
    Calls Tryz.prog 174 #[.pointer (some ⟨b, 0, none⟩), .int .i64 e, .int .i64 ((i : Int) - 348), .int .i64 lp] w fun en w' => en = .returned (.tuple #[]) ∧
      w' = ((w.setCell ⟨b, 0, none⟩ (.int .u64 (tenHi i : Int))).setCell ⟨b, 1, none⟩ (.int .u64 (tenLo i : Int))).setCell ⟨b, 2, none⟩ (.int .i64 (-(e + lp + 3))) := by
  obtain ⟨t0, t1⟩ := T.tab i hi
  have c0 : w.cell? ⟨b, 0, none⟩ = some x0 := cell_of_row _ _ _ _ _ _ hb
  have c1 : w.cell? ⟨b, 1, none⟩ = some x1 := cell_of_row _ _ _ _ _ _ hb
  have c2 : w.cell? ⟨b, 2, none⟩ = some x2 := cell_of_row _ _ _ _ _ _ hb
  have f0 : w.frozen? ⟨b, 0, none⟩ = false := by simp [World.frozen?, hb]
  have f1 : w.frozen? ⟨b, 1, none⟩ = false := by simp [World.frozen?, hb]
  have f2 : w.frozen? ⟨b, 2, none⟩ = false := by simp [World.frozen?, hb]
  have hsub : (i : Int) - 348 - -348 = (i : Int) := by omega
  have hadd : (i : Int) - 348 + 348 = (i : Int) := by omega
  have hii : (i : Int) < 696 := by omega
  clear hb T
  generalize tenHi i = th at *
  generalize tenLo i = tl at *
  go_enter Tryz.func174, Tryz.ntmps174
  go_wp2
  exact bodyPost_end (results_none rfl _ _ _) rfl ⟨rfl, rfl⟩

def errOf (b : Bool) : Value := if b then .iface 146 (.int .i64 1) else .nilIface
def PackPost (r : Nat × Bool) (w : World) (e : Ending) (w' : World) : Prop := e = .returned (.tuple #[.float .f64 r.1, errOf r.2]) ∧ w = w'
theorem PackPost.mk {r : Nat × Bool} {w : World} {f : Nat} {b : Bool} {v : Value} (h : r = (f, b)) (hv : v = errOf b) : PackPost r w (.returned (.tuple #[.float .f64 f, v])) w := by subst h; subst hv; exact ⟨rfl, rfl⟩
set_option maxRecDepth 100000 in
theorem pack_any (m : Nat) (e : Int) (w : World) (hm : m < 18446744073709551616) (h1 : -1075 ≤ e) (h2 : e ≤ 5000) :
    Calls Tryz.prog 181 #[.int .u64 (m : Int), .int .i64 e] w (PackPost (pack64N m e) w) := by
  have ha := u64_and_nat m 4503599627370496 hm (by decide)
  have ha2 := u64_and_nat m 9223372036854775808 hm (by decide)
  have hn := u64_andNot_nat m 4503599627370496 hm (by decide)
  have hn' : bits BinOp.andNot IntKind.u64 (m : Int) 4503599627370496 = ((m &&& (18446744073709551615 - 4503599627370496) : Nat) : Int) := hn
  have ha' : bits BinOp.and IntKind.u64 (m : Int) 4503599627370496 = ((m &&& 4503599627370496 : Nat) : Int) := ha
  have ha2' : bits BinOp.and IntKind.u64 (m : Int) 9223372036854775808 = ((m &&& 9223372036854775808 : Nat) : Int) := ha2
  have k1 := frombits2
  by_cases h0 : m &&& 4503599627370496 = 0
  · have HX := Lib.hid (show pack64N m e = (m, false) by unfold pack64N; rw [if_pos h0])
    rw [h0] at ha'
    clear ha ha2 hn hn' ha2' h0
    go_enter Tryz.func181, Tryz.ntmps181
    go_wp2
    go_ret2
    exact PackPost.mk HX.out rfl
  have hz : (((m &&& 4503599627370496 : Nat) : Int) == 0) = false := beq_eq_false_iff_ne.2 (by omega)
  have hlt : m &&& 9223372036854775808 < 18446744073709551616 := Nat.lt_of_le_of_lt Nat.and_le_left hm
  have hlt2 : m &&& (18446744073709551615 - 4503599627370496) < 18446744073709551616 := Nat.lt_of_le_of_lt Nat.and_le_left hm
  by_cases h9 : 972 ≤ e
  · have HX := Lib.hid (show pack64N m e = (m &&& 9223372036854775808 ||| 9218868437227405312, true) by unfold pack64N; rw [if_neg h0, if_pos h9])
    have ho := u64_or_nat (m &&& 9223372036854775808) 9218868437227405312 hlt (by decide)
    have ho' : bits BinOp.or IntKind.u64 ((m &&& 9223372036854775808 : Nat) : Int) 9218868437227405312 = ((m &&& 9223372036854775808 ||| 9218868437227405312 : Nat) : Int) := ho
    clear ha ha2 hn hn' h0 ho hlt hlt2
    generalize m &&& 9223372036854775808 ||| 9218868437227405312 = r at *
    generalize m &&& 9223372036854775808 = q at *
    generalize m &&& 4503599627370496 = q2 at *
    go_enter Tryz.func181, Tryz.ntmps181
    go_wp2
    go_ret2
    exact PackPost.mk HX.out rfl
  · obtain ⟨k, hk⟩ := Int.eq_ofNat_of_zero_le (show 0 ≤ 1075 + e by omega)
    have hk1 : k < 2047 := by omega
    have HX := Lib.hid (show pack64N m e = (m &&& (18446744073709551615 - 4503599627370496) ||| k * 4503599627370496, false) by
      unfold pack64N; rw [if_neg h0, if_neg h9, hk, Int.toNat_natCast, Nat.mod_eq_of_lt (by omega)])
    obtain rfl : e = (k : Int) - 1075 := by omega
    have hsum : (1075 : Int) + ((k : Int) - 1075) = (k : Int) := by omega
    have ho := u64_or_nat (m &&& (18446744073709551615 - 4503599627370496)) (k * 4503599627370496) hlt2 (by omega)
    have ho' : bits BinOp.or IntKind.u64 ((m &&& (18446744073709551615 - 4503599627370496) : Nat) : Int) ((k : Int) * 4503599627370496) = ((m &&& (18446744073709551615 - 4503599627370496) ||| k * 4503599627370496 : Nat) : Int) := by
      rw [← show ((k * 4503599627370496 : Nat) : Int) = (k : Int) * 4503599627370496 by omega]; exact ho
    clear ha ha2 hn ha2' h0 ho hlt hlt2 hk
    have hsh : IntKind.u64.wrap ((k : Int) * 4503599627370496) = (k : Int) * 4503599627370496 := by rw [IntKind.wrap_u64]; omega
    generalize m &&& (18446744073709551615 - 4503599627370496) ||| k * 4503599627370496 = r at *
    generalize m &&& (18446744073709551615 - 4503599627370496) = q at *
    generalize m &&& 4503599627370496 = q2 at *
    go_enter Tryz.func181, Tryz.ntmps181
    go_wp2
    go_ret2
    exact PackPost.mk HX.out rfl
end Go.Proofs.YtfgiejfjnhgcaaaGreatDoor
