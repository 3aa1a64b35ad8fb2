/- The walk of internal/strconv.atof64 where no digit is left out (at most 19), and strconv.ParseFloat there. -/
import Derived.Test.YtfgiejfjnhgcaaaGreatDoorParse64
import Derived.Test.YtfgiejfjnhgcaaaGreatDoorParse
import Derived.Test.YtfgiejfjnhgcaaaGreatDoorShelfU
import Derived.Test.YtfgiejfjnhgcaaaGreatDoorLexTokenAny
namespace Go.Proofs.YtfgiejfjnhgcaaaGreatDoor
open Go Go.RowKit SolF Go.Shelf

/-- bits and 'out of range' of a mantissa of at most 19 digits times a power of ten -/
def fastN (d : Nat) (x : Int) : Nat × Bool :=
  if d = 0 then (0, false)
  else if 310 < x then (9218868437227405312, true)
  else if x < -345 then (0, false)
  else match exactF d x with
    | some r => (r, false)
    | none => parseN d (x + 348).toNat
/-- what atof64 comes to -/
def AtofPost (n : Nat) (r : Nat × Bool) (w : World) (e : Ending) (w' : World) : Prop := e = .returned (.tuple #[.float .f64 r.1, .int .i64 (n : Int), errOf r.2]) ∧ Same w w'
theorem AtofPost.mk {n : Nat} {r : Nat × Bool} {w w' : World} {f : Nat} {b : Bool} {v : Value} (h : r = (f, b)) (hv : v = errOf b) (hs : Same w w') : AtofPost n r w (.returned (.tuple #[.float .f64 f, .int .i64 (n : Int), v])) w' := by subst h; subst hv; exact ⟨rfl, hs⟩

theorem mant_lt (s : ByteArray) (p m : Nat) (H : Mant s p m) : (rsAt s m).mant < 18446744073709551616 := by
  have h := H.ok m (Nat.le_refl _)
  exact Nat.lt_trans h.big (by decide)

set_option maxRecDepth 100000 in
set_option maxHeartbeats 2000000 in
theorem atof64_fast (s : ByteArray) (w : World) (p m : Nat) (E : Int) (H : Mant s p m) (HT : Told s m E) (T : PFTabs w) (ht : (rsAt s m).trunc = false) :
    Calls Tryz.prog 142 #[.string s] w (AtofPost s.size (fastN (rsAt s m).mant (if (rsAt s m).mant = 0 then 0 else (rsAt s m).dp + E - (rsAt s m).ndm)) w) := by
  have hms := H.hm
  have hpm := H.h2
  have hp1 := H.h1
  have hs40 := H.hs
  have c1 := T.opt
  have hS := special_digit s w (by omega) (H.dig 0 (by omega) (by omega))
  have hR := readFloat_any s w p m E H HT
  have hml := mant_lt s p m H
  unfold rfVals at hR
  rw [ht] at hR
  generalize hxx : (if (rsAt s m).mant = 0 then (0 : Int) else (rsAt s m).dp + E - (rsAt s m).ndm) = x at *
  clear hxx HT
  generalize (rsAt s m).mant = d at *
  have HS := Lib.hid hS
  have HR := Lib.hid hR
  have HTT := Lib.hid T
  have k1 := frombits2
  clear hS hR ht T
  by_cases hd : d = 0
  · have HX := Lib.hid (show fastN d x = (0, false) by unfold fastN; rw [if_pos hd])
    subst hd
    go_enter Tryz.func142, Tryz.ntmps142
    go_wp2_with fail
    refine HS.out.mono ?_
    rintro e w' ⟨rfl, rfl⟩
    go_wp2_with fail
    refine HR.out.mono ?_
    rintro e w' ⟨rfl, rfl⟩
    go_wp2_with fail
    refine (bool2_any _ _).mono ?_
    rintro e w' ⟨rfl, rfl⟩
    go_wp2
    go_ret3
    exact AtofPost.mk HX.out rfl (Same.refl _)
  have t0 : ((d : Int) == 0) = false := beq_eq_false_iff_ne.2 (by omega)
  by_cases h1 : 310 < x
  · have HX := Lib.hid (show fastN d x = (9218868437227405312, true) by unfold fastN; rw [if_neg hd, if_pos h1])
    have ho : bits BinOp.or IntKind.u64 0 9218868437227405312 = 9218868437227405312 := by decide
    go_enter Tryz.func142, Tryz.ntmps142
    go_wp2_with fail
    refine HS.out.mono ?_
    rintro e w' ⟨rfl, rfl⟩
    go_wp2_with fail
    refine HR.out.mono ?_
    rintro e w' ⟨rfl, rfl⟩
    go_wp2_with fail
    refine (bool2_any _ _).mono ?_
    rintro e w' ⟨rfl, rfl⟩
    go_wp2
    go_ret3
    exact AtofPost.mk HX.out rfl (Same.refl _)
  by_cases h2 : x < -345
  · have HX := Lib.hid (show fastN d x = (0, false) by unfold fastN; rw [if_neg hd, if_neg h1, if_pos h2])
    go_enter Tryz.func142, Tryz.ntmps142
    go_wp2_with fail
    refine HS.out.mono ?_
    rintro e w' ⟨rfl, rfl⟩
    go_wp2_with fail
    refine HR.out.mono ?_
    rintro e w' ⟨rfl, rfl⟩
    go_wp2_with fail
    refine (bool2_any _ _).mono ?_
    rintro e w' ⟨rfl, rfl⟩
    go_wp2
    go_ret3
    exact AtofPost.mk HX.out rfl (Same.refl _)
  have hFE : fastN d x = match exactF d x with | some r => (r, false) | none => parseN d (x + 348).toNat := by unfold fastN; rw [if_neg hd, if_neg h1, if_neg h2]
  have HE := Lib.hid (exact_any d x w hml (by omega) (by omega) HTT.out)
  cases hex : exactF d x with
  | some r =>
    rw [hex] at HE hFE
    have HX := Lib.hid hFE
    clear hFE hex
    go_enter Tryz.func142, Tryz.ntmps142
    go_wp2_with fail
    refine HS.out.mono ?_
    rintro e w' ⟨rfl, rfl⟩
    go_wp2_with fail
    refine HR.out.mono ?_
    rintro e w' ⟨rfl, rfl⟩
    go_wp2_with fail
    refine (bool2_any _ _).mono ?_
    rintro e w' ⟨rfl, rfl⟩
    go_wp2_with fail
    refine HE.out.mono ?_
    rintro e w' ⟨rfl, rfl⟩
    go_wp2
    go_ret3
    exact AtofPost.mk HX.out rfl (Same.refl _)
  | none =>
    rw [hex] at HE hFE
    have HX := Lib.hid hFE
    clear hFE hex
    obtain ⟨i, hi⟩ := Int.eq_ofNat_of_zero_le (show 0 ≤ x + 348 by omega)
    obtain rfl : x = (i : Int) - 348 := by omega
    rw [hi, Int.toNat_natCast] at HX
    have HP := Lib.hid (parse64_any d i w (by omega) hml (by omega) (by omega) HTT.out)
    clear hi
    go_enter Tryz.func142, Tryz.ntmps142
    go_wp2_with fail
    refine HS.out.mono ?_
    rintro e w' ⟨rfl, rfl⟩
    go_wp2_with fail
    refine HR.out.mono ?_
    rintro e w' ⟨rfl, rfl⟩
    go_wp2_with fail
    refine (bool2_any _ _).mono ?_
    rintro e w' ⟨rfl, rfl⟩
    go_wp2_with fail
    refine HE.out.mono ?_
    rintro e w' ⟨⟨r, rfl⟩, rfl⟩
    go_wp2_with fail
    refine HP.out.mono ?_
    rintro e w2 ⟨rfl, hS2⟩
    go_wp2
    go_ret3
    exact AtofPost.mk HX.out rfl hS2

set_option maxRecDepth 100000 in
/-- strconv.ParseFloat, whatever atof64 tells of the range -/
theorem public_any (s : ByteArray) (w : World) (r : Nat × Bool) (hs : s.size ≤ 281474976710656) (E : LexEnv w)
    (h : Calls Tryz.prog 142 #[.string s] w (AtofPost s.size r w)) :
    Calls Tryz.prog 57 #[.string s, .int .i64 64] w fun e w' => ∃ v, e = .returned (.tuple #[.float .f64 r.1, v]) ∧ Same w w' := by
  have hi := parse_of_atof s w Same r.1 (errOf r.2) h
  obtain ⟨f, b⟩ := r
  cases b with
  | false => exact (public_of_inner s w Same f hi).mono fun e w' h => ⟨_, h.1, h.2⟩
  | true =>
    rw [show errOf (f, true).2 = .iface 146 (.int .i64 1) from rfl] at hi
    have HI := Lib.hid hi
    have HE := Lib.hid E
    clear hi h E
    go_enter Tryz.func57, Tryz.ntmps57
    go_wp2_with fail
    refine HI.out.mono ?_
    rintro e w1 ⟨rfl, hS⟩
    go_wp2_with fail
    obtain ⟨ev, h1, h2⟩ := (HE.out.same hS).er
    refine (AnyPu.strconv_toError_range { Tryz.laysPu14 with } _ s 0 64 ev w1 hs h1 h2).mono ?_
    rintro e w2 ⟨N, rfl, -, -, hB⟩
    clear h1 h2
    go_wp2
    go_ret2
    exact ⟨_, rfl, hS.trans hB⟩
end Go.Proofs.YtfgiejfjnhgcaaaGreatDoor
