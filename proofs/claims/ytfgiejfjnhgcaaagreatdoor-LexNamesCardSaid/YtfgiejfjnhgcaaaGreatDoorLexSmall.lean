/- The walks of package lex's small functions: letter, digit, the closures, while. -/
import Derived.Test.YtfgiejfjnhgcaaaGreatDoorProg
import Derived.WalkKit
import Derived.WalkLawsBesides
import Derived.WalkSpells
import Derived.Outline
import Derived.Lib.Hide
import Derived.Laws.BitsAllLaws
import Derived.Test.YtfgiejfjnhgcaaaGreatDoorRS
import Derived.Test.YtfgiejfjnhgcaaaGreatDoorLexPure
import Derived.Test.YtfgiejfjnhgcaaaGreatDoorLexNumPure
namespace Go.Proofs.YtfgiejfjnhgcaaaGreatDoor
open Go Go.RowKit SolF

set_option maxRecDepth 100000 in
theorem or32_big : ∀ n : Nat, n < 256 → ((97 ≤ (n ||| 32) ∧ (n ||| 32) ≤ 122) ↔ ((97 ≤ n ∧ n ≤ 122) ∨ (65 ≤ n ∧ n ≤ 90))) := by
  decide

theorem ret_bool {a b : Bool} (h : a = b) : Ending.returned (.bool a) = .returned (.bool b) := by rw [h]

set_option maxRecDepth 100000 in
theorem digit_any (c : Nat) (w : World) : Calls Tryz.prog 96 #[.int .u8 (c : Int)] w fun e w' => e = .returned (.bool (isDigit c)) ∧ w = w' := by
  go_enter Tryz.func96, Tryz.ntmps96
  go_wp2
  · have h : (48 : Int) ≤ c := by assumption
    go_ret
    exact ⟨ret_bool (by unfold isDigit; rw [decide_eq_decide]; omega), rfl⟩
  · have h : (c : Int) < 48 := by assumption
    go_ret
    exact ⟨ret_bool (by unfold isDigit; exact (decide_eq_false (by omega)).symm), rfl⟩

set_option maxRecDepth 100000 in
theorem letter_any (c : Nat) (w : World) (hc : c < 256) : Calls Tryz.prog 94 #[.int .u8 (c : Int)] w fun e w' => e = .returned (.bool (isLetter c)) ∧ w = w' := by
  have ho : bits BinOp.or IntKind.u8 (c : Int) 32 = ((c ||| 32 : Nat) : Int) := u8_or_nat c 32 hc (by decide)
  have hb := or32_big c hc
  have HB := Lib.hid hb
  clear hb
  generalize hz : bits BinOp.or IntKind.u8 (c : Int) 32 = z at ho
  have HZ := Lib.hid hz
  have HO := Lib.hid ho
  clear hz ho
  go_enter Tryz.func94, Tryz.ntmps94
  go_wp2
  · have h : (c : Int) = 95 := by assumption
    go_ret
    exact ⟨ret_bool (by unfold isLetter; exact (decide_eq_true (.inl (by omega))).symm), rfl⟩
  · have h1 : ¬ (c : Int) = 95 := by assumption
    have h2 : (97 : Int) ≤ bits BinOp.or IntKind.u8 (c : Int) 32 := by assumption
    have h3 : ((c : Int) == 95) = false := beq_eq_false_iff_ne.2 h1
    go_ret
    refine ⟨ret_bool ?_, rfl⟩
    have hb := HB.out
    rw [HZ.out, HO.out] at h2
    rw [HZ.out, HO.out, h3, Bool.false_or]
    unfold isLetter
    rw [decide_eq_decide]
    constructor
    · intro h; exact .inr (hb.1 ⟨by omega, by omega⟩)
    · intro h
      rcases h with h | h
      · omega
      · have := (hb.2 h).2; omega
  · have h1 : ¬ (c : Int) = 95 := by assumption
    have h2 : bits BinOp.or IntKind.u8 (c : Int) 32 < 97 := by assumption
    have h3 : ((c : Int) == 95) = false := beq_eq_false_iff_ne.2 h1
    go_ret
    refine ⟨ret_bool ?_, rfl⟩
    have hb := HB.out
    rw [HZ.out, HO.out] at h2
    rw [h3]
    unfold isLetter
    refine (decide_eq_false ?_).symm
    intro h
    rcases h with h | h
    · omega
    · have := (hb.2 h).1; omega

/-- a function value of package lex that tells of a byte: its number and what it tells -/
def Tells (f : FuncId) (p : Nat → Bool) : Prop := ∀ (c : Nat) (w : World), c < 256 → Calls Tryz.prog f #[.int .u8 (c : Int)] w fun e w' => e = .returned (.bool (p c)) ∧ w = w'
theorem Tells.at {f : FuncId} {p : Nat → Bool} (h : Tells f p) (c : Nat) (w : World) (hc : c < 256) : Calls Tryz.prog f #[.int .u8 (c : Int)] w fun e w' => e = .returned (.bool (p c)) ∧ w = w' := h c w hc

theorem tells_digit : Tells 96 isDigit := fun c w _ => digit_any c w
set_option maxRecDepth 100000 in
theorem tells_line : Tells 92 notLine := fun c w _ => by
  have HE := Lib.hid (show ((c : Int) != 10) = notLine c by unfold notLine; rw [Bool.eq_iff_iff, bne_iff_ne, bne_iff_ne]; omega)
  go_enter Tryz.func92, Tryz.ntmps92
  go_wp2
  go_ret
  exact ⟨ret_bool HE.out, rfl⟩
set_option maxRecDepth 100000 in
theorem tells_named : Tells 95 isNamed := fun c w hc => by
  have hl := letter_any c w hc
  have hd := digit_any c w
  have HN := Lib.hid (show isNamed c = (isLetter c || isDigit c) from rfl)
  generalize isLetter c = l at *
  generalize isDigit c = d at *
  generalize isNamed c = n at *
  have HL := Lib.hid hl
  have HD := Lib.hid hd
  clear hl hd
  go_enter Tryz.func95, Tryz.ntmps95
  go_wp2_with fail
  refine HL.out.mono ?_
  rintro e w' ⟨rfl, rfl⟩
  cases l
  · go_wp2_with fail
    refine HD.out.mono ?_
    rintro e w' ⟨rfl, rfl⟩
    go_wp2
    go_ret
    exact ⟨ret_bool (by rw [HN.out]; rfl), rfl⟩
  · go_wp2
    go_ret
    exact ⟨ret_bool (by rw [HN.out]; rfl), rfl⟩
end Go.Proofs.YtfgiejfjnhgcaaaGreatDoor
