/- The walk of lex.word: reserved words. -/
import Derived.Test.YtfgiejfjnhgcaaaGreatDoorLexSmall
namespace Go.Proofs.YtfgiejfjnhgcaaaGreatDoor
open Go Go.RowKit SolF

set_option maxRecDepth 100000 in
set_option maxHeartbeats 2000000 in
theorem word_any (s : ByteArray) (w : World) : Calls Tryz.prog 97 #[.string s] w fun e w' => e = .returned (.bool (isWord s.data.toList)) ∧ w = w' := by
  rw [← Lib.toList_data]
  have HW := Lib.hid (show isWord s.toList = (s.toList == [105, 110, 116] || s.toList == [100, 111, 117, 98, 108, 101] || s.toList == [118, 111, 105, 100] || s.toList == [115, 116, 97, 116, 105, 99] || s.toList == [101, 120, 116, 101, 114, 110] || s.toList == [105, 102] || s.toList == [101, 108, 115, 101] || s.toList == [119, 104, 105, 108, 101] || s.toList == [114, 101, 116, 117, 114, 110] || s.toList == [98, 114, 101, 97, 107] || s.toList == [99, 111, 110, 116, 105, 110, 117, 101]) from rfl)
  generalize isWord s.toList = b at *
  rcases Bool.eq_false_or_eq_true (s.toList == [105, 110, 116]) with h0 | h0
  · have hb : b = true := by rw [HW.out, h0]; rfl
    have HB := Lib.hid hb
    clear hb HW
    go_enter Tryz.func97, Tryz.ntmps97
    go_wp2
    go_ret
    exact ⟨ret_bool HB.out.symm, rfl⟩
  rcases Bool.eq_false_or_eq_true (s.toList == [100, 111, 117, 98, 108, 101]) with h1 | h1
  · have hb : b = true := by rw [HW.out, h0, h1]; rfl
    have HB := Lib.hid hb
    clear hb HW
    go_enter Tryz.func97, Tryz.ntmps97
    go_wp2
    go_ret
    exact ⟨ret_bool HB.out.symm, rfl⟩
  rcases Bool.eq_false_or_eq_true (s.toList == [118, 111, 105, 100]) with h2 | h2
  · have hb : b = true := by rw [HW.out, h0, h1, h2]; rfl
    have HB := Lib.hid hb
    clear hb HW
    go_enter Tryz.func97, Tryz.ntmps97
    go_wp2
    go_ret
    exact ⟨ret_bool HB.out.symm, rfl⟩
  rcases Bool.eq_false_or_eq_true (s.toList == [115, 116, 97, 116, 105, 99]) with h3 | h3
  · have hb : b = true := by rw [HW.out, h0, h1, h2, h3]; rfl
    have HB := Lib.hid hb
    clear hb HW
    go_enter Tryz.func97, Tryz.ntmps97
    go_wp2
    go_ret
    exact ⟨ret_bool HB.out.symm, rfl⟩
  rcases Bool.eq_false_or_eq_true (s.toList == [101, 120, 116, 101, 114, 110]) with h4 | h4
  · have hb : b = true := by rw [HW.out, h0, h1, h2, h3, h4]; rfl
    have HB := Lib.hid hb
    clear hb HW
    go_enter Tryz.func97, Tryz.ntmps97
    go_wp2
    go_ret
    exact ⟨ret_bool HB.out.symm, rfl⟩
  rcases Bool.eq_false_or_eq_true (s.toList == [105, 102]) with h5 | h5
  · have hb : b = true := by rw [HW.out, h0, h1, h2, h3, h4, h5]; rfl
    have HB := Lib.hid hb
    clear hb HW
    go_enter Tryz.func97, Tryz.ntmps97
    go_wp2
    go_ret
    exact ⟨ret_bool HB.out.symm, rfl⟩
  rcases Bool.eq_false_or_eq_true (s.toList == [101, 108, 115, 101]) with h6 | h6
  · have hb : b = true := by rw [HW.out, h0, h1, h2, h3, h4, h5, h6]; rfl
    have HB := Lib.hid hb
    clear hb HW
    go_enter Tryz.func97, Tryz.ntmps97
    go_wp2
    go_ret
    exact ⟨ret_bool HB.out.symm, rfl⟩
  rcases Bool.eq_false_or_eq_true (s.toList == [119, 104, 105, 108, 101]) with h7 | h7
  · have hb : b = true := by rw [HW.out, h0, h1, h2, h3, h4, h5, h6, h7]; rfl
    have HB := Lib.hid hb
    clear hb HW
    go_enter Tryz.func97, Tryz.ntmps97
    go_wp2
    go_ret
    exact ⟨ret_bool HB.out.symm, rfl⟩
  rcases Bool.eq_false_or_eq_true (s.toList == [114, 101, 116, 117, 114, 110]) with h8 | h8
  · have hb : b = true := by rw [HW.out, h0, h1, h2, h3, h4, h5, h6, h7, h8]; rfl
    have HB := Lib.hid hb
    clear hb HW
    go_enter Tryz.func97, Tryz.ntmps97
    go_wp2
    go_ret
    exact ⟨ret_bool HB.out.symm, rfl⟩
  rcases Bool.eq_false_or_eq_true (s.toList == [98, 114, 101, 97, 107]) with h9 | h9
  · have hb : b = true := by rw [HW.out, h0, h1, h2, h3, h4, h5, h6, h7, h8, h9]; rfl
    have HB := Lib.hid hb
    clear hb HW
    go_enter Tryz.func97, Tryz.ntmps97
    go_wp2
    go_ret
    exact ⟨ret_bool HB.out.symm, rfl⟩
  rcases Bool.eq_false_or_eq_true (s.toList == [99, 111, 110, 116, 105, 110, 117, 101]) with h10 | h10
  · have hb : b = true := by rw [HW.out, h0, h1, h2, h3, h4, h5, h6, h7, h8, h9, h10]; rfl
    have HB := Lib.hid hb
    clear hb HW
    go_enter Tryz.func97, Tryz.ntmps97
    go_wp2
    go_ret
    exact ⟨ret_bool HB.out.symm, rfl⟩
  have hb : b = false := by rw [HW.out, h0, h1, h2, h3, h4, h5, h6, h7, h8, h9, h10]; rfl
  have HB := Lib.hid hb
  clear hb HW
  go_enter Tryz.func97, Tryz.ntmps97
  go_wp2
  go_ret
  exact ⟨ret_bool HB.out.symm, rfl⟩
end Go.Proofs.YtfgiejfjnhgcaaaGreatDoor
