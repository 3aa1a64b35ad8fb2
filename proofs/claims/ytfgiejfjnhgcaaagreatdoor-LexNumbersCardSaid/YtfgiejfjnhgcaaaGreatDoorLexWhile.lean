/- The walk of lex.while at the three functions that it is handed. -/
import Derived.Test.YtfgiejfjnhgcaaaGreatDoorLexSmall
import Derived.Test.YtfgiejfjnhgcaaaGreatDoorLexPure
import Derived.Deep.LoopGhost
namespace Go.Proofs.YtfgiejfjnhgcaaaGreatDoor
open Go Go.RowKit SolF

set_option maxRecDepth 100000 in
theorem while_any (f : FuncId) (p : Nat → Bool) (hf : Tells f p) (he : ∀ args w, (callFunc f args).run Tryz.prog w = .ok (.enter f args) w) (s : ByteArray) (w : World) (hs : s.size ≤ 140737488355328) :
    Calls Tryz.prog 91 #[.string s, .func (.func f) #[] #[]] w fun e w' => e = .returned (.int .i64 (whileN p s.data.toList)) ∧ w = w' := by
  have hle := whileN_le p s.data.toList
  rw [show s.data.toList.length = s.size by simp] at hle
  have HIN := Lib.hid (whileN_in p s.data.toList)
  have HEND := Lib.hid (whileN_end p s.data.toList)
  have HT := Lib.hid hf
  clear hf
  generalize hN : whileN p s.data.toList = N at *
  clear hN
  go_enter Tryz.func91, Tryz.ntmps91
  go_wp2_with fail
  go_loopg [5] N (fun g v wr => ∃ k : Nat, k + g = N ∧ v = .int .i64 (k : Int) ∧ w = wr)
  case atStart => exact ⟨0, by omega, rfl, rfl⟩
  case round =>
    obtain ⟨k, hk, rfl, rfl⟩ := hrel
    cases gk with
    | zero =>
      obtain rfl : k = N := by omega
      by_cases hlt : k < s.size
      · have hb : p s[k].toNat = false := by
          rw [← bt_eq s k hlt]
          exact HEND.out (by simpa using hlt)
        have i1 : (k : Int) < (s.size : Int) := by omega
        have hc := HT.out.at s[k].toNat w s[k].toNat_lt
        rw [hb] at hc
        have HC := Lib.hid hc
        clear hc hb
        go_wp2_with fail
        refine HC.out.mono ?_
        rintro e w' ⟨rfl, rfl⟩
        go_wp2
        go_ret
        exact ⟨rfl, rfl⟩
      · have i1 : ¬ (k : Int) < (s.size : Int) := by omega
        go_wp2
        go_ret
        exact ⟨rfl, rfl⟩
    | succ g =>
      have hlt : k < s.size := by omega
      have hb : p s[k].toNat = true := by
        rw [← bt_eq s k hlt]
        exact HIN.out k (by omega)
      have i1 : (k : Int) < (s.size : Int) := by omega
      have hc := HT.out.at s[k].toNat w s[k].toNat_lt
      rw [hb] at hc
      have HC := Lib.hid hc
      clear hc hb
      go_wp2_with fail
      refine HC.out.mono ?_
      rintro e w' ⟨rfl, rfl⟩
      go_wp2
      go_roundg g
      case measure => omega
      case rel => exact ⟨k + 1, by omega, by go_num, rfl⟩
end Go.Proofs.YtfgiejfjnhgcaaaGreatDoor
