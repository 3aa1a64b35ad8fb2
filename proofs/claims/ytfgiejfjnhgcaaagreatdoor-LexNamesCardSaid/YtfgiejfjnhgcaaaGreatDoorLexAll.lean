/- lex.Lex at every text. -/
import Derived.Test.YtfgiejfjnhgcaaaGreatDoorLexMain
namespace Go.Proofs.YtfgiejfjnhgcaaaGreatDoor
open Go Go.RowKit SolF Go.Shelf

set_option maxRecDepth 100000 in
theorem lex_long (s : ByteArray) (w : World) (hs : 8192 < s.size) :
    Calls Tryz.prog 33 #[.string s] w (LexPost (lexF formL s.data.toList) w) := by
  have i0 : (8192 : Int) < (s.size : Int) := by omega
  have hF : lexF formL s.data.toList = .error (0, 6) := by unfold lexF; rw [if_pos (by simpa using hs)]
  have HF := Lib.hid hF
  clear hF hs
  go_enter_defers Tryz.func33, Tryz.ntmps33
  go_wp2
  refine ⟨_, ?_, post_err HF.out ?_⟩
  · simp [results, Tryz.f33, go_sem]
  · show Below _ _ _; go_grown
theorem lex_all (I : World → Prop) (s : ByteArray) (w : World) (E : LexEnv w) (hI : ∀ w', Same w w' → I w') (hpf : ∀ a, a < s.size → RealsAt I (s.data.toList.drop a)) :
    Calls Tryz.prog 33 #[.string s] w (LexPost (lexF formL s.data.toList) w) := by
  rcases Nat.lt_or_ge 8192 s.size with h | h
  · exact lex_long s w h
  · exact lex_any I s w h E hI hpf
end Go.Proofs.YtfgiejfjnhgcaaaGreatDoor
