/- lex.number and lex.token at every text: what they come to. -/
import Derived.Test.YtfgiejfjnhgcaaaGreatDoorLexCatch
namespace Go.Proofs.YtfgiejfjnhgcaaaGreatDoor
open Go Go.RowKit SolF Go.Shelf

/-- what package lex reads of package-level variables -/
structure LexEnv (w : World) : Prop where
  ml : ∃ m : Int, w.cell? ⟨4, 0, none⟩ = some (.int .i64 m)
  er : ∃ ev, w.cell? ⟨Tryz.laysPu14_ren.g 1, 0, none⟩ = some ev ∧ (ev = .nilIface ∨ ∃ te pe, ev = .iface te pe)
theorem LexEnv.same {w w' : World} (h : LexEnv w) (hs : Same w w') : LexEnv w' := by
  obtain ⟨⟨m, hm⟩, ev, he, hv⟩ := h
  exact ⟨⟨m, (hs.cell (lt_of_cell' hm)).trans hm⟩, ev, (hs.cell (lt_of_cell' he)).trans he, hv⟩

/-- strconv.ParseFloat answers at each real's text that may be met from a place on -/
def RealsAt (I : World → Prop) (l : List UInt8) : Prop :=
  ∀ t : ByteArray, t.data.toList = l.take (realEnd l) → at0 l (whileN isDigit l) = 46 → formL t.data.toList = true → PFOk I t

theorem number_any (I : World → Prop) (s : ByteArray) (w : World) (hs : s.size ≤ 100000) (hd : 0 < whileN isDigit s.data.toList) (E : LexEnv w) (hI : ∀ w', Same w w' → I w') (hpf : RealsAt I s.data.toList) :
    Calls Tryz.prog 98 #[.string s] w (NumPost s.data.toList w) := by
  by_cases hdot : at0 s.data.toList (whileN isDigit s.data.toList) = 46
  · exact number_real I s w hs hdot hI fun t ht hf => hpf t ht hdot hf
  · obtain ⟨ev, h1, h2⟩ := E.er
    exact number_int s w hs hdot hd ev h1 h2

theorem token_any (I : World → Prop) (s : ByteArray) (a : Nat) (w : World) (hs : s.size ≤ 100000) (ha : a < s.size) (E : LexEnv w) (hI : ∀ w', Same w w' → I w') (hpf : RealsAt I (s.data.toList.drop a)) :
    Calls Tryz.prog 64 #[.string s, .int .i64 (a : Int)] w (TokPost a (s.data.toList.drop a) w) := by
  cases hL : isLetter (at0 (s.data.toList.drop a) 0) with
  | true => exact token_letter s a w hs ha hL
  | false =>
    cases hD : isDigit (at0 (s.data.toList.drop a) 0) with
    | true =>
      refine token_digit s a w hs ha hL hD (fun t ht w1 h1 => ?_) (by have := numberL_le formL (s.data.toList.drop a); rw [List.length_drop] at this; simpa using this)
      have hl : t.data.toList.length = s.size - a := by rw [ht, List.length_drop]; simp
      have hz : t.size = t.data.toList.length := by simp
      refine number_any I t w1 (by omega) ?_ (E.same h1) (fun w' hs' => hI w' (h1.trans hs')) (by rw [ht]; exact hpf)
      rw [ht]
      cases hc : s.data.toList.drop a with
      | nil => rw [ht, hc] at hl; simp at hl; omega
      | cons c r =>
        rw [hc] at hD
        exact whileN_pos _ _ _ hD
    | false =>
      obtain ⟨m, hm⟩ := E.ml
      exact token_sign s a w m hs ha hL hD hm
end Go.Proofs.YtfgiejfjnhgcaaaGreatDoor
