/- What package lex tells of a text: the token at the head, and all tokens. No program in sight. -/
import Derived.Test.YtfgiejfjnhgcaaaGreatDoorLexPure
import Derived.Test.YtfgiejfjnhgcaaaGreatDoorLexNumPure
import Derived.Lib.Strings
import Derived.Lib.IndexMore
namespace SolF
open Go

/-- the signs' first bytes -/
def signs : List UInt8 := [43, 45, 42, 47, 37, 38, 124, 94, 126, 33, 60, 62, 61, 40, 41, 123, 125, 91, 93, 59, 44]
def twos : List UInt8 := [60, 60, 32, 62, 62, 32, 60, 61, 32, 62, 61, 32, 61, 61, 32, 33, 61, 32, 38, 38, 32, 124, 124]
def isSign (c : Nat) : Bool := decide (0 ≤ Lib.indexByte signs c.toUInt8)
def isTwo (l : List UInt8) : Bool := decide (1 < l.length) && Lib.contains twos (l.take 2) && decide (at0 l 1 ≠ 32)
/-- kind and bytes of the token at the head; kind 0: none -/
def tokenL (form : List UInt8 → Bool) (l : List UInt8) : Nat × Nat :=
  if isLetter (at0 l 0) then
    if isWord (l.take (whileN isNamed l)) then (5, whileN isNamed l) else if 40 < whileN isNamed l then (0, whileN isNamed l) else (1, whileN isNamed l)
  else if isDigit (at0 l 0) then numberL form l
  else if isSign (at0 l 0) then (4, if isTwo l then 2 else 1)
  else (0, 0)

/-- a token: kind, bytes, place -/
structure Tok where
  kind : Nat
  text : List UInt8
  pos : Nat

/-- all tokens from a place on, n being told; an error: its place, its number -/
def lexGo (form : List UInt8 → Bool) : Nat → Nat → Nat → List UInt8 → Except (Nat × Nat) (List Tok)
  | 0, _, _, _ => .error (0, 0)
  | f + 1, n, a, l =>
    if (gapR l).2 = false then .error (a + (gapR l).1, 10)
    else match l.drop (gapR l).1 with
      | [] => .ok [⟨0, [], a + (gapR l).1⟩]
      | c :: r =>
        if (tokenL form (c :: r)).1 = 0 then .error (a + (gapR l).1, 10)
        else if n = 2500 then .error (a + (gapR l).1, 5)
        else match lexGo form f (n + 1) (a + (gapR l).1 + (tokenL form (c :: r)).2) ((c :: r).drop (tokenL form (c :: r)).2) with
          | .error e => .error e
          | .ok ts => .ok (⟨(tokenL form (c :: r)).1, (c :: r).take (tokenL form (c :: r)).2, a + (gapR l).1⟩ :: ts)

/-- likewise, where no gap stands -/
def lexAt (form : List UInt8 → Bool) (f n a : Nat) : List UInt8 → Except (Nat × Nat) (List Tok)
  | [] => .ok [⟨0, [], a⟩]
  | c :: r =>
    if (tokenL form (c :: r)).1 = 0 then .error (a, 10)
    else if n = 2500 then .error (a, 5)
    else match lexGo form f (n + 1) (a + (tokenL form (c :: r)).2) ((c :: r).drop (tokenL form (c :: r)).2) with
      | .error e => .error e
      | .ok ts => .ok (⟨(tokenL form (c :: r)).1, (c :: r).take (tokenL form (c :: r)).2, a⟩ :: ts)

theorem lexGo_bad {form : List UInt8 → Bool} {f n a : Nat} {l : List UInt8} (h : (gapR l).2 = false) : lexGo form (f + 1) n a l = .error (a + (gapR l).1, 10) := by
  unfold lexGo; rw [if_pos h]
theorem lexGo_good {form : List UInt8 → Bool} {f n a : Nat} {l : List UInt8} (h : (gapR l).2 = true) : lexGo form (f + 1) n a l = lexAt form f n (a + (gapR l).1) (l.drop (gapR l).1) := by
  unfold lexGo; rw [if_neg (by rw [h]; decide)]; rfl

/-- tokens ahead of what comes -/
def joinT (ts : List Tok) : Except (Nat × Nat) (List Tok) → Except (Nat × Nat) (List Tok)
  | .error e => .error e
  | .ok r => .ok (ts ++ r)
theorem joinT_nil (r : Except (Nat × Nat) (List Tok)) : joinT [] r = r := by cases r <;> rfl

def lexF (form : List UInt8 → Bool) (l : List UInt8) : Except (Nat × Nat) (List Tok) :=
  if 8192 < l.length then .error (0, 6) else lexGo form (l.length + 1) 0 0 l

theorem lexAt_nil (form : List UInt8 → Bool) (f n a : Nat) : lexAt form f n a [] = .ok [⟨0, [], a⟩] := rfl
theorem lexAt_none {form : List UInt8 → Bool} {f n a : Nat} {l : List UInt8} (hl : l ≠ []) (h : (tokenL form l).1 = 0) : lexAt form f n a l = .error (a, 10) := by
  cases l with
  | nil => exact absurd rfl hl
  | cons c r => simp only [lexAt]; rw [if_pos h]
theorem lexAt_full {form : List UInt8 → Bool} {f a : Nat} {l : List UInt8} (hl : l ≠ []) (h : (tokenL form l).1 ≠ 0) : lexAt form f 2500 a l = .error (a, 5) := by
  cases l with
  | nil => exact absurd rfl hl
  | cons c r => simp only [lexAt]; rw [if_neg h]; rfl
theorem lexAt_bad {form : List UInt8 → Bool} {f n a : Nat} {l : List UInt8} (hl : l ≠ []) (h : (tokenL form l).1 ≠ 0) (hn : n ≠ 2500) (hg : (gapR (l.drop (tokenL form l).2)).2 = false) :
    lexAt form (f + 1) n a l = .error (a + (tokenL form l).2 + (gapR (l.drop (tokenL form l).2)).1, 10) := by
  cases l with
  | nil => exact absurd rfl hl
  | cons c r => simp only [lexAt]; rw [if_neg h, if_neg hn, lexGo_bad hg]
theorem lexAt_more {form : List UInt8 → Bool} {f n a : Nat} {l : List UInt8} (hl : l ≠ []) (h : (tokenL form l).1 ≠ 0) (hn : n ≠ 2500) (hg : (gapR (l.drop (tokenL form l).2)).2 = true) :
    lexAt form (f + 1) n a l = joinT [⟨(tokenL form l).1, l.take (tokenL form l).2, a⟩] (lexAt form f (n + 1) (a + (tokenL form l).2 + (gapR (l.drop (tokenL form l).2)).1) ((l.drop (tokenL form l).2).drop (gapR (l.drop (tokenL form l).2)).1)) := by
  cases l with
  | nil => exact absurd rfl hl
  | cons c r =>
    rw [show lexAt form (f + 1) n a (c :: r) = (if (tokenL form (c :: r)).1 = 0 then .error (a, 10) else if n = 2500 then .error (a, 5) else match lexGo form (f + 1) (n + 1) (a + (tokenL form (c :: r)).2) ((c :: r).drop (tokenL form (c :: r)).2) with | .error e => .error e | .ok ts => .ok (⟨(tokenL form (c :: r)).1, (c :: r).take (tokenL form (c :: r)).2, a⟩ :: ts)) from rfl]
    rw [if_neg h, if_neg hn, lexGo_good hg]
    show (match lexAt form f _ _ _ with | .error e => _ | .ok ts => _) = _
    cases lexAt form f (n + 1) (a + (tokenL form (c :: r)).2 + (gapR ((c :: r).drop (tokenL form (c :: r)).2)).1) (((c :: r).drop (tokenL form (c :: r)).2).drop (gapR ((c :: r).drop (tokenL form (c :: r)).2)).1) <;> rfl
theorem joinT_join (a b : List Tok) (r : Except (Nat × Nat) (List Tok)) : joinT a (joinT b r) = joinT (a ++ b) r := by cases r <;> simp [joinT]

theorem numberL_le (form : List UInt8 → Bool) (l : List UInt8) : (numberL form l).2 ≤ l.length := by
  have h1 := whileN_le isDigit l
  unfold numberL
  split
  · rename_i h
    split
    · simp
    split
    · have h2 := whileN_drop_le isDigit l (whileN isDigit l + 1) (by
        have := at0_lt (show at0 l (whileN isDigit l) ≠ 0 by omega)
        omega)
      unfold realEnd
      exact expEnd_le _ _ (by omega)
    · simp
  · split
    · simp
    split
    · exact h1
    · simp
theorem isTwo_len {l : List UInt8} (h : isTwo l = true) : 2 ≤ l.length := by
  unfold isTwo at h
  simp only [Bool.and_eq_true, decide_eq_true_eq] at h
  omega
theorem tokenL_le (form : List UInt8 → Bool) (c : UInt8) (r : List UInt8) : (tokenL form (c :: r)).2 ≤ (c :: r).length := by
  unfold tokenL
  split
  · have := whileN_le isNamed (c :: r)
    split
    · exact this
    split
    · exact this
    · exact this
  split
  · exact numberL_le _ _
  split
  · split
    · exact isTwo_len ‹_›
    · simp
  · simp
theorem expEnd_ge (l : List UInt8) (n : Nat) : n ≤ expEnd l n := by
  unfold expEnd
  split
  · split <;> omega
  · omega
theorem tokenL_pos (form : List UInt8 → Bool) (c : UInt8) (r : List UInt8) (h : (tokenL form (c :: r)).1 ≠ 0) : 0 < (tokenL form (c :: r)).2 := by
  have e0 : at0 (c :: r) 0 = c.toNat := rfl
  revert h
  unfold tokenL
  rw [e0]
  by_cases hL : isLetter c.toNat = true
  · rw [if_pos hL]
    have hp : 0 < whileN isNamed (c :: r) := whileN_pos _ _ _ (by unfold isNamed; rw [hL]; rfl)
    intro _
    split
    · exact hp
    split
    · exact hp
    · exact hp
  rw [if_neg hL]
  by_cases hD : isDigit c.toNat = true
  · rw [if_pos hD]
    have hp : 0 < whileN isDigit (c :: r) := whileN_pos _ _ _ hD
    unfold numberL
    split
    · split
      · intro h; exact absurd rfl h
      split
      · intro _
        have := expEnd_ge (c :: r) (whileN isDigit (c :: r) + (1 + whileN isDigit ((c :: r).drop (whileN isDigit (c :: r) + 1))))
        unfold realEnd
        simp only
        omega
      · intro h; exact absurd rfl h
    · split
      · intro h; exact absurd rfl h
      split
      · intro _; exact hp
      · intro h; exact absurd rfl h
  rw [if_neg hD]
  split
  · intro _
    simp only
    split <;> omega
  · intro h; exact absurd rfl h

theorem gapL_le : ∀ (f : Nat) (l : List UInt8), (gapL f l).1 ≤ l.length
  | 0, l => by simp [gapL]
  | f + 1, [] => by simp [gapL]
  | f + 1, c :: r => by
    unfold gapL
    have h1 := gapL_le f r
    split
    · simp; omega
    split
    · have h2 := gapL_le f ((c :: r).drop (whileN notLine (c :: r)))
      have h3 := whileN_le notLine (c :: r)
      rw [List.length_drop] at h2
      simp only
      omega
    split
    · split
      · simp
      · rename_i hi
        have h2 := gapL_le f ((c :: r).drop ((Lib.index ((c :: r).drop 2) [42, 47]).toNat + 4))
        have h3 := index_room ((c :: r).drop 2) (Lib.index ((c :: r).drop 2) [42, 47]).toNat (by omega)
        rw [List.length_drop] at h2 h3
        simp only
        omega
    · simp
theorem gapR_le (l : List UInt8) : (gapR l).1 ≤ l.length := gapL_le _ _
end SolF
