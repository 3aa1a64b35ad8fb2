/- A number at the head of a list of bytes, as package lex reads it. No program in sight. -/
import Derived.Test.YtfgiejfjnhgcaaaGreatDoorLexPure
import Derived.Lib.ParseIntB
namespace SolF
open Go

def isLetter (c : Nat) : Bool := decide (c = 95 ∨ (97 ≤ c ∧ c ≤ 122) ∨ (65 ≤ c ∧ c ≤ 90))
def isDigit (c : Nat) : Bool := decide (48 ≤ c ∧ c ≤ 57)
def isNamed (c : Nat) : Bool := isLetter c || isDigit c
/-- a byte of a list, 0 behind its end -/
def at0 (l : List UInt8) (k : Nat) : Nat := (l.getD k 0).toNat

/-- behind an e that may stand at n -/
def expEnd (l : List UInt8) (n : Nat) : Nat :=
  if at0 l n = 101 then
    if at0 l (n + 1) = 43 ∨ at0 l (n + 1) = 45 then n + 1 + 1 + whileN isDigit (l.drop (n + 1 + 1)) else n + 1 + whileN isDigit (l.drop (n + 1))
  else n
/-- where a number with a point ends -/
def realEnd (l : List UInt8) : Nat := expEnd l (whileN isDigit l + (1 + whileN isDigit (l.drop (whileN isDigit l + 1))))
/-- does something that may not stand there follow? -/
def bad (l : List UInt8) (n : Nat) : Bool := isLetter (at0 l n) || at0 l n == 46
def wordFits (l : List UInt8) : Bool := match Lib.parseUintB 32 l with
  | .ok _ => true
  | _ => false
/-- kind and bytes; form: which texts are real's -/
def numberL (form : List UInt8 → Bool) (l : List UInt8) : Nat × Nat :=
  if at0 l (whileN isDigit l) = 46 then
    if bad l (realEnd l) then (0, 0) else if form (l.take (realEnd l)) then (3, realEnd l) else (0, 0)
  else if bad l (whileN isDigit l) then (0, 0)
  else if wordFits (l.take (whileN isDigit l)) && decide (whileN isDigit l ≤ 10) then (2, whileN isDigit l) else (0, 0)

theorem at0_lt {l : List UInt8} {k : Nat} (h : at0 l k ≠ 0) : k < l.length := by
  rcases Nat.lt_or_ge k l.length with h1 | h1
  · exact h1
  · exfalso; apply h
    unfold at0
    rw [List.getD_eq_getElem?_getD, List.getElem?_eq_none h1]; rfl
theorem whileN_drop_le (p : Nat → Bool) (l : List UInt8) (k : Nat) (h : k ≤ l.length) : k + whileN p (l.drop k) ≤ l.length := by
  have := whileN_le p (l.drop k)
  rw [List.length_drop] at this
  omega
theorem expEnd_le (l : List UInt8) (n : Nat) (h : n ≤ l.length) : expEnd l n ≤ l.length := by
  unfold expEnd
  split
  · rename_i h1
    have h2 := at0_lt (show at0 l n ≠ 0 by omega)
    split
    · rename_i h3
      have h4 := at0_lt (show at0 l (n + 1) ≠ 0 by omega)
      exact whileN_drop_le _ _ _ (by omega)
    · exact whileN_drop_le _ _ _ (by omega)
  · exact h
end SolF
