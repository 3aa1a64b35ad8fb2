/- What package lex tells of a text, as plain functions of its bytes. No program in sight. -/
import Derived.Lib.Index
import Derived.Lib.Strings
namespace SolF
open Go

/-- how many bytes of a kind a list begins with -/
def whileN (p : Nat → Bool) : List UInt8 → Nat
  | [] => 0
  | c :: r => if p c.toNat then whileN p r + 1 else 0
theorem whileN_le (p : Nat → Bool) : ∀ l, whileN p l ≤ l.length
  | [] => Nat.le_refl _
  | c :: r => by
    have := whileN_le p r
    unfold whileN
    split <;> simp <;> omega
theorem whileN_in (p : Nat → Bool) : ∀ (l : List UInt8) (k : Nat), k < whileN p l → p (l.getD k 0).toNat = true
  | [], k, h => by simp [whileN] at h
  | c :: r, k, h => by
    unfold whileN at h
    split at h
    · cases k with
      | zero => simpa using ‹_›
      | succ k => simpa using whileN_in p r k (by omega)
    · omega
theorem whileN_end (p : Nat → Bool) : ∀ (l : List UInt8), whileN p l < l.length → p (l.getD (whileN p l) 0).toNat = false
  | [], h => by simp at h
  | c :: r, h => by
    unfold whileN at h ⊢
    split at h
    · rename_i hc
      rw [if_pos hc]
      simpa using whileN_end p r (by simpa using h)
    · rename_i hc
      rw [if_neg hc]
      simpa using hc
theorem whileN_pos (p : Nat → Bool) (c : UInt8) (r : List UInt8) (h : p c.toNat = true) : 0 < whileN p (c :: r) := by
  unfold whileN; rw [if_pos h]; omega

/-- is a name reserved? -/
def isWord (l : List UInt8) : Bool := l == [105, 110, 116] || l == [100, 111, 117, 98, 108, 101] || l == [118, 111, 105, 100] || l == [115, 116, 97, 116, 105, 99] || l == [101, 120, 116, 101, 114, 110] || l == [105, 102] || l == [101, 108, 115, 101] || l == [119, 104, 105, 108, 101] || l == [114, 101, 116, 117, 114, 110] || l == [98, 114, 101, 97, 107] || l == [99, 111, 110, 116, 105, 110, 117, 101]

/-- a blank -/
def isBlank (c : UInt8) : Bool := c == 32 || c == 9 || c == 10 || c == 13
def notLine (c : Nat) : Bool := c != 10

/-- how many bytes stand between tokens at the head of a list; false: a remark that has no end begins there. (The number: rounds at most.) -/
def gapL : Nat → List UInt8 → Nat × Bool
  | 0, _ => (0, true)
  | _ + 1, [] => (0, true)
  | f + 1, c :: r =>
    if isBlank c then ((gapL f r).1 + 1, (gapL f r).2)
    else if Lib.hasPrefix (c :: r) [47, 47] then ((gapL f ((c :: r).drop (whileN notLine (c :: r)))).1 + whileN notLine (c :: r), (gapL f ((c :: r).drop (whileN notLine (c :: r)))).2)
    else if Lib.hasPrefix (c :: r) [47, 42] then
      if Lib.index ((c :: r).drop 2) [42, 47] < 0 then (0, false)
      else ((gapL f ((c :: r).drop ((Lib.index ((c :: r).drop 2) [42, 47]).toNat + 4))).1 + ((Lib.index ((c :: r).drop 2) [42, 47]).toNat + 4), (gapL f ((c :: r).drop ((Lib.index ((c :: r).drop 2) [42, 47]).toNat + 4))).2)
    else (0, true)

theorem prefix_cons {a : UInt8} {b : List UInt8} {c : UInt8} {r : List UInt8} (h : Lib.hasPrefix (c :: r) (a :: b) = true) : c = a ∧ Lib.hasPrefix r b = true := by
  unfold Lib.hasPrefix at *
  simp [List.isPrefixOf] at h
  exact ⟨h.1.symm, by simpa using h.2⟩

theorem prefix_two {l : List UInt8} {a b : UInt8} (h : Lib.hasPrefix l [a, b] = true) : 2 ≤ l.length := by
  match l, h with
  | [], h => simp [Lib.hasPrefix, List.isPrefixOf] at h
  | [x], h => simp [Lib.hasPrefix, List.isPrefixOf] at h
  | _ :: _ :: _, _ => simp

theorem gapL_fuel : ∀ (f : Nat) (l : List UInt8), l.length < f → gapL f l = gapL (l.length + 1) l := by
  intro f
  induction f using Nat.strongRecOn with
  | ind f ih =>
    intro l hl
    cases f with
    | zero => omega
    | succ f =>
      cases l with
      | nil => rfl
      | cons c r =>
        have hsub : ∀ m : List UInt8, m.length ≤ r.length → gapL f m = gapL (r.length + 1) m := by
          intro m hm
          simp only [List.length_cons] at hl
          rw [ih f (by omega) m (by omega)]
          by_cases e : r.length + 1 = f + 1
          · have : f = r.length := by omega
            omega
          · exact (ih (r.length + 1) (by omega) m (by omega)).symm
        simp only [List.length_cons]
        unfold gapL
        rw [hsub r (Nat.le_refl _)]
        by_cases h1 : isBlank c = true
        · rw [if_pos h1, if_pos h1]
        rw [if_neg h1, if_neg h1]
        by_cases h2 : Lib.hasPrefix (c :: r) [47, 47] = true
        · have hc := (prefix_cons h2).1
          have hp : 0 < whileN notLine (c :: r) := whileN_pos _ _ _ (by rw [hc]; rfl)
          rw [if_pos h2, if_pos h2, hsub _ (by simp only [List.length_drop, List.length_cons]; omega)]
        rw [if_neg h2, if_neg h2]
        rw [hsub ((c :: r).drop ((Lib.index ((c :: r).drop 2) [42, 47]).toNat + 4)) (by simp only [List.length_drop, List.length_cons]; omega)]

def gapR (l : List UInt8) : Nat × Bool := gapL (l.length + 1) l
theorem gapR_nil : gapR [] = (0, true) := rfl
theorem gapR_blank (c : UInt8) (r : List UInt8) (h : isBlank c = true) : gapR (c :: r) = ((gapR r).1 + 1, (gapR r).2) := by
  show gapL (r.length + 1 + 1) (c :: r) = _
  rw [gapL, if_pos h]; rfl
theorem gapR_line (c : UInt8) (r : List UInt8) (h1 : isBlank c = false) (h : Lib.hasPrefix (c :: r) [47, 47] = true) :
    gapR (c :: r) = ((gapR ((c :: r).drop (whileN notLine (c :: r)))).1 + whileN notLine (c :: r), (gapR ((c :: r).drop (whileN notLine (c :: r)))).2) := by
  have hc := (prefix_cons h).1
  have hp : 0 < whileN notLine (c :: r) := whileN_pos _ _ _ (by rw [hc]; rfl)
  show gapL (r.length + 1 + 1) (c :: r) = _
  rw [gapL, if_neg (by rw [h1]; decide), if_pos h, gapL_fuel _ _ (by simp only [List.length_drop, List.length_cons]; omega)]; rfl
theorem gapR_open (c : UInt8) (r : List UInt8) (h1 : isBlank c = false) (h2 : Lib.hasPrefix (c :: r) [47, 47] = false) (h : Lib.hasPrefix (c :: r) [47, 42] = true) (hi : Lib.index ((c :: r).drop 2) [42, 47] < 0) : gapR (c :: r) = (0, false) := by
  show gapL (r.length + 1 + 1) (c :: r) = _
  rw [gapL, if_neg (by rw [h1]; decide), if_neg (by rw [h2]; decide), if_pos h, if_pos hi]
theorem gapR_remark (c : UInt8) (r : List UInt8) (h1 : isBlank c = false) (h2 : Lib.hasPrefix (c :: r) [47, 47] = false) (h : Lib.hasPrefix (c :: r) [47, 42] = true) (n : Nat) (hi : Lib.index ((c :: r).drop 2) [42, 47] = n) :
    gapR (c :: r) = ((gapR ((c :: r).drop (n + 4))).1 + (n + 4), (gapR ((c :: r).drop (n + 4))).2) := by
  show gapL (r.length + 1 + 1) (c :: r) = _
  rw [gapL, if_neg (by rw [h1]; decide), if_neg (by rw [h2]; decide), if_pos h, hi, if_neg (by omega), Int.toNat_natCast, gapL_fuel _ _ (by simp only [List.length_drop, List.length_cons]; omega)]; rfl
theorem gapR_none (c : UInt8) (r : List UInt8) (h1 : isBlank c = false) (h2 : Lib.hasPrefix (c :: r) [47, 47] = false) (h : Lib.hasPrefix (c :: r) [47, 42] = false) : gapR (c :: r) = (0, true) := by
  show gapL (r.length + 1 + 1) (c :: r) = _
  rw [gapL, if_neg (by rw [h1]; decide), if_neg (by rw [h2]; decide), if_neg (by rw [h]; decide)]

theorem index_room : ∀ (l : List UInt8) (n : Nat), Lib.index l [42, 47] = (n : Int) → n + 2 ≤ l.length
  | [], n, h => by
    have h' : Lib.index [] [42, 47] = -1 := rfl
    omega
  | b :: l, n, h => by
    unfold Lib.index at h
    split at h
    · rename_i hp
      have hn : n = 0 := by omega
      subst hn
      cases l with
      | nil => simp [List.isPrefixOf] at hp
      | cons c l => simp
    · split at h
      · omega
      · rename_i hne
        have hne' : Lib.index l [42, 47] ≠ -1 := by simpa using hne
        have hge := Lib.index_ge l [42, 47]
        have := index_room l (n - 1) (by omega)
        simp only [List.length_cons]
        omega

theorem blank_iff (c : UInt8) : decide (0 ≤ Lib.indexByte [32, 9, 10, 13] c) = isBlank c := by
  unfold isBlank
  by_cases h1 : c = 32
  · subst h1; decide
  by_cases h2 : c = 9
  · subst h2; decide
  by_cases h3 : c = 10
  · subst h3; decide
  by_cases h4 : c = 13
  · subst h4; decide
  have e : ∀ a : UInt8, ¬ c = a → (a == c) = false := fun a h => beq_eq_false_iff_ne.2 (fun e => h e.symm)
  simp [Lib.indexByte, e _ h1, e _ h2, e _ h3, e _ h4, h1, h2, h3, h4]
end SolF
