/- Plain laws on lexF: rows of signs, blanks. No program in sight. -/
import Derived.Test.YtfgiejfjnhgcaaaGreatDoorLexSpec
namespace SolF
open Go

/-- n semicolons, then b blanks -/
def manyL (n b : Nat) : List UInt8 := List.replicate n 59 ++ List.replicate b 32
theorem gapR_blanks : ∀ b, gapR (List.replicate b 32) = (b, true)
  | 0 => rfl
  | b + 1 => by rw [List.replicate_succ, gapR_blank _ _ (by decide), gapR_blanks b]
theorem gapR_semi (r : List UInt8) : gapR (59 :: r) = (0, true) := gapR_none _ _ (by decide) (by simp [Lib.hasPrefix, List.isPrefixOf]) (by simp [Lib.hasPrefix, List.isPrefixOf])
theorem isTwo_semi (n b : Nat) : isTwo (59 :: manyL n b) = false := by
  unfold isTwo
  cases n with
  | zero =>
    cases b with
    | zero => rfl
    | succ b =>
      rw [show (59 :: manyL 0 (b + 1)).take 2 = [59, 32] from rfl, show Lib.contains twos [59, 32] = false from by decide, Bool.and_false, Bool.false_and]
  | succ n => rw [show (59 :: manyL (n + 1) b).take 2 = [59, 59] from rfl, show Lib.contains twos [59, 59] = false from by decide, Bool.and_false, Bool.false_and]
theorem tokenL_semi (form : List UInt8 → Bool) (n b : Nat) : tokenL form (59 :: manyL n b) = (4, 1) := by
  unfold tokenL
  rw [show at0 (59 :: manyL n b) 0 = 59 from rfl, if_neg (by decide), if_neg (by decide), if_pos (by decide), isTwo_semi]
  rfl
theorem lexAt_cons (form : List UInt8 → Bool) (f n a : Nat) (c : UInt8) (r : List UInt8) : lexAt form f n a (c :: r) = if (tokenL form (c :: r)).1 = 0 then .error (a, 10) else if n = 2500 then .error (a, 5)
    else match lexGo form f (n + 1) (a + (tokenL form (c :: r)).2) ((c :: r).drop (tokenL form (c :: r)).2) with
      | .error e => .error e
      | .ok ts => .ok (⟨(tokenL form (c :: r)).1, (c :: r).take (tokenL form (c :: r)).2, a⟩ :: ts) := rfl
theorem many_go (form : List UInt8 → Bool) (b : Nat) : ∀ (n f k a : Nat), n < f → k ≤ 2500 →
    (k + n ≤ 2500 → ∃ ts, lexGo form f k a (manyL n b) = .ok ts ∧ ts.length = n + 1) ∧ (2500 < k + n → lexGo form f k a (manyL n b) = .error (a + (2500 - k), 5))
  | 0, f + 1, k, a, _, hk => by
    have h : lexGo form (f + 1) k a (manyL 0 b) = .ok [⟨0, [], a + b⟩] := by
      rw [show manyL 0 b = List.replicate b 32 from rfl, lexGo_good (by rw [gapR_blanks]), gapR_blanks, List.drop_eq_nil_of_le (by simp)]; rfl
    exact ⟨fun _ => ⟨_, h, rfl⟩, fun hh => by omega⟩
  | n + 1, f + 1, k, a, hf, hk => by
    have hs : manyL (n + 1) b = 59 :: manyL n b := rfl
    have h : lexGo form (f + 1) k a (manyL (n + 1) b) = if k = 2500 then .error (a, 5) else match lexGo form f (k + 1) (a + 1) (manyL n b) with | .error e => .error e | .ok r => .ok (⟨4, [59], a⟩ :: r) := by
      rw [hs, lexGo_good (by rw [gapR_semi]), gapR_semi]
      rw [List.drop_zero, Nat.add_zero, lexAt_cons, tokenL_semi, if_neg (by decide)]
      rfl
    rw [h]
    by_cases hk2 : k = 2500
    · rw [if_pos hk2]
      exact ⟨fun hh => by omega, fun _ => by rw [hk2]; rfl⟩
    rw [if_neg hk2]
    obtain ⟨h1, h2⟩ := many_go form b n f (k + 1) (a + 1) (by omega) (by omega)
    refine ⟨fun hh => ?_, fun hh => ?_⟩
    · obtain ⟨ts, h3, h4⟩ := h1 (by omega)
      rw [h3]
      exact ⟨_, rfl, by rw [List.length_cons, h4]⟩
    · rw [h2 (by omega)]
      show Except.error (a + 1 + (2500 - (k + 1)), 5) = _
      rw [show a + 1 + (2500 - (k + 1)) = a + (2500 - k) by omega]
theorem many_len (n b : Nat) : (manyL n b).length = n + b := by simp [manyL]
theorem lex_many (form : List UInt8 → Bool) (n b : Nat) :
    (8192 < n + b → lexF form (manyL n b) = .error (0, 6)) ∧ (n + b ≤ 8192 → 2500 < n → lexF form (manyL n b) = .error (2500, 5)) ∧ (n + b ≤ 8192 → n ≤ 2500 → ∃ ts, lexF form (manyL n b) = .ok ts ∧ ts.length = n + 1) := by
  have hl := many_len n b
  unfold lexF
  rw [hl]
  obtain ⟨h1, h2⟩ := many_go form b n (n + b + 1) 0 0 (by omega) (by omega)
  refine ⟨fun h => if_pos h, fun h h' => ?_, fun h h' => ?_⟩
  · rw [if_neg (by omega)]; exact h2 (by omega)
  · rw [if_neg (by omega)]; exact h1 (by omega)

/-- a text without a point: no real's text is met -/
theorem at0_dot {l : List UInt8} (h : ∀ c ∈ l, c ≠ 46) (a k : Nat) : at0 (l.drop a) k ≠ 46 := by
  intro hd
  have hlt := at0_lt (show at0 (l.drop a) k ≠ 0 by omega)
  have hm : (l.drop a)[k] ∈ l := List.mem_of_mem_drop (List.getElem_mem hlt)
  refine h _ hm ?_
  unfold at0 at hd
  rw [List.getD_eq_getElem?_getD, List.getElem?_eq_getElem hlt] at hd
  exact UInt8.toNat_inj.1 hd
end SolF
namespace SolF
open Go
/-- what digits mean -/
def valFrom (a : Nat) (l : List UInt8) : Nat := l.foldl (fun a c => a * 10 + (c.toNat - 48)) a
theorem valFrom_eq : ∀ (l : List UInt8) (a : Nat), valFrom a l = a * 10 ^ l.length + valFrom 0 l
  | [], a => by simp [valFrom]
  | c :: l, a => by
    have h1 : valFrom a (c :: l) = valFrom (a * 10 + (c.toNat - 48)) l := rfl
    have h2 : valFrom 0 (c :: l) = valFrom (0 * 10 + (c.toNat - 48)) l := rfl
    rw [h1, h2, valFrom_eq l (a * 10 + (c.toNat - 48)), valFrom_eq l (0 * 10 + (c.toNat - 48)), List.length_cons, Nat.pow_succ, Nat.zero_mul, Nat.zero_add, Nat.add_mul]
    rw [Nat.mul_assoc, Nat.mul_comm 10 (10 ^ l.length), Nat.add_assoc]
/-- the last j digits of k are l; x is what is left -/
structure DecInv (k j x : Nat) (l : List UInt8) : Prop where
  x : x = k / 10 ^ j
  len : l.length = j
  dig : ∀ c ∈ l, isDigit c.toNat = true
  val : valFrom 0 l = k % 10 ^ j
theorem DecInv.start (k : Nat) : DecInv k 0 k [] := ⟨by simp, rfl, (fun c h => by cases h), by simp [valFrom, Nat.mod_one]⟩
theorem DecInv.next {k j x : Nat} {l : List UInt8} (h : DecInv k j x l) : DecInv k (j + 1) (x / 10) (UInt8.ofNat (48 + x % 10) :: l) := by
  have hc : (UInt8.ofNat (48 + x % 10)).toNat = 48 + x % 10 := by rw [UInt8.toNat_ofNat']; omega
  refine ⟨?_, by rw [List.length_cons, h.len], fun c hm => ?_, ?_⟩
  · rw [h.x, Nat.pow_succ, Nat.div_div_eq_div_mul]
  · rcases List.mem_cons.1 hm with rfl | hm
    · unfold isDigit; rw [hc]; exact decide_eq_true (by omega)
    · exact h.dig c hm
  · show valFrom (0 * 10 + ((UInt8.ofNat (48 + x % 10)).toNat - 48)) l = _
    rw [hc, valFrom_eq, h.len, h.val, Nat.pow_succ, Nat.mod_mul, h.x]
    rw [show 0 * 10 + (48 + k / 10 ^ j % 10 - 48) = k / 10 ^ j % 10 by omega, Nat.mul_comm (10 ^ j), Nat.add_comm]

theorem valFrom_ge (l : List UInt8) (a : Nat) : a ≤ valFrom a l := by
  rw [valFrom_eq]
  have : 1 ≤ 10 ^ l.length := Nat.one_le_pow _ _ (by decide)
  calc a = a * 1 := (Nat.mul_one a).symm
    _ ≤ a * 10 ^ l.length := Nat.mul_le_mul_left _ this
    _ ≤ _ := Nat.le_add_right _ _
theorem parseM_val : ∀ (l : List UInt8) (a : Nat), (∀ c ∈ l, isDigit c.toNat = true) → a ≤ 4294967295 → Lib.parseUintM 4294967295 a l = if valFrom a l ≤ 4294967295 then .ok (valFrom a l) else .range
  | [], a, _, h => by unfold Lib.parseUintM; rw [if_pos (by simpa [valFrom] using h)]; rfl
  | c :: l, a, hd, h => by
    have hc := hd c (by simp)
    unfold isDigit at hc
    rw [decide_eq_true_eq] at hc
    have hv : valFrom a (c :: l) = valFrom (a * 10 + (c.toNat - 48)) l := rfl
    unfold Lib.parseUintM
    rw [if_pos hc, if_neg (by omega), hv]
    by_cases h2 : 4294967295 < a * 10 + (c.toNat - 48)
    · rw [if_pos h2, if_neg (by have := valFrom_ge l (a * 10 + (c.toNat - 48)); omega)]
    · rw [if_neg h2, parseM_val l _ (fun d hm => hd d (by simp [hm])) (by omega)]
theorem whileN_all (p : Nat → Bool) : ∀ l : List UInt8, (∀ c ∈ l, p c.toNat = true) → whileN p l = l.length
  | [], _ => rfl
  | c :: r, h => by
    unfold whileN
    rw [if_pos (h c (by simp)), whileN_all p r fun d hm => h d (by simp [hm])]; rfl
theorem at0_length (l : List UInt8) : at0 l l.length = 0 := by
  unfold at0; rw [List.getD_eq_getElem?_getD, List.getElem?_eq_none (Nat.le_refl _)]; rfl
theorem digit_not_letter {c : Nat} (h : isDigit c = true) : isLetter c = false := by
  unfold isDigit at h; unfold isLetter
  rw [decide_eq_true_eq] at h
  exact decide_eq_false (by omega)
theorem digit_gap (c : UInt8) (r : List UInt8) (h : isDigit c.toNat = true) : gapR (c :: r) = (0, true) := by
  unfold isDigit at h
  rw [decide_eq_true_eq] at h
  have hb : isBlank c = false := by
    unfold isBlank
    have e : ∀ n : UInt8, n.toNat < 48 → (c == n) = false := fun n hn => beq_eq_false_iff_ne.2 (fun e => by subst e; omega)
    rw [e 32 (by decide), e 9 (by decide), e 10 (by decide), e 13 (by decide)]; rfl
  have hp : ∀ a b : UInt8, a.toNat < 48 → Lib.hasPrefix (c :: r) [a, b] = false := by
    intro a b ha
    cases hh : Lib.hasPrefix (c :: r) [a, b] with
    | false => rfl
    | true => have := (prefix_cons hh).1; subst this; omega
  exact gapR_none c r hb (hp 47 47 (by decide)) (hp 47 42 (by decide))

theorem lexGo_nil (form : List UInt8 → Bool) (f n a : Nat) : lexGo form (f + 1) n a [] = .ok [⟨0, [], a⟩] := by
  rw [lexGo_good rfl]; rfl
/-- a row of digits alone -/
theorem lex_digits (form : List UInt8 → Bool) (l : List UInt8) (hne : l ≠ []) (hd : ∀ c ∈ l, isDigit c.toNat = true) (hl : l.length ≤ 8192) :
    (4294967295 < valFrom 0 l → lexF form l = .error (0, 10)) ∧ (valFrom 0 l ≤ 4294967295 → l.length ≤ 10 → lexF form l = .ok [⟨2, l, 0⟩, ⟨0, [], l.length⟩]) := by
  cases hl2 : l with
  | nil => exact absurd hl2 hne
  | cons c r =>
    rw [← hl2]
    have hc := hd c (by rw [hl2]; simp)
    have hw := whileN_all isDigit l hd
    have hg : gapR l = (0, true) := by rw [hl2]; exact digit_gap c r hc
    have hbad : bad l l.length = false := by unfold bad; rw [at0_length]; rfl
    have ht : tokenL form l = if wordFits l && decide (l.length ≤ 10) then (2, l.length) else (0, 0) := by
      unfold tokenL
      have e0 : at0 l 0 = c.toNat := by rw [hl2]; rfl
      rw [e0, digit_not_letter hc, if_neg (by decide), hc, if_pos rfl]
      unfold numberL
      rw [hw, at0_length, if_neg (by decide), hbad, if_neg (by decide), List.take_length]
    have hwf : wordFits l = decide (valFrom 0 l ≤ 4294967295) := by
      unfold wordFits Lib.parseUintB
      rw [if_neg hne, show (2 : Nat) ^ 32 - 1 = 4294967295 from rfl, parseM_val l 0 hd (by decide)]
      by_cases h : valFrom 0 l ≤ 4294967295
      · rw [if_pos h, decide_eq_true h]
      · rw [if_neg h, decide_eq_false h]
    unfold lexF
    rw [if_neg (by omega), lexGo_good (by rw [hg]), hg]
    simp only [List.drop_zero, Nat.add_zero]
    refine ⟨fun h => ?_, fun h h10 => ?_⟩
    · rw [lexAt_none hne (by rw [ht, hwf, decide_eq_false (by omega)]; rfl)]
    · rw [hwf, decide_eq_true h, decide_eq_true h10, Bool.and_true, if_pos rfl] at ht
      rw [hl2, lexAt_cons, ← hl2, ht, if_neg (by simp), if_neg (by decide)]
      simp only
      rw [List.drop_length, List.take_length]
      obtain ⟨n, hn⟩ : ∃ n, l.length = n + 1 := ⟨r.length, by rw [hl2]; rfl⟩
      rw [show lexGo form l.length (0 + 1) (0 + l.length) [] = .ok [⟨0, [], l.length⟩] by rw [hn, Nat.zero_add, Nat.zero_add, lexGo_nil]]
end SolF
namespace SolF
open Go
theorem isWord_len {l : List UInt8} (h : isWord l = true) : l.length ≤ 8 := by
  unfold isWord at h
  simp only [Bool.or_eq_true, beq_iff_eq] at h
  rcases h with (((((((((h | h) | h) | h) | h) | h) | h) | h) | h) | h) | h <;> subst h <;> decide
theorem letter_gap (c : UInt8) (r : List UInt8) (h : isLetter c.toNat = true) : gapR (c :: r) = (0, true) := by
  unfold isLetter at h
  rw [decide_eq_true_eq] at h
  have hb : isBlank c = false := by
    unfold isBlank
    have e : ∀ n : UInt8, n.toNat < 48 → (c == n) = false := fun n hn => beq_eq_false_iff_ne.2 (fun e => by subst e; omega)
    rw [e 32 (by decide), e 9 (by decide), e 10 (by decide), e 13 (by decide)]; rfl
  have hp : ∀ a b : UInt8, a.toNat < 48 → Lib.hasPrefix (c :: r) [a, b] = false := by
    intro a b ha
    cases hh : Lib.hasPrefix (c :: r) [a, b] with
    | false => rfl
    | true => have := (prefix_cons hh).1; subst this; omega
  exact gapR_none c r hb (hp 47 47 (by decide)) (hp 47 42 (by decide))
theorem named_not_dot {c : UInt8} (h : isNamed c.toNat = true) : c ≠ 46 := by
  intro e; subst e; revert h; decide
/-- a name alone -/
theorem lex_named (form : List UInt8 → Bool) (c : UInt8) (r : List UInt8) (hc : isLetter c.toNat = true) (hd : ∀ d ∈ c :: r, isNamed d.toNat = true) (hl : (c :: r).length ≤ 8192) :
    (40 < (c :: r).length → lexF form (c :: r) = .error (0, 10)) ∧ ((c :: r).length ≤ 40 → lexF form (c :: r) = .ok [⟨if isWord (c :: r) then 5 else 1, c :: r, 0⟩, ⟨0, [], (c :: r).length⟩]) := by
  have hg := letter_gap c r hc
  have hw := whileN_all isNamed (c :: r) hd
  obtain ⟨l, hl2⟩ : ∃ l, l = c :: r := ⟨_, rfl⟩
  have e0 : at0 l 0 = c.toNat := by rw [hl2]; rfl
  have hne : l ≠ [] := by rw [hl2]; exact List.cons_ne_nil _ _
  have hn : l.length = r.length + 1 := by rw [hl2]; rfl
  have hcons := fun f n a => lexAt_cons form f n a c r
  rw [← hl2] at hg hw hl hcons ⊢
  have ht : tokenL form l = if isWord l then (5, l.length) else if 40 < l.length then (0, l.length) else (1, l.length) := by
    unfold tokenL
    rw [e0, hc, if_pos rfl, hw, List.take_length]
  unfold lexF
  rw [if_neg (by omega), lexGo_good (by rw [hg]), hg]
  simp only [List.drop_zero, Nat.add_zero]
  refine ⟨fun h => ?_, fun h => ?_⟩
  · have hW : isWord l = false := by
      cases hh : isWord l with
      | false => rfl
      | true => have := isWord_len hh; omega
    rw [hW, if_neg (by decide), if_pos h] at ht
    rw [lexAt_none hne (by rw [ht])]
  · have ht2 : tokenL form l = (if isWord l then 5 else 1, l.length) := by
      rw [ht]
      split
      · rfl
      · rw [if_neg (by omega)]
    rw [hcons, ht2, if_neg (by split <;> simp), if_neg (by decide)]
    simp only
    rw [List.drop_length, List.take_length, hn, lexGo_nil, Nat.zero_add]
end SolF
