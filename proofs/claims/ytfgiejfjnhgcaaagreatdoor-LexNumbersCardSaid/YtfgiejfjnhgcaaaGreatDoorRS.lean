/- What reading a real's text byte by byte gathers: a plain fold. No program in sight. -/
namespace SolF

/-- mantissa, digits, digits in the mantissa, the place of the point; has a point been seen, a digit, has something been left out -/
structure RS where
  mant : Nat
  nd : Nat
  ndm : Nat
  dp : Int
  dot : Bool
  dig : Bool
  trunc : Bool

def RS.init : RS := ⟨0, 0, 0, 0, false, false, false⟩

def RS.step (t : RS) (c : Nat) : RS :=
  if c = 46 then { t with dot := true, dp := t.nd }
  else if c = 48 ∧ t.nd = 0 then { t with dig := true, dp := t.dp - 1 }
  else if t.ndm < 19 then { t with dig := true, nd := t.nd + 1, mant := t.mant * 10 + (c - 48), ndm := t.ndm + 1 }
  else { t with dig := true, nd := t.nd + 1, trunc := t.trunc || c != 48 }

theorem RS.step_dot (t : RS) : t.step 46 = { t with dot := true, dp := t.nd } := rfl
theorem RS.step_lead (t : RS) (h : t.nd = 0) : t.step 48 = { t with dig := true, dp := t.dp - 1 } := by
  unfold RS.step; rw [if_neg (by decide), if_pos ⟨rfl, h⟩]
theorem RS.step_digit (t : RS) (c : Nat) (hc : 48 ≤ c) (h : ¬ (c = 48 ∧ t.nd = 0)) (h2 : t.ndm < 19) :
    t.step c = { t with dig := true, nd := t.nd + 1, mant := t.mant * 10 + (c - 48), ndm := t.ndm + 1 } := by
  unfold RS.step; rw [if_neg (by omega), if_neg h, if_pos h2]
theorem RS.step_more (t : RS) (c : Nat) (hc : 48 ≤ c) (h : ¬ (c = 48 ∧ t.nd = 0)) (h2 : ¬ t.ndm < 19) :
    t.step c = { t with dig := true, nd := t.nd + 1, trunc := t.trunc || c != 48 } := by
  unfold RS.step; rw [if_neg (by omega), if_neg h, if_neg h2]

/-- a byte of a text, 0 behind its end -/
def bt (s : ByteArray) (k : Nat) : Nat := (s.data.toList.getD k 0).toNat
theorem bt_eq (s : ByteArray) (k : Nat) (h : k < s.size) : bt s k = s[k].toNat := by
  have h' : k < s.data.toList.length := by simpa using h
  unfold bt
  rw [List.getD_eq_getElem?_getD, List.getElem?_eq_getElem h']
  rfl

def rsAt (s : ByteArray) : Nat → RS
  | 0 => RS.init
  | k + 1 => (rsAt s k).step (bt s k)

/-- what holds of it on the way -/
structure RS.ok (t : RS) (k : Nat) : Prop where
  nd : t.nd ≤ k
  ndm : t.ndm ≤ t.nd
  m19 : t.ndm ≤ 19
  mant : t.mant < 10 ^ t.ndm
  dp1 : -(k : Int) ≤ t.dp
  dp2 : t.dp ≤ k
  full : t.trunc = false → t.ndm < 19 → t.ndm = t.nd

theorem RS.ok_init : RS.init.ok 0 := ⟨by decide, by decide, by decide, by decide, by decide, by decide, fun _ _ => rfl⟩

theorem RS.ok.small {t : RS} {k : Nat} (h : t.ok k) (h19 : t.ndm < 19) : t.mant < 1000000000000000000 :=
  Nat.lt_of_lt_of_le h.mant (Nat.pow_le_pow_right (by decide) (by omega) : 10 ^ t.ndm ≤ 10 ^ 18)
theorem RS.ok.big {t : RS} {k : Nat} (h : t.ok k) : t.mant < 10000000000000000000 :=
  Nat.lt_of_lt_of_le h.mant (Nat.pow_le_pow_right (by decide) h.m19 : 10 ^ t.ndm ≤ 10 ^ 19)

theorem RS.ok.next {t : RS} {k : Nat} (h : t.ok k) (c : Nat) (hc : c = 46 ∨ (48 ≤ c ∧ c ≤ 57)) : (t.step c).ok (k + 1) := by
  obtain ⟨a1, a2, a3, a4, a5, a6, a7⟩ := h
  rcases hc with rfl | ⟨h1, h2⟩
  · rw [RS.step_dot]
    exact ⟨by simp; omega, a2, a3, a4, by simp; omega, by simp; omega, a7⟩
  by_cases hz : c = 48 ∧ t.nd = 0
  · obtain ⟨rfl, hz⟩ := hz
    rw [RS.step_lead t hz]
    exact ⟨by simp; omega, a2, a3, a4, by simp; omega, by simp; omega, a7⟩
  by_cases h19 : t.ndm < 19
  · rw [RS.step_digit t c h1 hz h19]
    refine ⟨by simp; omega, by simp; omega, by simp; omega, ?_, by simp; omega, by simp; omega, ?_⟩
    · show t.mant * 10 + (c - 48) < 10 ^ (t.ndm + 1)
      rw [Nat.pow_succ]
      generalize 10 ^ t.ndm = x at a4
      omega
    · intro h3 _
      have := a7 h3 h19
      show t.ndm + 1 = t.nd + 1
      omega
  · rw [RS.step_more t c h1 hz h19]
    exact ⟨by simp; omega, by simp; omega, a3, a4, by simp; omega, by simp; omega, fun _ hx => absurd hx h19⟩

/-- the exponent behind the e -/
def exAt (s : ByteArray) (q : Nat) : Nat → Nat
  | 0 => 0
  | k + 1 => if exAt s q k < 10000 then exAt s q k * 10 + (bt s (q + k) - 48) else exAt s q k
theorem exAt_lt (s : ByteArray) (q k : Nat) (h : ∀ j, j < k → bt s (q + j) ≤ 57) : exAt s q k < 100000 := by
  induction k with
  | zero => simp [exAt]
  | succ k ih =>
    have := ih (fun j hj => h j (by omega))
    have := h k (by omega)
    unfold exAt
    split <;> omega
end SolF
