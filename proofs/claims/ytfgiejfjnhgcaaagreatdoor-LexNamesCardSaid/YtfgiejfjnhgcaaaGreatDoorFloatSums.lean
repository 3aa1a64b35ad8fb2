/- Sums, differences and products of the model's numbers; small whole numbers are exact. No program in sight. -/
import Derived.Test.YtfgiejfjnhgcaaaGreatDoorFloatPure
namespace SolF
open Ieee Ieee.Datum

theorem sum_comm (x y : Datum) : x.sum y = y.sum x := by
  cases x <;> cases y <;> simp [sum]
  · rename_i s m i t n j
    rw [Int.min_comm i j, Int.add_comm, Bool.and_comm]
    exact ⟨rfl, rfl, rfl⟩
  · rename_i s t
    by_cases h : s = t
    · subst h; simp
    · have h' : ¬ t = s := fun e => h e.symm
      simp [h, h']

theorem product_comm (x y : Datum) : x.product y = y.product x := by
  cases x <;> cases y <;> simp [product, Nat.mul_comm, Int.add_comm, Bool.xor_comm]

theorem product_opposite (x y : Datum) : x.opposite.product y = (x.product y).map opposite := by
  cases x <;> cases y <;> simp [product, opposite]
  all_goals first | (split <;> simp [opposite]) | skip

theorem sum_nan_left (x y : Datum) (h : x.isNaN = true) : x.sum y = none := by cases x <;> simp_all [isNaN, sum]
theorem sum_nan_right (x y : Datum) (h : y.isNaN = true) : x.sum y = none := by cases y <;> simp_all [isNaN] <;> cases x <;> simp [sum]
theorem product_nan_left (x y : Datum) (h : x.isNaN = true) : x.product y = none := by cases x <;> simp_all [isNaN, product]
theorem sum_num (x y z : Datum) (h : x.sum y = some z) : z.isNaN = false := by
  cases x <;> cases y <;> simp [sum] at h
  · subst h; rfl
  · subst h; rfl
  · subst h; rfl
  · obtain ⟨_, rfl⟩ := h; rfl
theorem product_num (x y z : Datum) (h : x.product y = some z) : z.isNaN = false := by
  cases x <;> cases y <;> simp [product] at h
  · subst h; rfl
  · obtain ⟨_, rfl⟩ := h; rfl
  · obtain ⟨_, rfl⟩ := h; rfl
  · subst h; rfl

theorem word_lt (neg : Bool) (r : Nat) (h : r ≤ 9218868437227405312) : double.word neg r < 18446744073709551616 := by
  unfold Format.word; rw [dbl_sign]; split <;> omega
theorem flip_word (neg : Bool) (r : Nat) (h : r ≤ 9218868437227405312) : flip (double.word neg r) = double.word (!neg) r := by
  unfold Format.word flip; rw [dbl_sign]
  cases neg
  · simp only [Bool.false_eq_true, if_false, Bool.not_false, if_true]; rw [if_pos (by omega)]; omega
  · simp only [Bool.not_true, Bool.false_eq_true, if_false, if_true]; rw [if_neg (by omega)]; omega
theorem word_num (neg : Bool) (r : Nat) (h : r ≤ 9218868437227405312) : (rd (double.word neg r)).isNaN = false := by
  have e : double.word neg r % 9223372036854775808 = r := by
    unfold Format.word; rw [dbl_sign]; split <;> omega
  unfold rd Format.read
  simp only [dbl_binade, dbl_inf, dbl_sign, dbl_least, e]
  split
  · rfl
  split
  · rfl
  split
  · rfl
  · omega

/-- the rung to which a number is rounded -/
def rung (mag : Nat) (place : Int) : Nat :=
  if mag = 0 then 0 else
  let last := max (place + mag.log2 - 52) (-1074)
  let kept := Toward.even.cut false (mag <<< (place - last).toNat) (last - place).toNat
  min ((last + 1074).toNat * 4503599627370496 + kept) 9218868437227405312

theorem cut_even (a b : Bool) (n d : Nat) : Toward.even.cut a n d = Toward.even.cut b n d := rfl

theorem nearest_rung (neg : Bool) (mag : Nat) (place : Int) : double.nearest neg mag place = double.word neg (rung mag place) := by
  unfold Format.nearest rung
  simp only [dbl_binade, dbl_inf, dbl_least]
  split
  · rfl
  · have e : (double.fractionBits : Int) = 52 := rfl
    rw [e, cut_even neg false]
    congr 3
theorem rung_le (mag : Nat) (place : Int) : rung mag place ≤ 9218868437227405312 := by
  unfold rung; split
  · omega
  · exact Nat.min_le_right _ _

theorem write_num (d : Datum) (h : d.isNaN = false) : (rd (double.write d)).isNaN = false := by
  cases d with
  | nan s t => simp [isNaN] at h
  | infinity s => exact word_num _ _ (Nat.le_refl _)
  | number s m i => simp only [Format.write]; rw [nearest_rung]; exact word_num _ _ (rung_le _ _)
theorem write_lt (d : Datum) (h : d.isNaN = false) : double.write d < 18446744073709551616 := by
  cases d with
  | nan s t => simp [isNaN] at h
  | infinity s => exact word_lt _ _ (Nat.le_refl _)
  | number s m i => simp only [Format.write]; rw [nearest_rung]; exact word_lt _ _ (rung_le _ _)
theorem write_opposite (d : Datum) (h : d.isNaN = false) : double.write d.opposite = flip (double.write d) := by
  cases d with
  | nan s t => simp [isNaN] at h
  | infinity s => exact (flip_word _ _ (Nat.le_refl _)).symm
  | number s m i => simp only [opposite, Format.write]; rw [nearest_rung, nearest_rung]; exact (flip_word _ _ (rung_le _ _)).symm

/-- an operation's bits: NaN has one form -/
def bitsOf : Option Nat → Nat
  | some r => canon r
  | none => qnan
def fadd (a b : Nat) : Nat := bitsOf (double.add a b)
def fsub (a b : Nat) : Nat := bitsOf (double.sub a b)
def fmul (a b : Nat) : Nat := bitsOf (double.mul a b)
def fdiv (a b : Nat) : Nat := bitsOf (double.div a b)

theorem fadd_comm (a b : Nat) : fadd a b = fadd b a := by unfold fadd Format.add; rw [sum_comm]
theorem fmul_comm (a b : Nat) : fmul a b = fmul b a := by unfold fmul Format.mul; rw [product_comm]
theorem fsub_eq {a b : Nat} (hb : b < 18446744073709551616) : fsub a b = fadd a (neg b) := by
  unfold fsub fadd Format.sub Format.add
  by_cases h : (rd b).isNaN = true
  · rw [sum_nan_right _ _ (by rw [isNaN_opposite]; exact h), sum_nan_right _ (double.read (neg b)) (by rw [neg_nan hb h]; exact qnan_nan)]
  · rw [← read_neg hb (by simpa using h)]
theorem fmul_neg {a b : Nat} (ha : a < 18446744073709551616) : fmul (neg a) b = neg (fmul a b) := by
  unfold fmul Format.mul
  by_cases h : (rd a).isNaN = true
  · rw [product_nan_left (double.read (neg a)) _ (by rw [neg_nan ha h]; exact qnan_nan), product_nan_left (double.read a) _ h]
    exact (neg_nan (by decide) qnan_nan).symm
  · rw [show double.read (neg a) = (rd a).opposite from read_neg ha (by simpa using h), product_opposite]
    cases hp : (rd a).product (double.read b) with
    | none => exact (neg_nan (by decide) qnan_nan).symm
    | some d =>
      have hd := product_num _ _ _ hp
      show canon (double.write d.opposite) = neg (canon (double.write d))
      rw [canon_num (write_num _ (by rw [isNaN_opposite]; exact hd)), canon_num (write_num _ hd), neg_num (write_lt _ hd) (write_num _ hd), write_opposite _ hd]

/-! ### whole numbers -/
/-- 2 to the 1074: one, in units of the least place -/
def pw (n : Nat) : Nat := 2 ^ n
theorem pw_pos (n : Nat) : 0 < pw n := Nat.pow_pos (by decide)
def one : Nat := pw 1074
theorem one_pos : 0 < one := pw_pos 1074
theorem one_eq (n : Nat) (h : n = 1074) : 2 ^ n = one := (congrArg pw h : pw n = pw 1074)

theorem log2_mul_pow (m k : Nat) (h : m ≠ 0) : (m * 2 ^ k).log2 = m.log2 + k := by
  have hm : m * 2 ^ k ≠ 0 := by
    have := Nat.pow_pos (n := k) (show 0 < 2 by decide)
    exact Nat.mul_ne_zero h (by omega)
  rw [Nat.log2_eq_iff hm]
  have h1 := Nat.log2_self_le h
  have h2 := Nat.lt_log2_self (n := m)
  constructor
  · rw [Nat.pow_add]; exact Nat.mul_le_mul_right _ h1
  · rw [show m.log2 + k + 1 = (m.log2 + 1) + k from by omega, Nat.pow_add]
    exact Nat.mul_lt_mul_of_pos_right h2 (Nat.pow_pos (by decide))

theorem cut_zero (n : Nat) : Toward.even.cut false n 0 = n := by
  unfold Toward.cut
  simp [Nat.mod_one]

theorem cut_scale (n d k : Nat) (h : n ≠ 0) : Toward.even.cut false (n * 2 ^ k) (d + k) = Toward.even.cut false n d := by
  have hp : 0 < 2 ^ k := Nat.pow_pos (by decide)
  unfold Toward.cut
  rw [log2_mul_pow n k h]
  have hg : (1 <<< min (d + k) (n.log2 + k + 2)) = (1 <<< min d (n.log2 + 2)) * 2 ^ k := by
    rw [Nat.shiftLeft_eq, Nat.shiftLeft_eq, Nat.mul_assoc, ← Nat.pow_add]
    congr 2
    omega
  simp only [hg]
  have e1 : n * 2 ^ k / ((1 <<< min d (n.log2 + 2)) * 2 ^ k) = n / (1 <<< min d (n.log2 + 2)) := Nat.mul_div_mul_right _ _ hp
  have e2 : n * 2 ^ k % ((1 <<< min d (n.log2 + 2)) * 2 ^ k) = n % (1 <<< min d (n.log2 + 2)) * 2 ^ k := Nat.mul_mod_mul_right _ _ _
  rw [e1, e2]
  have e3 : ((1 <<< min d (n.log2 + 2)) * 2 ^ k < 2 * (n % (1 <<< min d (n.log2 + 2)) * 2 ^ k)) ↔ (1 <<< min d (n.log2 + 2)) < 2 * (n % (1 <<< min d (n.log2 + 2))) := by
    rw [← Nat.mul_assoc]
    exact Nat.mul_lt_mul_right hp
  have e4 : ((1 <<< min d (n.log2 + 2)) * 2 ^ k == 2 * (n % (1 <<< min d (n.log2 + 2)) * 2 ^ k)) = ((1 <<< min d (n.log2 + 2)) == 2 * (n % (1 <<< min d (n.log2 + 2)))) := by
    rw [Bool.eq_iff_iff, beq_iff_eq, beq_iff_eq, ← Nat.mul_assoc]
    exact Nat.mul_left_inj (by omega)
  simp only [e3, e4]

theorem rung_scale (m k : Nat) (p : Int) : rung (m * 2 ^ k) (p - k) = rung m p := by
  by_cases h : m = 0
  · subst h; simp [rung]
  have hm : m * 2 ^ k ≠ 0 := by
    have := Nat.pow_pos (n := k) (show 0 < 2 by decide)
    exact Nat.mul_ne_zero h (by omega)
  unfold rung
  rw [if_neg h, if_neg hm, log2_mul_pow m k h]
  have el : max (p - k + ((m.log2 + k : Nat) : Int) - 52) (-1074) = max (p + (m.log2 : Int) - 52) (-1074) := by omega
  rw [el]
  generalize max (p + (m.log2 : Int) - 52) (-1074) = last
  simp only
  congr 2
  by_cases h1 : last ≤ p
  · rw [show (last - p).toNat = 0 from by omega, cut_zero]
    by_cases h2 : last ≤ p - k
    · rw [show (last - (p - k)).toNat = 0 from by omega, cut_zero, Nat.shiftLeft_eq, Nat.shiftLeft_eq, Nat.mul_assoc, ← Nat.pow_add]
      congr 2; omega
    · obtain ⟨d, hd⟩ : ∃ d : Nat, (d : Int) = last - (p - k) := ⟨(last - (p - k)).toNat, by omega⟩
      rw [show (p - k - last).toNat = 0 from by omega, Nat.shiftLeft_zero, show (last - (p - k)).toNat = d from by omega, show (p - last).toNat = k - d from by omega,
        show m * 2 ^ k = (m <<< (k - d)) * 2 ^ d from by rw [Nat.shiftLeft_eq, Nat.mul_assoc, ← Nat.pow_add]; congr 2; omega]
      have := cut_scale (m <<< (k - d)) 0 d (by rw [Nat.shiftLeft_eq]; have := Nat.pow_pos (n := k - d) (show 0 < 2 by decide); exact Nat.mul_ne_zero h (by omega))
      rw [Nat.zero_add] at this
      rw [this, cut_zero]
  · rw [show (p - last).toNat = 0 from by omega, show (p - k - last).toNat = 0 from by omega, Nat.shiftLeft_zero, Nat.shiftLeft_zero,
      show (last - (p - k)).toNat = (last - p).toNat + k from by omega]
    exact cut_scale m _ k h

/-- the value of a number, in units of 2 ^ -1074 -/
theorem rung_of_value (m n : Nat) (p q : Int) (hp : -1074 ≤ p) (hq : -1074 ≤ q) (h : m * 2 ^ (p + 1074).toNat = n * 2 ^ (q + 1074).toNat) : rung m p = rung n q := by
  have h1 := rung_scale m (p + 1074).toNat p
  have h2 := rung_scale n (q + 1074).toNat q
  rw [show p - ((p + 1074).toNat : Int) = -1074 from by omega] at h1
  rw [show q - ((q + 1074).toNat : Int) = -1074 from by omega] at h2
  rw [← h1, ← h2, h]

/-- what a small whole number's word reads as -/
theorem read_whole (s : Bool) (v : Nat) (h : v < 9007199254740992) : ∃ m i, rd (double.nearest s v 0) = .number s m i ∧ -1074 ≤ i ∧ m * 2 ^ (i + 1074).toNat = v * one := by
  by_cases h0 : v = 0
  · subst h0
    refine ⟨0, -1074, ?_, by omega, by rw [Nat.zero_mul, Nat.zero_mul]⟩
    cases s <;> decide
  have hl := Nat.log2_self_le h0
  have hu := Nat.lt_log2_self (n := v)
  have h52 : v.log2 ≤ 52 := by
    have : v.log2 < 53 := (Nat.log2_lt h0).2 (by simpa using h)
    omega
  rw [nearest_rung]
  obtain ⟨k, hk⟩ : ∃ k, v.log2 + k = 52 := ⟨52 - v.log2, by omega⟩
  have hr : rung v 0 = (v.log2 + 1022) * 4503599627370496 + v * 2 ^ k := by
    unfold rung
    rw [if_neg h0]
    have e : max (0 + (v.log2 : Int) - 52) (-1074) = -(k : Int) := by omega
    rw [e]
    simp only
    rw [show (0 - -(k : Int)).toNat = k from by omega, show (-(k : Int) - 0).toNat = 0 from by omega, cut_zero, Nat.shiftLeft_eq, show (-(k : Int) + 1074).toNat = v.log2 + 1022 from by omega]
    have : v * 2 ^ k < 9007199254740992 := by
      calc v * 2 ^ k < 2 ^ (v.log2 + 1) * 2 ^ k := Nat.mul_lt_mul_of_pos_right hu (Nat.pow_pos (by decide))
        _ = 2 ^ 53 := by rw [← Nat.pow_add]; congr 1; omega
        _ = 9007199254740992 := by decide
    omega
  have hlo : 4503599627370496 ≤ v * 2 ^ k := by
    calc 4503599627370496 = 2 ^ 52 := by decide
      _ = 2 ^ v.log2 * 2 ^ k := by rw [← Nat.pow_add]; congr 1; omega
      _ ≤ v * 2 ^ k := Nat.mul_le_mul_right _ hl
  have hhi : v * 2 ^ k < 9007199254740992 := by
    calc v * 2 ^ k < 2 ^ (v.log2 + 1) * 2 ^ k := Nat.mul_lt_mul_of_pos_right hu (Nat.pow_pos (by decide))
      _ = 2 ^ 53 := by rw [← Nat.pow_add]; congr 1; omega
      _ = 9007199254740992 := by decide
  rw [hr]
  generalize hK : v * 2 ^ k = K at *
  have hle : (v.log2 + 1022) * 4503599627370496 + K < 9218868437227405312 := by omega
  have e1 : double.word s ((v.log2 + 1022) * 4503599627370496 + K) % 9223372036854775808 = (v.log2 + 1022) * 4503599627370496 + K := by
    unfold Format.word; rw [dbl_sign]; split <;> omega
  have e2 : (double.word s ((v.log2 + 1022) * 4503599627370496 + K) / 9223372036854775808 % 2 == 1) = s := by
    unfold Format.word; rw [dbl_sign]
    cases s
    · simp only [Bool.false_eq_true, if_false]
      rw [show ((v.log2 + 1022) * 4503599627370496 + K) / 9223372036854775808 % 2 = 0 from by omega]; rfl
    · simp only [if_true]
      rw [show (9223372036854775808 + ((v.log2 + 1022) * 4503599627370496 + K)) / 9223372036854775808 % 2 = 1 from by omega]; rfl
  refine ⟨K, -(k : Int), ?_, by omega, ?_⟩
  · unfold rd Format.read
    simp only [dbl_binade, dbl_inf, dbl_sign, dbl_least, e1, e2]
    rw [if_neg (by omega), if_pos hle]
    congr 1
    · omega
    · have : ((v.log2 + 1022) * 4503599627370496 + K) / 4503599627370496 = v.log2 + 1023 := by omega
      rw [this]; omega
  · rw [← hK, Nat.mul_assoc, ← Nat.pow_add, one_eq _ (by omega)]

def ofNat (v : Nat) : Nat := double.nearest false v 0

theorem key_whole (v : Nat) (h : v < 9007199254740992) : key BB (rd (ofNat v)) = ((v * one : Nat) : Int) ∧ (rd (ofNat v)).isNaN = false := by
  obtain ⟨m, i, h1, h2, h3⟩ := read_whole false v h
  unfold ofNat
  rw [h1]
  refine ⟨?_, rfl⟩
  simp only [key, signed, Bool.false_eq_true, if_false]
  rw [Nat.shiftLeft_eq, h3]

theorem flt_whole (v w : Nat) (hv : v < 9007199254740992) (hw : w < 9007199254740992) : flt (ofNat v) (ofNat w) = decide (v < w) := by
  obtain ⟨k1, n1⟩ := key_whole v hv
  obtain ⟨k2, n2⟩ := key_whole w hw
  rw [Bool.eq_iff_iff, flt_iff, k1, k2]
  simp only [n1, n2, true_and, decide_eq_true_eq]
  constructor
  · intro h
    exact Nat.lt_of_mul_lt_mul_right (a := one) (Int.ofNat_lt.1 h)
  · intro h
    exact Int.ofNat_lt.2 (Nat.mul_lt_mul_of_pos_right h one_pos)

theorem fadd_whole (v w : Nat) (hv : v < 4503599627370496) (hw : w < 4503599627370496) : fadd (ofNat v) (ofNat w) = ofNat (v + w) := by
  obtain ⟨m, i, h1, h2, h3⟩ := read_whole false v (by omega)
  obtain ⟨n, j, g1, g2, g3⟩ := read_whole false w (by omega)
  have hs : double.add (ofNat v) (ofNat w) = some (double.write (.number (if signed false m (i - min i j).toNat + signed false n (j - min i j).toNat = 0 then false && false else decide (signed false m (i - min i j).toNat + signed false n (j - min i j).toNat < 0)) (signed false m (i - min i j).toNat + signed false n (j - min i j).toNat).natAbs (min i j))) := by
    unfold Format.add ofNat
    rw [show double.read (double.nearest false v 0) = .number false m i from h1, show double.read (double.nearest false w 0) = .number false n j from g1]
    rfl
  have hA : signed false m (i - min i j).toNat = ((m * 2 ^ (i - min i j).toNat : Nat) : Int) := by simp [signed, Nat.shiftLeft_eq]
  have hB : signed false n (j - min i j).toNat = ((n * 2 ^ (j - min i j).toNat : Nat) : Int) := by simp [signed, Nat.shiftLeft_eq]
  rw [hA, hB] at hs
  generalize hX : m * 2 ^ (i - min i j).toNat = X at hs
  generalize hY : n * 2 ^ (j - min i j).toNat = Y at hs
  have hneg : (if ((X : Int) + (Y : Int) = 0) then (false && false) else decide ((X : Int) + (Y : Int) < 0)) = false := by
    split
    · rfl
    · simp; omega
  rw [hneg, show ((X : Int) + (Y : Int)).natAbs = X + Y from by omega] at hs
  unfold fadd
  rw [hs]
  show canon (double.write _) = _
  rw [canon_num (write_num _ rfl)]
  show double.nearest false (X + Y) (min i j) = double.nearest false (v + w) 0
  rw [nearest_rung, nearest_rung]
  congr 1
  refine rung_of_value _ _ _ _ (by omega) (by omega) ?_
  have p1 : X * 2 ^ (min i j + 1074).toNat = v * one := by
    rw [← hX, Nat.mul_assoc, ← Nat.pow_add, ← h3]; congr 2; omega
  have p2 : Y * 2 ^ (min i j + 1074).toNat = w * one := by
    rw [← hY, Nat.mul_assoc, ← Nat.pow_add, ← g3]; congr 2; omega
  rw [Nat.add_mul, p1, p2, ← Nat.add_mul, one_eq _ (by omega)]
end SolF
