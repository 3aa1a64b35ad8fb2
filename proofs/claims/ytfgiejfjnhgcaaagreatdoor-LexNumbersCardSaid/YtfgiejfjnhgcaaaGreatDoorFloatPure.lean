/- Facts about the model's IEEE numbers: their order, sums, products, and the exactness of small whole numbers. No program in sight. -/
import Ieee.Arith
namespace SolF
open Ieee Ieee.Datum

/-- a word's datum -/
abbrev rd (a : Nat) : Datum := double.read a

theorem signed_scale (s : Bool) (m u k : Nat) : signed s m (u + k) = signed s m u * ((2 ^ k : Nat) : Int) := by
  have h : m <<< (u + k) = (m <<< u) * 2 ^ k := by
    rw [Nat.shiftLeft_eq, Nat.shiftLeft_eq, Nat.pow_add, Nat.mul_assoc]
  unfold signed
  rw [h]
  cases s <;> simp [Int.natCast_mul, Int.neg_mul]

theorem signed_neg (s : Bool) (m u : Nat) : signed (!s) m u = - signed s m u := by
  cases s <;> simp [signed]

/-- the size of a datum as one whole number -/
def key (B : Int) : Datum → Int
  | .number s m i => signed s m (i + 1074).toNat
  | .infinity s => if s then -B else B
  | .nan .. => 0

def good (B : Int) : Datum → Prop
  | .number s m i => -1074 ≤ i ∧ signed s m (i + 1074).toNat < B ∧ -B < signed s m (i + 1074).toNat
  | _ => True

theorem compare_mul (a b c : Int) (hc : 0 < c) : compare (a * c) (b * c) = compare a b := by
  rcases Int.lt_trichotomy a b with h | h | h
  · rw [Int.compare_eq_lt.2 h, Int.compare_eq_lt.2 (Int.mul_lt_mul_of_pos_right h hc)]
  · rw [h]; rw [Int.compare_eq_eq.2 rfl, Int.compare_eq_eq.2 rfl]
  · rw [Int.compare_eq_gt.2 h, Int.compare_eq_gt.2 (Int.mul_lt_mul_of_pos_right h hc)]

theorem order_key {B : Int} (hB : 0 < B) (x y : Datum) (hx : good B x) (hy : good B y) (nx : x.isNaN = false) (ny : y.isNaN = false) :
    order x y = some (compare (key B x) (key B y)) := by
  cases x with
  | nan s t => simp [isNaN] at nx
  | infinity s =>
    cases y with
    | nan s t => simp [isNaN] at ny
    | infinity t =>
      have hc : compare B (-B) = .gt := Int.compare_eq_gt.2 (by omega)
      have hd : compare (-B) B = .lt := Int.compare_eq_lt.2 (by omega)
      have he : compare B B = .eq := Int.compare_eq_eq.2 rfl
      have hf : compare (-B) (-B) = .eq := Int.compare_eq_eq.2 rfl
      cases s <;> cases t <;> simp only [order, key, Bool.false_eq_true, if_false, if_true, hc, hd, he, hf] <;> rfl
    | number t n j =>
      obtain ⟨_, h2, h3⟩ := hy
      cases s
      · simp only [order, key, Bool.false_eq_true, if_false]; rw [Int.compare_eq_gt.2 h2]
      · simp only [order, key, if_true]; rw [Int.compare_eq_lt.2 h3]
  | number s m i =>
    cases y with
    | nan s t => simp [isNaN] at ny
    | infinity t =>
      obtain ⟨_, h2, h3⟩ := hx
      cases t
      · simp only [order, key, Bool.false_eq_true, if_false]; rw [Int.compare_eq_lt.2 h2]
      · simp only [order, key, if_true]; rw [Int.compare_eq_gt.2 h3]
    | number t n j =>
      obtain ⟨hi, _, _⟩ := hx
      obtain ⟨hj, _, _⟩ := hy
      simp only [order, key]
      have e1 : (i + 1074).toNat = (i - min i j).toNat + (min i j + 1074).toNat := by omega
      have e2 : (j + 1074).toNat = (j - min i j).toNat + (min i j + 1074).toNat := by omega
      rw [e1, e2, signed_scale, signed_scale, compare_mul]
      have : 0 < 2 ^ (min i j + 1074).toNat := Nat.pow_pos (by decide)
      omega

theorem order_nan_left (x y : Datum) (h : x.isNaN = true) : order x y = none := by
  cases x <;> simp_all [isNaN, order]
theorem order_nan_right (x y : Datum) (h : y.isNaN = true) : order x y = none := by
  cases y <;> simp_all [isNaN] <;> cases x <;> simp [order]

theorem key_opposite (B : Int) (x : Datum) : key B x.opposite = - key B x := by
  cases x with
  | number s m i => exact signed_neg s m _
  | infinity s => cases s <;> simp [opposite, key]
  | nan s t => simp [opposite, key]

theorem good_opposite {B : Int} {x : Datum} (h : good B x) : good B x.opposite := by
  cases x with
  | number s m i =>
    obtain ⟨a, b, c⟩ := h
    refine ⟨a, ?_, ?_⟩ <;> rw [signed_neg] <;> omega
  | infinity s => trivial
  | nan s t => trivial

theorem isNaN_opposite (x : Datum) : x.opposite.isNaN = x.isNaN := by cases x <;> rfl

/-- everything that bounds a double -/
def BB : Int := ((2 ^ 2100 : Nat) : Int)
theorem BB_pos : 0 < BB := by unfold BB; exact_mod_cast Nat.pow_pos (by decide)

theorem dbl_binade : double.binade = 4503599627370496 := rfl
theorem dbl_inf : double.infRung = 9218868437227405312 := rfl
theorem dbl_sign : double.signWeight = 9223372036854775808 := rfl
theorem dbl_least : double.leastPlace = -1074 := rfl

theorem signed_lt (s : Bool) (m u e : Nat) (hm : m < 9007199254740992) (hu : u + 53 ≤ e) : signed s m u < ((2 ^ e : Nat) : Int) ∧ -((2 ^ e : Nat) : Int) < signed s m u := by
  have h : m <<< u < 2 ^ e := by
    rw [Nat.shiftLeft_eq]
    calc m * 2 ^ u < 9007199254740992 * 2 ^ u := Nat.mul_lt_mul_of_pos_right hm (Nat.pow_pos (by decide))
      _ = 2 ^ (53 + u) := by rw [Nat.pow_add]
      _ ≤ 2 ^ e := Nat.pow_le_pow_right (by decide) (by omega)
  unfold signed
  generalize m <<< u = x at h ⊢
  generalize 2 ^ e = y at h ⊢
  cases s <;> simp only [Bool.false_eq_true, if_false, if_true] <;> omega

/-- what a sign and a rung stand for -/
def rdF (neg : Bool) (r : Nat) : Datum :=
  if r < 4503599627370496 then .number neg r (-1074)
  else if r < 9218868437227405312 then .number neg (4503599627370496 + r % 4503599627370496) (-1074 + ((r / 4503599627370496 - 1 : Nat) : Int))
  else if r = 9218868437227405312 then .infinity neg
  else .nan neg (r - 9218868437227405312)
theorem rd_eq (a : Nat) : rd a = rdF (a / 9223372036854775808 % 2 == 1) (a % 9223372036854775808) := rfl

theorem read_number_cases (a : Nat) : ∃ neg, (∃ m i, rd a = .number neg m i ∧ m < 9007199254740992 ∧ -1074 ≤ i ∧ i ≤ 971) ∨ rd a = .infinity neg ∨ ∃ t, rd a = .nan neg t := by
  rw [rd_eq]
  generalize (a / 9223372036854775808 % 2 == 1) = s
  have hr : a % 9223372036854775808 < 9223372036854775808 := Nat.mod_lt _ (by decide)
  generalize a % 9223372036854775808 = r at hr
  refine ⟨s, ?_⟩
  unfold rdF
  split
  · exact .inl ⟨_, _, rfl, by omega, by omega, by omega⟩
  split
  · exact .inl ⟨_, _, rfl, by omega, by omega, by omega⟩
  split
  · exact .inr (.inl rfl)
  · exact .inr (.inr ⟨_, rfl⟩)

theorem good_read (a : Nat) : good BB (rd a) := by
  obtain ⟨neg, ⟨m, i, h, hm, h1, h2⟩ | h | ⟨t, h⟩⟩ := read_number_cases a
  · rw [h]
    have := signed_lt neg m (i + 1074).toNat 2100 hm (by omega)
    exact ⟨h1, this.1, this.2⟩
  · rw [h]; trivial
  · rw [h]; trivial

/-- order of words -/
theorem order_words (a b : Nat) : double.order a b = if (rd a).isNaN || (rd b).isNaN then none else some (compare (key BB (rd a)) (key BB (rd b))) := by
  unfold Format.order
  by_cases ha : (rd a).isNaN = true
  · rw [order_nan_left _ _ ha]; simp [ha]
  · by_cases hb : (rd b).isNaN = true
    · rw [order_nan_right _ _ hb]; simp [hb]
    · rw [order_key BB_pos _ _ (good_read a) (good_read b) (by simpa using ha) (by simpa using hb)]
      simp [ha, hb]

/-- a word with the other sign -/
def flip (a : Nat) : Nat := if a < 9223372036854775808 then a + 9223372036854775808 else a - 9223372036854775808
theorem flip_lt {a : Nat} (h : a < 18446744073709551616) : flip a < 18446744073709551616 := by unfold flip; split <;> omega
theorem flip_flip {a : Nat} (h : a < 18446744073709551616) : flip (flip a) = a := by unfold flip; split <;> split <;> omega

theorem read_flip {a : Nat} (h : a < 18446744073709551616) : rd (flip a) = (rd a).opposite := by
  have e1 : flip a % 9223372036854775808 = a % 9223372036854775808 := by unfold flip; split <;> omega
  have e2 : (flip a / 9223372036854775808 % 2 == 1) = !(a / 9223372036854775808 % 2 == 1) := by
    unfold flip
    split
    · have h1 : (a + 9223372036854775808) / 9223372036854775808 % 2 = 1 := by omega
      have h2 : a / 9223372036854775808 % 2 = 0 := by omega
      rw [h1, h2]; rfl
    · have h1 : (a - 9223372036854775808) / 9223372036854775808 % 2 = 0 := by omega
      have h2 : a / 9223372036854775808 % 2 = 1 := by omega
      rw [h1, h2]; rfl
  rw [rd_eq, rd_eq, e1, e2]
  generalize (a / 9223372036854775808 % 2 == 1) = s
  generalize a % 9223372036854775808 = r
  unfold rdF
  split
  · rfl
  split
  · rfl
  split <;> rfl

/-- NaN's one form -/
def qnan : Nat := 9221120237041090560
def canon (a : Nat) : Nat := if (rd a).isNaN then qnan else a
theorem qnan_nan : (rd qnan).isNaN = true := by decide
theorem canon_nan {a : Nat} (h : (rd a).isNaN = true) : canon a = qnan := by simp [canon, h]
theorem canon_num {a : Nat} (h : (rd a).isNaN = false) : canon a = a := by simp [canon, h]
theorem canon_eq_qnan {a : Nat} : canon a = qnan ↔ (rd a).isNaN = true := by
  constructor
  · intro h
    by_cases hn : (rd a).isNaN = true
    · exact hn
    · rw [canon_num (by simpa using hn)] at h; rw [h]; exact qnan_nan
  · exact canon_nan
theorem canon_lt {a : Nat} (h : a < 18446744073709551616) : canon a < 18446744073709551616 := by
  unfold canon; split
  · decide
  · exact h
theorem canon_canon (a : Nat) : canon (canon a) = canon a := by
  by_cases h : (rd a).isNaN = true
  · rw [canon_nan h, canon_nan qnan_nan]
  · have h' : (rd a).isNaN = false := by simpa using h
    rw [canon_num h', canon_num h']
def neg (a : Nat) : Nat := canon (flip a)
theorem neg_nan {a : Nat} (h : a < 18446744073709551616) (hn : (rd a).isNaN = true) : neg a = qnan := by
  unfold neg; rw [canon_nan]; rw [read_flip h, isNaN_opposite]; exact hn
theorem neg_num {a : Nat} (h : a < 18446744073709551616) (hn : (rd a).isNaN = false) : neg a = flip a := by
  unfold neg; rw [canon_num]; rw [read_flip h, isNaN_opposite]; exact hn
theorem isNaN_neg {a : Nat} (h : a < 18446744073709551616) : (rd (neg a)).isNaN = (rd a).isNaN := by
  by_cases hn : (rd a).isNaN = true
  · rw [neg_nan h hn, qnan_nan, hn]
  · rw [neg_num h (by simpa using hn), read_flip h, isNaN_opposite]
theorem read_neg {a : Nat} (h : a < 18446744073709551616) (hn : (rd a).isNaN = false) : rd (neg a) = (rd a).opposite := by
  rw [neg_num h hn, read_flip h]

/-- the comparisons -/
def feq (a b : Nat) : Bool := double.order a b == some .eq
def flt (a b : Nat) : Bool := double.order a b == some .lt
def fle (a b : Nat) : Bool := double.order a b == some .lt || double.order a b == some .eq

theorem feq_iff (a b : Nat) : feq a b = true ↔ (rd a).isNaN = false ∧ (rd b).isNaN = false ∧ key BB (rd a) = key BB (rd b) := by
  unfold feq; rw [order_words]
  by_cases ha : (rd a).isNaN <;> by_cases hb : (rd b).isNaN <;> simp [ha, hb]
theorem flt_iff (a b : Nat) : flt a b = true ↔ (rd a).isNaN = false ∧ (rd b).isNaN = false ∧ key BB (rd a) < key BB (rd b) := by
  unfold flt; rw [order_words]
  by_cases ha : (rd a).isNaN <;> by_cases hb : (rd b).isNaN <;> simp [ha, hb, Int.compare_eq_lt]
theorem fle_iff (a b : Nat) : fle a b = true ↔ (rd a).isNaN = false ∧ (rd b).isNaN = false ∧ key BB (rd a) ≤ key BB (rd b) := by
  unfold fle; rw [order_words]
  by_cases ha : (rd a).isNaN <;> by_cases hb : (rd b).isNaN <;> simp [ha, hb, Int.compare_eq_lt]
  omega
theorem order_self (a : Nat) : (double.order a a != some .eq) = (rd a).isNaN := by
  rw [order_words]
  by_cases h : (rd a).isNaN = true
  · simp [h]
  · simp [h]
theorem fle_eq (a b : Nat) : fle a b = (flt a b || feq a b) := rfl

theorem flt_neg {a b : Nat} (ha : a < 18446744073709551616) (hb : b < 18446744073709551616) : flt (neg b) (neg a) = flt a b := by
  rw [Bool.eq_iff_iff, flt_iff, flt_iff, isNaN_neg ha, isNaN_neg hb]
  constructor
  · rintro ⟨h1, h2, h3⟩
    rw [read_neg ha h2, read_neg hb h1, key_opposite, key_opposite] at h3
    exact ⟨h2, h1, by omega⟩
  · rintro ⟨h1, h2, h3⟩
    rw [read_neg ha h1, read_neg hb h2, key_opposite, key_opposite]
    exact ⟨h2, h1, by omega⟩

theorem fle_trans {a b c : Nat} (h1 : fle a b = true) (h2 : fle b c = true) : fle a c = true := by
  rw [fle_iff] at *
  exact ⟨h1.1, h2.2.1, by omega⟩

/-- how many of the three hold -/
theorem three (a b : Nat) : (flt a b).toNat + (flt b a).toNat + (feq a b).toNat = if canon a ≠ qnan ∧ canon b ≠ qnan then 1 else 0 := by
  have e1 := flt_iff a b
  have e2 := flt_iff b a
  have e3 := feq_iff a b
  simp only [ne_eq, canon_eq_qnan]
  by_cases ha : (rd a).isNaN = true
  · simp [ha] at *
    simp [e1, e2, e3]
  by_cases hb : (rd b).isNaN = true
  · simp [hb] at *
    simp [e1, e2, e3]
  simp only [ha, hb, Bool.not_eq_true] at *
  simp only [true_and] at *
  rcases Int.lt_trichotomy (key BB (rd a)) (key BB (rd b)) with h | h | h
  · have h1 : flt a b = true := by rw [e1]; exact h
    have h2 : flt b a = false := by rw [Bool.eq_false_iff]; intro c; rw [e2] at c; omega
    have h3 : feq a b = false := by rw [Bool.eq_false_iff]; intro c; rw [e3] at c; omega
    simp [h1, h2, h3]
  · have h1 : flt a b = false := by rw [Bool.eq_false_iff]; intro c; rw [e1] at c; omega
    have h2 : flt b a = false := by rw [Bool.eq_false_iff]; intro c; rw [e2] at c; omega
    have h3 : feq a b = true := by rw [e3]; exact h
    simp [h1, h2, h3]
  · have h1 : flt a b = false := by rw [Bool.eq_false_iff]; intro c; rw [e1] at c; omega
    have h2 : flt b a = true := by rw [e2]; exact h
    have h3 : feq a b = false := by rw [Bool.eq_false_iff]; intro c; rw [e3] at c; omega
    simp [h1, h2, h3]
end SolF
namespace SolF
theorem and_low (a : Nat) : a &&& 9223372036854775807 = a % 9223372036854775808 := Nat.and_two_pow_sub_one_eq_mod a 63
theorem and_top (a : Nat) : a &&& 9223372036854775808 = a / 9223372036854775808 % 2 * 9223372036854775808 := by
  have h1 : (a &&& 2 ^ 63) % 2 ^ 63 = 0 := by rw [Nat.and_mod_two_pow, Nat.mod_self, Nat.and_zero]
  have h2 : (a &&& 2 ^ 63) / 2 ^ 63 = a / 2 ^ 63 % 2 := by rw [Nat.and_div_two_pow, Nat.div_self (by decide), Nat.and_one_is_mod]
  have e : (2 : Nat) ^ 63 = 9223372036854775808 := by decide
  rw [e] at h1 h2
  omega
theorem xor_top (a : Nat) (h : a < 18446744073709551616) : a ^^^ 9223372036854775808 = flip a := by
  have h1 : (a ^^^ 2 ^ 63) % 2 ^ 63 = a % 2 ^ 63 := by rw [Nat.xor_mod_two_pow, Nat.mod_self, Nat.xor_zero]
  have h2 : (a ^^^ 2 ^ 63) / 2 ^ 63 = (a / 2 ^ 63) ^^^ 1 := by rw [Nat.xor_div_two_pow, Nat.div_self (by decide)]
  have e : (2 : Nat) ^ 63 = 9223372036854775808 := by decide
  rw [e] at h1 h2
  have h3 : a / 9223372036854775808 = 0 ∨ a / 9223372036854775808 = 1 := by omega
  unfold flip
  rcases h3 with h3 | h3
  · rw [h3] at h2
    rw [show (0 : Nat) ^^^ 1 = 1 from rfl] at h2
    rw [if_pos (by omega)]; omega
  · rw [h3] at h2
    rw [show (1 : Nat) ^^^ 1 = 0 from rfl] at h2
    rw [if_neg (by omega)]; omega
theorem join_top (a b : Nat) (hb : b < 18446744073709551616) : (a &&& 9223372036854775807) ||| (b &&& 9223372036854775808) = a % 9223372036854775808 + (if b < 9223372036854775808 then 0 else 9223372036854775808) := by
  rw [and_low, and_top]
  have hd : b / 9223372036854775808 = 0 ∨ b / 9223372036854775808 = 1 := by omega
  rcases hd with hd | hd
  · rw [hd, if_pos (by omega)]; simp
  · rw [hd, if_neg (by omega)]
    have hl : a % 9223372036854775808 < 2 ^ 63 := Nat.mod_lt _ (by decide)
    have := Nat.two_pow_add_eq_or_of_lt hl 1
    rw [Nat.or_comm]
    have e : (2 : Nat) ^ 63 = 9223372036854775808 := by decide
    rw [e] at this
    rw [show 1 % 2 * 9223372036854775808 = 9223372036854775808 * 1 from rfl, ← this]
    omega
theorem copysign_flip (a : Nat) (h : a < 18446744073709551616) : (a &&& 9223372036854775807) ||| (flip a &&& 9223372036854775808) = flip a := by
  rw [join_top a _ (flip_lt h)]
  unfold flip
  split
  · rw [if_neg (by omega)]; omega
  · rw [if_pos (by omega)]; omega
end SolF
