/- The walk of internal/strconv.atof64exact at every mantissa and every exponent from -400 to 400 of a text that is not below 0. -/
import Derived.Test.YtfgiejfjnhgcaaaGreatDoorPFTabs
namespace SolF
open Go Ieee Ieee.Datum
def isPos : Datum → Bool
  | .number _ m _ => m != 0
  | _ => false
theorem mul_pos {a b : Nat} (ha : (rd a).isNaN = false) (hb : isPos (rd b) = true) : ∃ r, double.mul a b = some r ∧ (rd r).isNaN = false := by
  have h : ∃ d, (rd a).product (rd b) = some d := by
    cases h1 : rd a with
    | nan s t => rw [h1] at ha; cases ha
    | infinity s =>
      cases h2 : rd b with
      | nan s t => rw [h2] at hb; cases hb
      | infinity s => rw [h2] at hb; cases hb
      | number t n j =>
        rw [h2] at hb
        refine ⟨.infinity (s ^^ t), ?_⟩
        unfold product
        exact if_neg (by simpa [isPos] using hb)
    | number s m i =>
      cases h2 : rd b with
      | nan s t => rw [h2] at hb; cases hb
      | infinity s => rw [h2] at hb; cases hb
      | number t n j => exact ⟨_, rfl⟩
  obtain ⟨d, hd⟩ := h
  refine ⟨double.write d, ?_, write_num _ (product_num _ _ _ hd)⟩
  unfold Format.mul
  rw [show (double.read a).product (double.read b) = some d from hd]; rfl
theorem quotient_num (k : Nat) (x y z : Datum) (h : x.quotient k y = some z) : z.isNaN = false := by
  unfold quotient at h
  split at h <;> (try split at h) <;> (try split at h) <;> first | (cases h; rfl) | cases h
theorem div_pos {a b : Nat} (ha : (rd a).isNaN = false) (hb : isPos (rd b) = true) : ∃ r, double.div a b = some r ∧ (rd r).isNaN = false := by
  have h : ∃ d, (rd a).quotient (double.fractionBits + 2) (rd b) = some d := by
    cases h2 : rd b with
    | nan s t => rw [h2] at hb; cases hb
    | infinity s => rw [h2] at hb; cases hb
    | number t n j =>
      rw [h2] at hb
      have hn : n ≠ 0 := by simpa [isPos] using hb
      cases h1 : rd a with
      | nan s t => rw [h1] at ha; cases ha
      | infinity s => exact ⟨_, rfl⟩
      | number s m i =>
        unfold quotient
        simp only
        rw [if_neg hn]
        exact ⟨_, rfl⟩
  obtain ⟨d, hd⟩ := h
  refine ⟨double.write d, ?_, write_num _ (quotient_num _ _ _ _ hd)⟩
  unfold Format.div
  rw [show (double.read a).quotient (double.fractionBits + 2) (double.read b) = some d from hd]; rfl
def mulB (a b : Nat) : Nat := (double.mul a b).getD 0
def divB (a b : Nat) : Nat := (double.div a b).getD 0
theorem mulB_eq {a b : Nat} (ha : (rd a).isNaN = false) (hb : isPos (rd b) = true) : double.mul a b = some (mulB a b) ∧ (rd (mulB a b)).isNaN = false := by
  obtain ⟨r, h1, h2⟩ := mul_pos ha hb
  unfold mulB
  rw [h1]
  exact ⟨rfl, h2⟩
theorem divB_eq {a b : Nat} (ha : (rd a).isNaN = false) (hb : isPos (rd b) = true) : double.div a b = some (divB a b) := by
  obtain ⟨r, h1, h2⟩ := div_pos ha hb
  unfold divB
  rw [h1]; rfl
theorem ofNat_num (m : Nat) : (rd (ofNat m)).isNaN = false := by
  unfold ofNat
  rw [nearest_rung]
  exact word_num _ _ (rung_le _ _)
/-- is a float too large for the short road? -/
def over15 (f : Nat) : Bool := (double.order f 4831355200913801216 == some .gt) || (double.order f 14054727237768577024 == some .lt)
end SolF
namespace Go.Proofs.YtfgiejfjnhgcaaaGreatDoor
open Go Go.RowKit SolF

theorem p10_pos (i : Nat) (h : i < 23) : isPos (rd (p10.getD i 0)) = true := by
  have h1 : p10.all (fun b => isPos (rd b)) = true := by decide
  have h2 : i < p10.length := h
  rw [List.getD_eq_getElem?_getD, List.getElem?_eq_getElem h2]
  exact List.all_eq_true.1 h1 _ (List.getElem_mem h2)

/-- what atof64exact answers: bits, or none -/
def exactF (m : Nat) (x : Int) : Option Nat :=
  if 4503599627370496 ≤ m then none
  else if x = 0 then some (ofNat m)
  else if 0 < x ∧ x ≤ 37 then
    if 22 < x then
      if over15 (mulB (ofNat m) (p10.getD (x - 22).toNat 0)) then none else some (mulB (mulB (ofNat m) (p10.getD (x - 22).toNat 0)) (p10.getD 22 0))
    else if over15 (ofNat m) then none else some (mulB (ofNat m) (p10.getD x.toNat 0))
  else if x < 0 ∧ -22 ≤ x then some (divB (ofNat m) (p10.getD (-x).toNat 0))
  else none
def ExactPost (r : Option Nat) (w : World) (e : Ending) (w' : World) : Prop :=
  (match r with
    | some r => e = .returned (.tuple #[.float .f64 r, .bool true])
    | none => ∃ r, e = .returned (.tuple #[.float .f64 r, .bool false])) ∧ w = w'
theorem ExactPost.yes {r : Option Nat} {w : World} {f : Nat} (h : r = some f) : ExactPost r w (.returned (.tuple #[.float .f64 f, .bool true])) w := by subst h; exact ⟨rfl, rfl⟩
theorem ExactPost.no {r : Option Nat} {w : World} {f : Nat} (h : r = none) : ExactPost r w (.returned (.tuple #[.float .f64 f, .bool false])) w := by subst h; exact ⟨⟨f, rfl⟩, rfl⟩

set_option maxRecDepth 100000 in
set_option maxHeartbeats 2000000 in
theorem exact_any (m : Nat) (x : Int) (w : World) (hm : m < 18446744073709551616) (h1 : -400 ≤ x) (h2 : x ≤ 400) (T : PFTabs w) :
    Calls Tryz.prog 165 #[.int .u64 (m : Int), .int .i64 x, .bool false] w (ExactPost (exactF m x) w) := by
  have c1 := T.mb
  have hf := floatOfInt_nat m
  have hN := Lib.hid (ofNat_num m)
  obtain ⟨R, o, cap, c2, hc3⟩ := T.tens
  have HC3 := Lib.hid hc3
  clear hc3 T
  by_cases hb : 4503599627370496 ≤ m
  · have hq : (((m : Int) / 4503599627370496) != 0) = true := by rw [bne_iff_ne]; omega
    have HX := Lib.hid (show exactF m x = none by unfold exactF; rw [if_pos hb])
    clear hb hf
    go_enter Tryz.func165, Tryz.ntmps165
    go_wp2
    go_ret2
    exact ExactPost.no HX.out
  have hq : (((m : Int) / 4503599627370496) != 0) = false := by rw [bne_eq_false_iff_eq]; omega
  have HE : exactF m x = if x = 0 then some (ofNat m)
    else if 0 < x ∧ x ≤ 37 then
      if 22 < x then
        if over15 (mulB (ofNat m) (p10.getD (x - 22).toNat 0)) then none else some (mulB (mulB (ofNat m) (p10.getD (x - 22).toNat 0)) (p10.getD 22 0))
      else if over15 (ofNat m) then none else some (mulB (ofNat m) (p10.getD x.toNat 0))
    else if x < 0 ∧ -22 ≤ x then some (divB (ofNat m) (p10.getD (-x).toNat 0))
    else none := by unfold exactF; rw [if_neg hb]
  clear hb hm
  by_cases hx0 : x = 0
  · subst hx0
    have HX := Lib.hid (HE.trans (if_pos rfl))
    clear HE
    go_enter Tryz.func165, Tryz.ntmps165
    go_wp2
    go_ret2
    exact ExactPost.yes HX.out
  rw [if_neg hx0] at HE
  have hx0' : (x == 0) = false := beq_eq_false_iff_ne.2 hx0
  by_cases hx1 : 0 < x ∧ x ≤ 37
  · rw [if_pos hx1] at HE
    obtain ⟨hp, hp37⟩ := hx1
    by_cases hx2 : 22 < x
    · rw [if_pos hx2] at HE
      obtain ⟨k, hk⟩ := Int.eq_ofNat_of_zero_le (show 0 ≤ x - 22 by omega)
      obtain rfl : x = (k : Int) + 22 := by omega
      have hk22 : (k : Int) + 22 - 22 = (k : Int) := by omega
      have hk23 : k < 23 := by omega
      have c3 := HC3.out k hk23
      have c4 := HC3.out 22 (by decide)
      rw [hk22, Int.toNat_natCast] at HE
      obtain ⟨hm1, hn2⟩ := mulB_eq hN.out (p10_pos k hk23)
      have hm3 := run_float_arith w .mul 62 .f64 (ofNat m) (p10.getD k 0) (mulB (ofNat m) (p10.getD k 0)) (P := Tryz.prog) hm1
      obtain ⟨hm4, _⟩ := mulB_eq hn2 (p10_pos 22 (by decide))
      have hm5 := run_float_arith w .mul 62 .f64 (mulB (ofNat m) (p10.getD k 0)) (p10.getD 22 0) (mulB (mulB (ofNat m) (p10.getD k 0)) (p10.getD 22 0)) (P := Tryz.prog) hm4
      generalize hq2 : p10.getD 22 0 = p22 at *
      generalize p10.getD k 0 = pk at *
      clear hm1 hn2 hx0 hm4 hk hN hq2
      generalize hg : mulB (ofNat m) pk = g at *
      clear hg
      generalize ofNat m = fm at *
      cases ho : over15 g with
      | true =>
        have HX := Lib.hid (HE.trans (if_pos ho))
        unfold over15 at ho
        rw [Bool.or_eq_true] at ho
        clear HE
        cases hq1 : FloatKind.f64.format.order g 4831355200913801216 == some Ordering.gt with
        | true =>
          go_enter Tryz.func165, Tryz.ntmps165
          go_wp2
          go_ret2
          exact ExactPost.no HX.out
        | false =>
          have o2 : (FloatKind.f64.format.order g 14054727237768577024 == some Ordering.lt) = true := by
            rcases ho with h | h
            · exact absurd (hq1.symm.trans h) (by decide)
            · exact h
          clear ho
          go_enter Tryz.func165, Tryz.ntmps165
          go_wp2
          go_ret2
          exact ExactPost.no HX.out
      | false =>
        have HX := Lib.hid (HE.trans (if_neg (by rw [ho]; decide)))
        unfold over15 at ho
        rw [Bool.or_eq_false_iff] at ho
        have o1 : (FloatKind.f64.format.order g 4831355200913801216 == some Ordering.gt) = false := ho.1
        have o2 : (FloatKind.f64.format.order g 14054727237768577024 == some Ordering.lt) = false := ho.2
        clear ho HE
        go_enter Tryz.func165, Tryz.ntmps165
        go_wp2
        go_ret2
        exact ExactPost.yes HX.out
    · rw [if_neg hx2] at HE
      obtain ⟨k, rfl⟩ := Int.eq_ofNat_of_zero_le (show 0 ≤ x by omega)
      have hk : k < 23 := by omega
      have c3 := HC3.out k hk
      rw [Int.toNat_natCast] at HE
      obtain ⟨hm1, hm2⟩ := mulB_eq hN.out (p10_pos k hk)
      have hm3 := run_float_arith w .mul 62 .f64 (ofNat m) (p10.getD k 0) (mulB (ofNat m) (p10.getD k 0)) (P := Tryz.prog) hm1
      clear hm1 hm2 hx0 hN
      generalize p10.getD k 0 = pk at *
      cases ho : over15 (ofNat m) with
      | true =>
        have HX := Lib.hid (HE.trans (if_pos ho))
        unfold over15 at ho
        rw [Bool.or_eq_true] at ho
        clear HE hm3
        generalize ofNat m = fm at *
        cases hq1 : FloatKind.f64.format.order fm 4831355200913801216 == some Ordering.gt with
        | true =>
          go_enter Tryz.func165, Tryz.ntmps165
          go_wp2
          go_ret2
          exact ExactPost.no HX.out
        | false =>
          have o2 : (FloatKind.f64.format.order fm 14054727237768577024 == some Ordering.lt) = true := by
            rcases ho with h | h
            · exact absurd (hq1.symm.trans h) (by decide)
            · exact h
          clear ho
          go_enter Tryz.func165, Tryz.ntmps165
          go_wp2
          go_ret2
          exact ExactPost.no HX.out
      | false =>
        have HX := Lib.hid (HE.trans (if_neg (by rw [ho]; decide)))
        unfold over15 at ho
        rw [Bool.or_eq_false_iff] at ho
        have o1 : (FloatKind.f64.format.order (ofNat m) 4831355200913801216 == some Ordering.gt) = false := ho.1
        have o2 : (FloatKind.f64.format.order (ofNat m) 14054727237768577024 == some Ordering.lt) = false := ho.2
        clear ho HE
        generalize ofNat m = fm at *
        go_enter Tryz.func165, Tryz.ntmps165
        go_wp2
        go_ret2
        exact ExactPost.yes HX.out
  rw [if_neg hx1] at HE
  by_cases hx3 : x < 0 ∧ -22 ≤ x
  · rw [if_pos hx3] at HE
    obtain ⟨k, hk⟩ := Int.eq_ofNat_of_zero_le (show 0 ≤ -x by omega)
    obtain rfl : x = -(k : Int) := by omega
    have hkk : - -(k : Int) = (k : Int) := by omega
    have hk0 : 0 < k := by omega
    have hk23 : k < 23 := by omega
    have c3 := HC3.out k hk23
    rw [hkk, Int.toNat_natCast] at HE
    have hm1 := divB_eq hN.out (p10_pos k hk23)
    have hm3 := run_float_arith w .quo 62 .f64 (ofNat m) (p10.getD k 0) (divB (ofNat m) (p10.getD k 0)) (P := Tryz.prog) hm1
    have HX := Lib.hid HE
    have i1 : ¬ (0 : Int) < -(k : Int) := by omega
    have i2 : -(k : Int) < 0 := by omega
    have i3 : -22 ≤ -(k : Int) := by omega
    clear hm1 hx0 hN HE hx1 hx3 hk
    generalize p10.getD k 0 = pk at *
    generalize ofNat m = fm at *
    go_enter Tryz.func165, Tryz.ntmps165
    go_wp2
    go_ret2
    exact ExactPost.yes HX.out
  · rw [if_neg hx3] at HE
    have HX := Lib.hid HE
    clear HE hN
    generalize ofNat m = fm at *
    by_cases i1 : 0 < x
    · have i2 : ¬ x ≤ 37 := by omega
      have i3 : ¬ x < 0 := by omega
      clear hx1 hx3 hx0
      go_enter Tryz.func165, Tryz.ntmps165
      go_wp2
      go_ret2
      exact ExactPost.no HX.out
    · have i2 : x < 0 := by omega
      have i3 : ¬ -22 ≤ x := by omega
      clear hx1 hx3 hx0
      go_enter Tryz.func165, Tryz.ntmps165
      go_wp2
      go_ret2
      exact ExactPost.no HX.out
end Go.Proofs.YtfgiejfjnhgcaaaGreatDoor
