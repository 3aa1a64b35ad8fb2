/- The walk of internal/strconv.parseFloat64 (no sign). -/
import Derived.Test.YtfgiejfjnhgcaaaGreatDoorPack
namespace SolF
open Go
theorem bitLenAux_le : ∀ f x, Lib.bitLenAux f x ≤ f
  | 0, _ => Nat.le_refl _
  | f + 1, x => by
    unfold Lib.bitLenAux
    split
    · omega
    · have := bitLenAux_le f (x / 2); omega
theorem bitLenAux_lt : ∀ f x, x < 2 ^ f → x < 2 ^ Lib.bitLenAux f x
  | 0, x, h => h
  | f + 1, x, h => by
    unfold Lib.bitLenAux
    split
    · rename_i h0; subst h0; decide
    · have := bitLenAux_lt f (x / 2) (by rw [Nat.pow_succ] at h; omega)
      rw [Nat.add_comm, Nat.pow_succ]
      omega
theorem bitLenAux_pos (f x : Nat) (h : x ≠ 0) : 1 ≤ Lib.bitLenAux (f + 1) x := by
  unfold Lib.bitLenAux
  rw [if_neg h]
  omega
theorem bitLenAux_ge : ∀ f x, x ≠ 0 → x < 2 ^ f → 2 ^ (Lib.bitLenAux f x - 1) ≤ x
  | 0, x, h0, h => by simp at h; omega
  | f + 1, x, h0, h => by
    unfold Lib.bitLenAux
    rw [if_neg h0]
    by_cases h2 : x / 2 = 0
    · have h3 : Lib.bitLenAux f (x / 2) = 0 := by
        rw [h2]
        cases f <;> simp [Lib.bitLenAux]
      rw [h3]
      simp
      omega
    · have := bitLenAux_ge f (x / 2) h2 (by rw [Nat.pow_succ] at h; omega)
      have hp : 1 ≤ Lib.bitLenAux f (x / 2) := by
        cases f with
        | zero => simp at h; omega
        | succ f => exact bitLenAux_pos f _ h2
      obtain ⟨k, hk⟩ : ∃ k, Lib.bitLenAux f (x / 2) = k + 1 := ⟨Lib.bitLenAux f (x / 2) - 1, by omega⟩
      rw [hk] at this ⊢
      simp only [Nat.add_sub_cancel] at this
      rw [show 1 + (k + 1) - 1 = k + 1 by omega, Nat.pow_succ]
      omega
theorem bitLen_facts (d : Nat) (hd : 0 < d) (hd2 : d < 18446744073709551616) : 1 ≤ Lib.bitLen d ∧ Lib.bitLen d ≤ 64 ∧ d < 2 ^ Lib.bitLen d ∧ 2 ^ (Lib.bitLen d - 1) ≤ d :=
  ⟨bitLenAux_pos _ _ (by omega), bitLenAux_le _ _, bitLenAux_lt 64 d hd2, bitLenAux_ge 64 d (by omega) hd2⟩
theorem left_fits (d b : Nat) (h : d < 2 ^ b) (hb : b ≤ 64) : d * 2 ^ (64 - b) < 18446744073709551616 := by
  have h1 : 2 ^ b * 2 ^ (64 - b) = 18446744073709551616 := by rw [← Nat.pow_add, show b + (64 - b) = 64 by omega]
  rw [← h1]
  exact Nat.mul_lt_mul_of_pos_right h (Nat.pow_pos (by decide))
end SolF
namespace Go.Proofs.YtfgiejfjnhgcaaaGreatDoor
open Go Go.RowKit SolF Go.Shelf

/-- the exponent, the shift -/
def expoN (d i : Nat) : Int := min 1074 (53 - (Lib.bitLen d : Int) - ((i : Int) - 348) * 108853 / 32768)
def shiftN (d i : Nat) : Int := -(expoN d i - (64 - (Lib.bitLen d : Int)) + ((i : Int) - 348) * 108853 / 32768 + 3)
def unroundedN (d i : Nat) : Nat := uscaleN (d * 2 ^ (64 - Lib.bitLen d)) (tenHi i) (tenLo i) (shiftN d i).toNat
def parseN (d i : Nat) : Nat × Bool :=
  if 64 ≤ shiftN d i then (0, false)
  else pack64N (roundN (unroundedN d i / 2 ^ (decide (36028797018963966 ≤ unroundedN d i)).toNat ||| unroundedN d i % 2)) (-(expoN d i - (decide (36028797018963966 ≤ unroundedN d i)).toNat))

theorem ten_lt (i : Nat) : tenHi i < 18446744073709551616 ∧ tenLo i < 18446744073709551616 := by
  have h1 : Go.Pinned.pow10Rows.all (fun x => decide (x.1 < 18446744073709551616) && decide (x.2 < 18446744073709551616)) = true := by decide +kernel
  unfold tenHi tenLo
  rw [List.getD_eq_getElem?_getD]
  cases h : Go.Pinned.pow10Rows[i]? with
  | none => exact ⟨by decide, by decide⟩
  | some x =>
    have hm := List.mem_of_getElem? h
    have := List.all_eq_true.1 h1 x hm
    simpa using this
theorem roundN_lt (u : Nat) : roundN u < 18446744073709551616 := by unfold roundN; omega
theorem or_lt (a b : Nat) (ha : a < 18446744073709551616) (hb : b < 18446744073709551616) : a ||| b < 18446744073709551616 := Nat.or_lt_two_pow (n := 64) ha hb
theorem uscaleN_lt (x hi lo s : Nat) (hx : x < 18446744073709551616) (hh : hi < 18446744073709551616) : uscaleN x hi lo s < 18446744073709551616 := by
  have hb1 : x * hi / 18446744073709551616 < 18446744073709551616 := by
    rw [Nat.div_lt_iff_lt_mul (by decide)]
    exact Nat.mul_lt_mul'' hx hh
  unfold uscaleN
  split
  · exact or_lt _ _ (Nat.lt_of_le_of_lt (Nat.div_le_self _ _) hb1) (by decide)
  · refine or_lt _ _ (Nat.lt_of_le_of_lt (Nat.div_le_self _ _) (Nat.mod_lt _ (by decide))) ?_
    split <;> decide

theorem Below.drewN' {B : Nat} {a w : World} (h : Below B a w) {n : Nat} : Below B a (w.drewN n) := ⟨h.os, h.tape, h.output, h.size, h.block⟩
def PFPost (r : Nat × Bool) (w : World) (e : Ending) (w' : World) : Prop := e = .returned (.tuple #[.float .f64 r.1, errOf r.2]) ∧ Same w w'

set_option maxRecDepth 100000 in
set_option maxHeartbeats 2000000 in
theorem parse64_any (d i : Nat) (w : World) (hd : 0 < d) (hd2 : d < 18446744073709551616) (hi3 : 3 ≤ i) (hi : i ≤ 658) (T : PFTabs w) :
    Calls Tryz.prog 166 #[.int .u64 (d : Int), .int .i64 ((i : Int) - 348), .int .u64 0] w (PFPost (parseN d i) w) := by
  obtain ⟨b, hb⟩ : ∃ b, b = Lib.bitLen d := ⟨_, rfl⟩
  obtain ⟨hb1, hb2, hb3, -⟩ := bitLen_facts d hd hd2
  rw [← hb] at hb1 hb2 hb3
  have hx := left_fits d b hb3 hb2
  clear hb3
  obtain ⟨lp, hlp⟩ : ∃ lp : Int, lp = ((i : Int) - 348) * 108853 / 32768 := ⟨_, rfl⟩
  have hl1 : -1200 ≤ lp := by omega
  have hl2 : lp ≤ 1200 := by omega
  obtain ⟨ee, hee⟩ : ∃ ee : Int, ee = expoN d i := ⟨_, rfl⟩
  have hE : ee = min 1074 (53 - (b : Int) - lp) := by rw [hee, hb, hlp]; rfl
  have hS : shiftN d i = -(ee - (64 - (b : Int)) + lp + 3) := by rw [hee, hb, hlp]; rfl
  have hL := len64_any d hd2
  have hG := log2_any ((i : Int) - 348)
  rw [← hb] at hL
  rw [← hlp] at hG
  have HL := Lib.hid hL
  have HG := Lib.hid hG
  have HS := Lib.hid hS
  have HEE := Lib.hid hE
  have HT := Lib.hid T
  have HB := Lib.hid hb
  have HEX := Lib.hid hee
  have e1 : ee ≤ 1074 := by omega
  have e2 : ee ≤ 53 - (b : Int) - lp := by omega
  have e3 : -1300 ≤ ee := by omega
  have s0 : 8 ≤ -(ee - (64 - (b : Int)) + lp + 3) := by omega
  have hmin : (if (1074 : Int) ≤ 53 - (b : Int) - lp then (1074 : Int) else 53 - (b : Int) - lp) = ee := by rw [hE]; split <;> omega
  have HMIN := Lib.hid hmin
  clear hL hG hS hE T hb hlp hee hmin
  go_enter Tryz.func166, Tryz.ntmps166
  go_wp2_with fail
  refine (HL.out _).mono ?_
  rintro e w' ⟨rfl, rfl⟩
  go_wp2_with fail
  refine (HG.out _ (by omega) (by omega)).mono ?_
  rintro e w' ⟨rfl, rfl⟩
  go_wp2_with fail
  rw [show min 1074 (53 - (b : Int) - lp) = ee from HEE.out.symm]
  refine (prescale_any w.heap.size i (ee - (64 - (b : Int))) lp _ _ _ _ (by omega) (HT.out.same (Same.new _ _)) (by omega) (by omega) (by omega) (by omega) (heap_alloc_new w _) (by have := lt_of_cell' HT.out.opt; have := lt_of_cell' (HT.out.tab 0 (by decide)).1; simp only at this; omega)).mono ?_
  rintro e w' ⟨rfl, rfl⟩
  by_cases h64 : 64 ≤ shiftN d i
  · have h64' : 64 ≤ -(ee - (64 - (b : Int)) + lp + 3) := by rw [← HS.out]; exact h64
    have HX := Lib.hid (show parseN d i = (0, false) by unfold parseN; rw [if_pos h64])
    have k1 := frombits2
    clear h64
    go_wp2
    go_ret2
    exact ⟨by rw [HX.out]; rfl, by show Below _ _ _; go_grown⟩
  · have h64' : ¬ 64 ≤ -(ee - (64 - (b : Int)) + lp + 3) := by rw [← HS.out]; exact h64
    obtain ⟨sN, hsN⟩ := Int.eq_ofNat_of_zero_le (show 0 ≤ -(ee - (64 - (b : Int)) + lp + 3) by omega)
    have hs64 : sN < 64 := by omega
    obtain ⟨hth, htl⟩ := ten_lt i
    obtain ⟨U, hU⟩ : ∃ U, U = unroundedN d i := ⟨_, rfl⟩
    have hU2 : uscaleN (d * 2 ^ (64 - b)) (tenHi i) (tenLo i) sN = U := by
      rw [hU]; unfold unroundedN
      rw [HS.out, hsN, Int.toNat_natCast, ← HB.out]
    have hUlt : U < 18446744073709551616 := by rw [← hU2]; exact uscaleN_lt _ _ _ _ hx hth
    have hw : IntKind.u64.wrap ((d : Int) * 2 ^ (64 - b)) = ((d * 2 ^ (64 - b) : Nat) : Int) := by
      rw [show (d : Int) * 2 ^ (64 - b) = ((d * 2 ^ (64 - b) : Nat) : Int) by norm_cast, wrap_nat, Nat.mod_eq_of_lt hx]
    obtain ⟨c, hc⟩ : ∃ c : Bool, c = decide (36028797018963966 ≤ U) := ⟨_, rfl⟩
    have HX := Lib.hid (show parseN d i = pack64N (roundN (U / 2 ^ c.toNat ||| U % 2)) (-(ee - c.toNat)) by unfold parseN; rw [if_neg h64, ← hU, ← hc, ← HEX.out])
    have hci : decide ((36028797018963966 : Int) ≤ (U : Int)) = c := by rw [hc, decide_eq_decide]; omega
    have HSN := Lib.hid hsN
    have HW := Lib.hid hw
    have HU2 := Lib.hid hU2
    have HCI := Lib.hid hci
    clear h64 hsN hw hU2 hU hc hci
    go_wp2_with fail
    rw [HW.out, HSN.out]
    refine (uscale_any (d * 2 ^ (64 - b)) (tenHi i) (tenLo i) sN w.heap.size _ hx hth htl hs64 (by simp) (by simp) (by simp)).mono ?_
    rw [HU2.out]
    rintro e w' ⟨rfl, n1, rfl⟩
    go_wp2_with fail
    refine (unmin_any _).mono ?_
    rintro e w' ⟨rfl, rfl⟩
    go_wp2_with fail
    rw [HCI.out]
    refine (bool2i_any c _).mono ?_
    rintro e w' ⟨rfl, rfl⟩
    have hc1 : c.toNat ≤ 1 := by cases c <;> decide
    have h1 : (U : Int) / 2 ^ c.toNat = ((U / 2 ^ c.toNat : Nat) : Int) := by norm_cast
    have h2 := and_one U hUlt
    have h3 := u64_or_nat (U / 2 ^ c.toNat) (U % 2) (Nat.lt_of_le_of_lt (Nat.div_le_self _ _) hUlt) (by omega)
    have h4 := or_lt (U / 2 ^ c.toNat) (U % 2) (Nat.lt_of_le_of_lt (Nat.div_le_self _ _) hUlt) (by omega)
    have h5 := u64_or_nat 0 (roundN (U / 2 ^ c.toNat ||| U % 2)) (by decide) (roundN_lt _)
    rw [Nat.zero_or] at h5
    have h6 := roundN_lt (U / 2 ^ c.toNat ||| U % 2)
    have HR := Lib.hid (round_any _ h4)
    have HP := Lib.hid (pack_any (roundN (U / 2 ^ c.toNat ||| U % 2)) (-(ee - c.toNat)))
    generalize hrr : roundN (U / 2 ^ c.toNat ||| U % 2) = r at *
    have HRR := Lib.hid hrr
    clear hrr
    generalize U / 2 ^ c.toNat ||| U % 2 = v at *
    generalize U / 2 ^ c.toNat = v1 at *
    generalize U % 2 = v2 at *
    generalize c.toNat = cn at *
    go_wp2_with fail
    refine (HR.out _).mono ?_
    rintro e w' ⟨rfl, rfl⟩
    go_wp2_with fail
    have h5' : bits BinOp.or IntKind.u64 0 (r : Int) = (r : Int) := h5
    rw [h5']
    refine (HP.out _ h6 (by omega) (by omega)).mono ?_
    unfold PackPost
    rintro e w' ⟨rfl, rfl⟩
    go_wp2
    go_ret2
    exact ⟨by rw [HX.out]; rfl, by show Below _ _ _; exact Below.drewN' (by go_grown)⟩
end Go.Proofs.YtfgiejfjnhgcaaaGreatDoor
