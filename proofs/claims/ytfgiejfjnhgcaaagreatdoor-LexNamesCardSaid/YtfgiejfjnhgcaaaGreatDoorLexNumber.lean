/- The walk of lex.number. -/
import Derived.Test.YtfgiejfjnhgcaaaGreatDoorLexWhile
import Derived.Test.YtfgiejfjnhgcaaaGreatDoorLexGap
import Derived.Test.YtfgiejfjnhgcaaaGreatDoorParse
import Derived.Test.YtfgiejfjnhgcaaaGreatDoorShelfU
import Derived.Deep.DeepCutAuto
import Derived.Deep.Cut
namespace Go.Proofs.YtfgiejfjnhgcaaaGreatDoor
open Go Go.RowKit SolF Go.Shelf

/-- nothing that was there has turned -/
def Same (w w' : World) : Prop := Below w.heap.size w w'
theorem Same.refl (w : World) : Same w w := Below.refl _ _
theorem Same.trans {a b c : World} (h : Same a b) (k : Same b c) : Same a c := Below.trans h (Below.mono k (Below.size h))

theorem enters_digit : ∀ args w, (callFunc 96 args).run Tryz.prog w = .ok (.enter 96 args) w := enters_of Tryz.func96 (by kernel_rfl) rfl

/-- strconv.ParseFloat answers at a text, the same wherever it is asked -/
def PFOk (I : World → Prop) (t : ByteArray) : Prop := ∃ B, ∀ w, I w → Calls Tryz.prog 57 #[.string t, .int .i64 64] w fun e w' => ∃ r v, e = .returned (.tuple #[.float .f64 r, v]) ∧ canon r = B ∧ Below w.heap.size w w'

/-- what number comes to -/
def NumPost (l : List UInt8) (w : World) (e : Ending) (w' : World) : Prop :=
  e = .returned (.tuple #[.int .i64 ((numberL formL l).1 : Int), .int .i64 ((numberL formL l).2 : Int)]) ∧ Same w w'
theorem NumPost.mk {l : List UInt8} {w w' : World} {a b : Int} {x : Nat × Nat} (h : numberL formL l = x) (ha : a = x.1) (hb : b = x.2) (hs : Same w w') : NumPost l w (.returned (.tuple #[.int .i64 a, .int .i64 b])) w' := by
  unfold NumPost; rw [h, ha, hb]; exact ⟨rfl, hs⟩

theorem numberL_bad {l : List UInt8} (h : at0 l (whileN isDigit l) = 46) (hb : bad l (realEnd l) = true) : numberL formL l = (0, 0) := by
  unfold numberL; rw [if_pos h, if_pos hb]
theorem numberL_real {l : List UInt8} (h : at0 l (whileN isDigit l) = 46) (hb : bad l (realEnd l) = false) : numberL formL l = if formL (l.take (realEnd l)) then (3, realEnd l) else (0, 0) := by
  unfold numberL; rw [if_pos h, if_neg (by rw [hb]; decide)]
theorem at0_end {l : List UInt8} {k : Nat} (h : l.length ≤ k) : at0 l k = 0 := by
  unfold at0; rw [List.getD_eq_getElem?_getD, List.getElem?_eq_none h]; rfl
theorem bad_end {l : List UInt8} {k : Nat} (h : l.length ≤ k) : bad l k = false := by
  unfold bad; rw [at0_end h]; decide

theorem parse_yes (s : ByteArray) (w : World) (B : Nat) (hlen : s.size ≤ 9223372036854775807) (h : formL s.data.toList = true)
    (HPF : ∀ w1, Below w.heap.size w w1 → Calls Tryz.prog 57 #[.string s, .int .i64 64] w1 fun e w' => ∃ r v, e = .returned (.tuple #[.float .f64 r, v]) ∧ canon r = B ∧ Below w1.heap.size w1 w') :
    Calls Tryz.prog 28 #[.string s] w fun e w' => e = .returned (.tuple #[.int .u64 (B : Int), .int .i64 0]) ∧ Below w.heap.size w w' := by
  refine (parse_any s w B hlen (fun _ => HPF)).mono ?_
  intro e w' hp
  unfold ParsePost at hp
  rw [h] at hp
  exact hp
theorem parse_no (s : ByteArray) (w : World) (hlen : s.size ≤ 9223372036854775807) (h : formL s.data.toList = false) :
    Calls Tryz.prog 28 #[.string s] w fun e w' => e = .returned (.tuple #[.int .u64 0, .int .i64 2]) ∧ Below w.heap.size w w' := by
  refine (parse_any s w 0 hlen (fun hh => by rw [h] at hh; cases hh)).mono ?_
  intro e w' hp
  unfold ParsePost at hp
  rw [h] at hp
  exact hp
theorem while_digit_at (s : ByteArray) (k : Nat) (w : World) (hs : s.size ≤ 100000) :
    Calls Tryz.prog 91 #[.string (s.extract k s.size), .func (.func 96) #[] #[]] w fun e w' => e = .returned (.int .i64 (whileN isDigit (s.data.toList.drop k))) ∧ w = w' := by
  have h := while_any 96 isDigit tells_digit enters_digit (s.extract k s.size) w (by simp; omega)
  rw [Lib.extract_to_end s k] at h
  exact h

set_option maxRecDepth 100000 in
set_option maxHeartbeats 4000000 in
theorem number_real (I : World → Prop) (s : ByteArray) (w : World) (hs : s.size ≤ 100000) (hdot : at0 s.data.toList (whileN isDigit s.data.toList) = 46) (hI : ∀ w', Same w w' → I w')
    (hpf : ∀ t : ByteArray, t.data.toList = s.data.toList.take (realEnd s.data.toList) → formL t.data.toList = true → PFOk I t) :
    Calls Tryz.prog 98 #[.string s] w (NumPost s.data.toList w) := by
  have hlen : s.data.toList.length = s.size := by simp
  have HW := Lib.hid (while_any 96 isDigit tells_digit enters_digit s w (by omega))
  have hN := at0_lt (show at0 s.data.toList (whileN isDigit s.data.toList) ≠ 0 by omega)
  rw [hlen] at hN
  have HD := Lib.hid hdot
  have HR := Lib.hid (show realEnd s.data.toList = expEnd s.data.toList (whileN isDigit s.data.toList + (1 + whileN isDigit (s.data.toList.drop (whileN isDigit s.data.toList + 1)))) from rfl)
  have hdb := bt_eq s _ hN
  rw [show bt s (whileN isDigit s.data.toList) = at0 s.data.toList (whileN isDigit s.data.toList) from rfl, hdot] at hdb
  have hw1 := whileN_drop_le isDigit s.data.toList (whileN isDigit s.data.toList + 1) (by rw [hlen]; omega)
  rw [hlen] at hw1
  have HLEN := Lib.hid hlen
  clear hdot hlen
  generalize hn0 : whileN isDigit s.data.toList = n0 at *
  have HN0 := Lib.hid hn0
  clear hn0
  have i0 : (n0 : Int) < (s.size : Int) := by omega
  have t46 : ((s[n0].toNat : Int) == 46) = true := beq_iff_eq.2 (by omega)
  clear hdb
  obtain ⟨n1, hn1e⟩ : ∃ n1, n1 = n0 + (1 + whileN isDigit (s.data.toList.drop (n0 + 1))) := ⟨_, rfl⟩
  have hn1 : n1 ≤ s.size := by omega
  have HN1 := Lib.hid hn1e
  have HRE := Lib.hid (show realEnd s.data.toList = expEnd s.data.toList n1 by rw [HR.out, HN1.out])
  clear hn1e HR
  go_enter Tryz.func98, Tryz.ntmps98
  go_wp2_with fail
  refine HW.out.mono ?_
  rintro e w' ⟨rfl, rfl⟩
  go_upto_region 5 with (fail)
  go_cut [4] (fun v4 wx => v4 = .int .i64 (n1 : Int) ∧ w = wx)
  case first =>
    go_wp2_with fail
    have hx1 : (s.extract (n0 + 1) s.size).data.toList = s.data.toList.drop (n0 + 1) := Lib.extract_to_end s (n0 + 1)
    have hx1s : (s.extract (n0 + 1) s.size).size ≤ 100000 := by simp; omega
    generalize s.extract (n0 + 1) s.size = x1 at *
    refine (while_any 96 isDigit tells_digit enters_digit x1 _ (by omega)).mono ?_
    rintro e w' ⟨rfl, rfl⟩
    rw [hx1]
    generalize whileN isDigit (s.data.toList.drop (n0 + 1)) = k1 at *
    clear hx1 hx1s
    have hk1b : k1 ≤ 100000 := by omega
    go_wp2
    go_meet
    exact ⟨by rw [HN1.out]; go_num, rfl⟩
  case rest =>
  obtain ⟨rfl, rfl⟩ := hcut
  clear i0 t46 hw1
  have hn1b : n1 ≤ 100000 := by omega
  go_upto_region 6 with (fail)
  go_cut [39] (fun v39 wx => v39 = .bool (decide (at0 s.data.toList n1 = 101)) ∧ w = wx)
  case first =>
    rcases Nat.lt_or_ge n1 s.size with hl | hl
    · have j1 : (n1 : Int) < (s.size : Int) := by omega
      have HB := Lib.hid (show at0 s.data.toList n1 = s[n1].toNat from bt_eq s n1 hl)
      go_wp2_with fail
      go_meet
      refine ⟨congrArg Value.bool ?_, rfl⟩
      rw [HB.out, Bool.eq_iff_iff, beq_iff_eq, decide_eq_true_eq]
      omega
    · have j1 : ¬ (n1 : Int) < (s.size : Int) := by omega
      have HB := Lib.hid (show at0 s.data.toList n1 = 0 from at0_end (by rw [HLEN.out]; exact hl))
      go_wp2_with fail
      go_meet
      exact ⟨congrArg Value.bool (by rw [HB.out]; rfl), rfl⟩
  case rest =>
  obtain ⟨rfl, rfl⟩ := hcut
  go_upto_if 39 with (fail)
  go_cut [4] (fun v4 wx => v4 = .int .i64 ((realEnd s.data.toList : Nat) : Int) ∧ w = wx)
  case first =>
    by_cases he : at0 s.data.toList n1 = 101
    · rw [decide_eq_true he]
      have hl := at0_lt (show at0 s.data.toList n1 ≠ 0 by omega)
      rw [HLEN.out] at hl
      have HE := Lib.hid he
      clear he
      rcases Nat.lt_or_ge (n1 + 1) s.size with hm | hm
      · have j1 : (n1 : Int) + 1 < (s.size : Int) := by omega
        have hb : at0 s.data.toList (n1 + 1) = s[n1 + 1].toNat := bt_eq s (n1 + 1) hm
        by_cases h43 : s[n1 + 1].toNat = 43
        · have j2 : ((s[n1 + 1].toNat : Int) == 43) = true := beq_iff_eq.2 (by omega)
          have HX := Lib.hid (show realEnd s.data.toList = n1 + 1 + 1 + whileN isDigit (s.data.toList.drop (n1 + 1 + 1)) by rw [HRE.out]; unfold expEnd; rw [if_pos HE.out, if_pos (by rw [hb]; exact .inl h43)])
          have hB := whileN_drop_le isDigit s.data.toList (n1 + 1 + 1) (by rw [HLEN.out]; omega)
          rw [HLEN.out] at hB
          clear hb h43
          go_wp2_with fail
          refine (while_digit_at s (n1 + 1 + 1) _ hs).mono ?_
          rintro e w' ⟨rfl, rfl⟩
          generalize whileN isDigit (s.data.toList.drop (n1 + 1 + 1)) = k2 at *
          go_wp2
          go_meet
          exact ⟨by rw [HX.out]; go_num, rfl⟩
        · have j2 : ((s[n1 + 1].toNat : Int) == 43) = false := beq_eq_false_iff_ne.2 (by omega)
          by_cases h45 : s[n1 + 1].toNat = 45
          · have j3 : ((s[n1 + 1].toNat : Int) == 45) = true := beq_iff_eq.2 (by omega)
            have HX := Lib.hid (show realEnd s.data.toList = n1 + 1 + 1 + whileN isDigit (s.data.toList.drop (n1 + 1 + 1)) by rw [HRE.out]; unfold expEnd; rw [if_pos HE.out, if_pos (by rw [hb]; exact .inr h45)])
            have hB := whileN_drop_le isDigit s.data.toList (n1 + 1 + 1) (by rw [HLEN.out]; omega)
            rw [HLEN.out] at hB
            clear hb h43 h45
            go_wp2_with fail
            refine (while_digit_at s (n1 + 1 + 1) _ hs).mono ?_
            rintro e w' ⟨rfl, rfl⟩
            generalize whileN isDigit (s.data.toList.drop (n1 + 1 + 1)) = k2 at *
            go_wp2
            go_meet
            exact ⟨by rw [HX.out]; go_num, rfl⟩
          · have j3 : ((s[n1 + 1].toNat : Int) == 45) = false := beq_eq_false_iff_ne.2 (by omega)
            have HX := Lib.hid (show realEnd s.data.toList = n1 + 1 + whileN isDigit (s.data.toList.drop (n1 + 1)) by rw [HRE.out]; unfold expEnd; rw [if_pos HE.out, if_neg (by rw [hb]; omega)])
            have hB := whileN_drop_le isDigit s.data.toList (n1 + 1) (by rw [HLEN.out]; omega)
            rw [HLEN.out] at hB
            clear hb h43 h45
            go_wp2_with fail
            refine (while_digit_at s (n1 + 1) _ hs).mono ?_
            rintro e w' ⟨rfl, rfl⟩
            generalize whileN isDigit (s.data.toList.drop (n1 + 1)) = k2 at *
            go_wp2
            go_meet
            exact ⟨by rw [HX.out]; go_num, rfl⟩
      · have j1 : ¬ (n1 : Int) + 1 < (s.size : Int) := by omega
        have hb : at0 s.data.toList (n1 + 1) = 0 := at0_end (by rw [HLEN.out]; exact hm)
        have HX := Lib.hid (show realEnd s.data.toList = n1 + 1 + whileN isDigit (s.data.toList.drop (n1 + 1)) by rw [HRE.out]; unfold expEnd; rw [if_pos HE.out, if_neg (by rw [hb]; omega)])
        have hB := whileN_drop_le isDigit s.data.toList (n1 + 1) (by rw [HLEN.out]; omega)
        rw [HLEN.out] at hB
        clear hb
        go_wp2_with fail
        refine (while_digit_at s (n1 + 1) _ hs).mono ?_
        rintro e w' ⟨rfl, rfl⟩
        generalize whileN isDigit (s.data.toList.drop (n1 + 1)) = k2 at *
        go_wp2
        go_meet
        exact ⟨by rw [HX.out]; go_num, rfl⟩
    · rw [decide_eq_false he]
      have HX := Lib.hid (show realEnd s.data.toList = n1 by rw [HRE.out]; unfold expEnd; rw [if_neg he])
      clear he
      go_wp2_with fail
      go_meet
      exact ⟨by rw [HX.out], rfl⟩
  case rest =>
  obtain ⟨rfl, rfl⟩ := hcut
  have hle := expEnd_le s.data.toList n1 (by rw [HLEN.out]; exact hn1)
  rw [← HRE.out, HLEN.out] at hle
  have HNB := Lib.hid (numberL_bad (by rw [HN0.out]; exact HD.out))
  have HNR := Lib.hid (numberL_real (by rw [HN0.out]; exact HD.out))
  have HP := Lib.hid hpf
  have HI := Lib.hid hI
  clear hpf hI HRE HD HN1 HN0 hn1 hn1b hN HW
  have hx : ∀ t : ByteArray, t = s.extract 0 (realEnd s.data.toList) → t.data.toList = s.data.toList.take (realEnd s.data.toList) := by
    rintro t rfl
    exact Lib.extract_from_zero s _
  have HX := Lib.hid hx
  clear hx
  generalize realEnd s.data.toList = n2 at *
  have hn2b : n2 ≤ 100000 := by omega
  rcases Nat.lt_or_ge n2 s.size with hl | hl
  · have j1 : (n2 : Int) < (s.size : Int) := by omega
    have hb : at0 s.data.toList n2 = s[n2].toNat := bt_eq s n2 hl
    have hc := letter_any s[n2].toNat w s[n2].toNat_lt
    cases hL : isLetter s[n2].toNat with
    | true =>
      rw [hL] at hc
      have HC := Lib.hid hc
      have HY := Lib.hid (HNB.out (show bad s.data.toList n2 = true by unfold bad; rw [hb, hL]; rfl))
      clear hc hb
      go_wp2_with fail
      refine HC.out.mono ?_
      rintro e w' ⟨rfl, rfl⟩
      go_wp2
      go_ret2
      exact NumPost.mk HY.out rfl rfl (Same.refl _)
    | false =>
      rw [hL] at hc
      have HC := Lib.hid hc
      clear hc
      by_cases h46 : s[n2].toNat = 46
      · have HY := Lib.hid (HNB.out (show bad s.data.toList n2 = true by unfold bad; rw [hb, hL, h46]; rfl))
        have j2 : ((s[n2].toNat : Int) == 46) = true := beq_iff_eq.2 (by omega)
        clear hb hL h46
        go_wp2_with fail
        refine HC.out.mono ?_
        rintro e w' ⟨rfl, rfl⟩
        clear HC HX HP HI HNB HNR
        go_wp2
        go_ret2
        exact NumPost.mk HY.out rfl rfl (Same.refl _)
      · have HY := Lib.hid (HNR.out (show bad s.data.toList n2 = false by unfold bad; rw [hb, hL]; exact beq_eq_false_iff_ne.2 h46))
        have j2 : ((s[n2].toNat : Int) == 46) = false := beq_eq_false_iff_ne.2 (by omega)
        clear hb hL h46
        go_wp2_with fail
        refine HC.out.mono ?_
        rintro e w' ⟨rfl, rfl⟩
        clear HC
        go_wp2_with fail
        cases hF : formL (s.data.toList.take n2) with
        | true =>
          obtain ⟨B, hB⟩ := HP.out (s.extract 0 n2) (HX.out _ rfl) (by rw [HX.out _ rfl]; exact hF)
          have hpar := parse_yes (s.extract 0 n2) w B (by simp; omega) (by rw [HX.out _ rfl]; exact hF) (fun w1 hb => hB w1 (HI.out w1 hb))
          have HQ := Lib.hid hpar
          have HZ := Lib.hid (HY.out.trans (by rw [hF]))
          clear hpar hB hF HX HP HI HNB HNR HY
          refine HQ.out.mono ?_
          rintro e w1 ⟨rfl, hb⟩
          clear HQ
          go_wp2
          go_ret2
          exact NumPost.mk HZ.out rfl rfl hb
        | false =>
          have hpar := parse_no (s.extract 0 n2) w (by simp; omega) (by rw [HX.out _ rfl]; exact hF)
          have HQ := Lib.hid hpar
          have HZ := Lib.hid (HY.out.trans (by rw [hF]))
          clear hpar hF HX HP HI HNB HNR HY
          refine HQ.out.mono ?_
          rintro e w1 ⟨rfl, hb⟩
          clear HQ
          go_wp2
          go_ret2
          exact NumPost.mk HZ.out rfl rfl hb
  · have j1 : ¬ (n2 : Int) < (s.size : Int) := by omega
    have HY := Lib.hid (HNR.out (bad_end (by rw [HLEN.out]; exact hl)))
    go_wp2_with fail
    cases hF : formL (s.data.toList.take n2) with
    | true =>
      obtain ⟨B, hB⟩ := HP.out (s.extract 0 n2) (HX.out _ rfl) (by rw [HX.out _ rfl]; exact hF)
      have hpar := parse_yes (s.extract 0 n2) w B (by simp; omega) (by rw [HX.out _ rfl]; exact hF) (fun w1 hb => hB w1 (HI.out w1 hb))
      have HQ := Lib.hid hpar
      have HZ := Lib.hid (HY.out.trans (by rw [hF]))
      clear hpar hB hF HX HP HI HNB HNR HY
      refine HQ.out.mono ?_
      rintro e w1 ⟨rfl, hb⟩
      clear HQ
      go_wp2
      go_ret2
      exact NumPost.mk HZ.out rfl rfl hb
    | false =>
      have hpar := parse_no (s.extract 0 n2) w (by simp; omega) (by rw [HX.out _ rfl]; exact hF)
      have HQ := Lib.hid hpar
      have HZ := Lib.hid (HY.out.trans (by rw [hF]))
      clear hpar hF HX HP HI HNB HNR HY
      refine HQ.out.mono ?_
      rintro e w1 ⟨rfl, hb⟩
      clear HQ
      go_wp2
      go_ret2
      exact NumPost.mk HZ.out rfl rfl hb
end Go.Proofs.YtfgiejfjnhgcaaaGreatDoor
