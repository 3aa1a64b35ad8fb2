/- strconv.ParseUint(t, 10, 32) at a row of digits: an error or none. -/
import Derived.Test.YtfgiejfjnhgcaaaGreatDoorLexNumber
namespace SolF
open Go

theorem parseUintM_digits (M : Nat) : ∀ (l : List UInt8) (acc : Nat), (∀ c ∈ l, isDigit c.toNat = true) → Lib.parseUintM M acc l ≠ Lib.NumEnd.syntax
  | [], acc, _ => by unfold Lib.parseUintM; exact fun h => nomatch h
  | c :: r, acc, h => by
    unfold Lib.parseUintM
    have hc := h c (by simp)
    unfold isDigit at hc
    rw [decide_eq_true_eq] at hc
    rw [if_pos hc]
    split
    · exact fun h => nomatch h
    · split
      · exact fun h => nomatch h
      · exact parseUintM_digits M r _ fun d hd => h d (by simp [hd])
theorem whileN_digits : ∀ l : List UInt8, ∀ c ∈ l.take (whileN isDigit l), isDigit c.toNat = true
  | [], c, h => by simp at h
  | d :: r, c, h => by
    unfold whileN at h
    split at h
    · rename_i hd
      rw [List.take_succ_cons, List.mem_cons] at h
      rcases h with rfl | h
      · exact hd
      · exact whileN_digits r c h
    · simp at h
theorem word_no_syntax (l : List UInt8) (h : 0 < whileN isDigit l) : Lib.parseUintB 32 (l.take (whileN isDigit l)) ≠ Lib.NumEnd.syntax := by
  unfold Lib.parseUintB
  rw [if_neg]
  · exact parseUintM_digits _ _ _ (whileN_digits l)
  · intro h0
    rw [List.take_eq_nil_iff] at h0
    rcases h0 with h0 | h0
    · omega
    · subst h0; simp [whileN] at h
end SolF
namespace Go.Proofs.YtfgiejfjnhgcaaaGreatDoor
open Go Go.RowKit SolF Go.Shelf

theorem word32_any (t : ByteArray) (w : World) (hs : t.size ≤ 100000) (hne : Lib.parseUintB 32 t.data.toList ≠ Lib.NumEnd.syntax) (ev : Value)
    (hv : w.cell? ⟨Tryz.laysPu14_ren.g 1, 0, none⟩ = some ev) (hev : ev = .nilIface ∨ ∃ te pe, ev = .iface te pe) :
    Calls Tryz.prog 61 #[.string t, .int .i64 10, .int .i64 32] w fun e w' =>
      (∃ u : Nat, wordFits t.data.toList = true ∧ e = .returned (.tuple #[.int .u64 u, .nilIface]) ∧ Same w w') ∨
      (∃ (u : Int) (tp : TypeId) (p : Value), wordFits t.data.toList = false ∧ e = .returned (.tuple #[.int .u64 u, .iface tp p]) ∧ Same w w') := by
  rcases h : Lib.parseUintB 32 t.data.toList with u | _ | _
  · refine (Any.strconv_ParseUint_10_at32_ok Tryz.laysPu14 t (by omega) u h w).mono ?_
    rintro e w' ⟨rfl, hw⟩
    refine .inl ⟨u, by unfold wordFits; rw [h], rfl, ?_⟩
    rcases hw with rfl | rfl
    · exact Same.refl _
    · exact Lib.bytesWorld_below _ _ _
  · exact absurd h hne
  · refine (Any.strconv_ParseUint_10_at32_range Tryz.laysPu14 t (by omega) h ev w hv hev).mono ?_
    rintro e w' ⟨N, rfl, -, -, hb⟩
    exact .inr ⟨_, _, _, by unfold wordFits; rw [h], rfl, hb⟩

theorem numberL_int_bad {l : List UInt8} (h : at0 l (whileN isDigit l) ≠ 46) (hb : bad l (whileN isDigit l) = true) : numberL formL l = (0, 0) := by
  unfold numberL; rw [if_neg h, if_pos hb]
theorem numberL_int {l : List UInt8} (h : at0 l (whileN isDigit l) ≠ 46) (hb : bad l (whileN isDigit l) = false) :
    numberL formL l = if wordFits (l.take (whileN isDigit l)) && decide (whileN isDigit l ≤ 10) then (2, whileN isDigit l) else (0, 0) := by
  unfold numberL; rw [if_neg h, if_neg (by rw [hb]; decide)]

set_option maxRecDepth 100000 in
set_option maxHeartbeats 4000000 in
theorem number_int (s : ByteArray) (w : World) (hs : s.size ≤ 100000) (hdot : at0 s.data.toList (whileN isDigit s.data.toList) ≠ 46) (hd : 0 < whileN isDigit s.data.toList) (ev : Value)
    (hv : w.cell? ⟨Tryz.laysPu14_ren.g 1, 0, none⟩ = some ev) (hev : ev = .nilIface ∨ ∃ te pe, ev = .iface te pe) :
    Calls Tryz.prog 98 #[.string s] w (NumPost s.data.toList w) := by
  have hlen : s.data.toList.length = s.size := by simp
  have HW := Lib.hid (while_any 96 isDigit tells_digit enters_digit s w (by omega))
  have hn := whileN_le isDigit s.data.toList
  rw [hlen] at hn
  have HNB := Lib.hid (numberL_int_bad hdot)
  have HNR := Lib.hid (numberL_int hdot)
  have HQ := Lib.hid (word32_any (s.extract 0 (whileN isDigit s.data.toList)) w (by simp; omega) (by rw [Lib.extract_from_zero]; exact word_no_syntax _ hd) ev hv hev)
  rw [Lib.extract_from_zero] at HQ
  have HB := Lib.hid (fun h : whileN isDigit s.data.toList < s.size => bt_eq s _ h)
  have HE := Lib.hid (at0_end (l := s.data.toList) (k := whileN isDigit s.data.toList))
  have HLEN := Lib.hid hlen
  clear hlen hv hev hd
  generalize whileN isDigit s.data.toList = n at *
  have hnb : n ≤ 100000 := by omega
  go_enter Tryz.func98, Tryz.ntmps98
  go_wp2_with fail
  refine HW.out.mono ?_
  rintro e w' ⟨rfl, rfl⟩
  clear HW
  rcases Nat.lt_or_ge n s.size with hl | hl
  · have j1 : (n : Int) < (s.size : Int) := by omega
    have hb : at0 s.data.toList n = s[n].toNat := HB.out hl
    have j2 : ((s[n].toNat : Int) == 46) = false := beq_eq_false_iff_ne.2 (by omega)
    have hc := letter_any s[n].toNat w s[n].toNat_lt
    cases hL : isLetter s[n].toNat with
    | true =>
      rw [hL] at hc
      have HC := Lib.hid hc
      have HY := Lib.hid (HNB.out (show bad s.data.toList n = true by unfold bad; rw [hb, hL]; rfl))
      clear hc hb hL hdot
      go_wp2_with fail
      refine HC.out.mono ?_
      rintro e w' ⟨rfl, rfl⟩
      clear HC
      go_wp2
      go_ret2
      exact NumPost.mk HY.out rfl rfl (Same.refl _)
    | false =>
      rw [hL] at hc
      have HC := Lib.hid hc
      have HY := Lib.hid (HNR.out (show bad s.data.toList n = false by unfold bad; rw [hb, hL]; exact beq_eq_false_iff_ne.2 (by omega)))
      clear hc hb hL hdot
      go_wp2_with fail
      refine HC.out.mono ?_
      rintro e w' ⟨rfl, rfl⟩
      clear HC
      go_wp2_with fail
      refine HQ.out.mono ?_
      rintro e w' (⟨u, hF, rfl, hS⟩ | ⟨u, tp, p, hF, rfl, hS⟩)
      · have HZ := Lib.hid (HY.out.trans (by rw [hF, Bool.true_and]))
        clear HQ HNB HNR HB HE hF HY
        by_cases h10 : n ≤ 10
        · have j5 : ¬ (10 : Int) < (n : Int) := by omega
          have HX := Lib.hid (HZ.out.trans (by rw [if_pos (decide_eq_true h10)]))
          clear HZ h10
          go_wp2
          go_ret2
          exact NumPost.mk HX.out rfl rfl hS
        · have j5 : (10 : Int) < (n : Int) := by omega
          have HX := Lib.hid (HZ.out.trans (by rw [if_neg (by simpa using h10)]))
          clear HZ h10
          go_wp2
          go_ret2
          exact NumPost.mk HX.out rfl rfl hS
      · have HZ := Lib.hid (HY.out.trans (by rw [hF, Bool.false_and, if_neg (by decide)]))
        clear HQ HNB HNR HB HE hF HY
        go_wp2
        go_ret2
        exact NumPost.mk HZ.out rfl rfl hS
  · have j1 : ¬ (n : Int) < (s.size : Int) := by omega
    have HY := Lib.hid (HNR.out (bad_end (by rw [HLEN.out]; exact hl)))
    go_wp2_with fail
    refine HQ.out.mono ?_
    rintro e w' (⟨u, hF, rfl, hS⟩ | ⟨u, tp, p, hF, rfl, hS⟩)
    · have HZ := Lib.hid (HY.out.trans (by rw [hF, Bool.true_and]))
      clear HQ HNB HNR HB HE hF HY
      by_cases h10 : n ≤ 10
      · have j5 : ¬ (10 : Int) < (n : Int) := by omega
        have HX := Lib.hid (HZ.out.trans (by rw [if_pos (decide_eq_true h10)]))
        clear HZ h10
        go_wp2
        go_ret2
        exact NumPost.mk HX.out rfl rfl hS
      · have j5 : (10 : Int) < (n : Int) := by omega
        have HX := Lib.hid (HZ.out.trans (by rw [if_neg (by simpa using h10)]))
        clear HZ h10
        go_wp2
        go_ret2
        exact NumPost.mk HX.out rfl rfl hS
    · have HZ := Lib.hid (HY.out.trans (by rw [hF, Bool.false_and, if_neg (by decide)]))
      clear HQ HNB HNR HB HE hF HY
      go_wp2
      go_ret2
      exact NumPost.mk HZ.out rfl rfl hS
end Go.Proofs.YtfgiejfjnhgcaaaGreatDoor
