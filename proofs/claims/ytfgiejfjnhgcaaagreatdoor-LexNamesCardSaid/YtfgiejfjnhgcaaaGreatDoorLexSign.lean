/- The walk of lex.token at a sign, and all ways of token together. -/
import Derived.Test.YtfgiejfjnhgcaaaGreatDoorLexToken
namespace SolF
open Go
theorem two_len {l : List UInt8} (h : isTwo l = true) : 2 ≤ l.length := by
  unfold isTwo at h
  simp only [Bool.and_eq_true, decide_eq_true_eq] at h
  omega
end SolF
namespace Go.Proofs.YtfgiejfjnhgcaaaGreatDoor
open Go Go.RowKit SolF Go.Shelf

theorem lt_of_cell' {w : World} {p : Addr} {v : Value} (h : w.cell? p = some v) : p.block < w.heap.size := by
  rcases Nat.lt_or_ge p.block w.heap.size with hb | hb
  · exact hb
  · unfold World.cell? at h
    rw [Array.getElem?_eq_none hb] at h
    cases h
theorem alloc_cell {w : World} {p : Addr} {v : Value} (h : w.cell? p = some v) (o : Obj) : (w.alloc o).cell? p = some v := (World.cell?_alloc_lt w o p (lt_of_cell' h)).trans h
theorem take_two (t : ByteArray) : (t.extract 0 2).data.toList = t.data.toList.take 2 := Lib.extract_from_zero t 2

set_option maxRecDepth 100000 in
set_option maxHeartbeats 4000000 in
theorem token_sign (s : ByteArray) (a : Nat) (w : World) (m : Int) (hs : s.size ≤ 100000) (ha : a < s.size) (hL : isLetter (at0 (s.data.toList.drop a) 0) = false) (hD : isDigit (at0 (s.data.toList.drop a) 0) = false)
    (hm : w.cell? ⟨4, 0, none⟩ = some (.int .i64 m)) :
    Calls Tryz.prog 64 #[.string s, .int .i64 (a : Int)] w (TokPost a (s.data.toList.drop a) w) := by
  have hlist : (s.extract a s.size).data.toList = s.data.toList.drop a := Lib.extract_to_end s a
  have hsz : (s.extract a s.size).size = s.size - a := by simp
  have t1 : 0 < (s.extract a s.size).size := by omega
  have t2 : (s.extract a s.size).size ≤ 100000 := by omega
  have hb : at0 (s.extract a s.size).data.toList 0 = (s.extract a s.size)[0].toNat := bt_eq _ 0 t1
  rw [← hlist] at hL hD ⊢
  rw [hb] at hL hD
  have i0 : (a : Int) ≤ (s.size : Int) := by omega
  have hc := letter_any (s.extract a s.size)[0].toNat
  have hd := digit_any (s.extract a s.size)[0].toNat
  rw [hL] at hc
  rw [hD] at hd
  have HM := Lib.hid hm
  clear hm
  go_enter Tryz.func64, Tryz.ntmps64
  go_wp2_with fail
  generalize s.extract a s.size = t at *
  have HT := Lib.hid (show tokenL formL t.data.toList = if isSign t[0].toNat then (4, if isTwo t.data.toList then 2 else 1) else (0, 0) by unfold tokenL; rw [hb, hL, hD]; rfl)
  have HL := Lib.hid hlist
  have HDD := Lib.hid hd
  clear hlist hL hb hD hd
  refine (hc _ t[0].toNat_lt).mono ?_
  rintro e w' ⟨rfl, rfl⟩
  clear hc
  go_wp2_with fail
  refine (HDD.out _).mono ?_
  rintro e w' ⟨rfl, rfl⟩
  clear HDD
  go_wp2_with fail
  refine (sign_ex _ _ t[0].toNat_lt).mono ?_
  rintro e w' ⟨z, rfl, HZ, rfl⟩
  by_cases hz : 0 ≤ z
  · have HS := Lib.hid (HT.out.trans (by rw [← HZ.out, if_pos (decide_eq_true hz)]))
    clear HT HZ
    by_cases h1 : 1 < t.size
    · have j1 : (1 : Int) < (t.size : Int) := by omega
      have hb1 : at0 t.data.toList 1 = t[1].toNat := bt_eq _ 1 h1
      have HW := Lib.hid (show isTwo t.data.toList = (Lib.contains twos (t.data.toList.take 2) && decide (t[1].toNat ≠ 32)) by unfold isTwo; rw [show t.data.toList.length = t.size by simp, decide_eq_true h1, hb1]; rfl)
      have hx : (t.extract 0 2).data.toList = t.data.toList.take 2 := take_two t
      have HX2 := Lib.hid hx
      clear hx hb1
      go_wp2_with fail
      refine (contains_ex ⟨#[60, 60, 32, 62, 62, 32, 60, 61, 32, 62, 61, 32, 61, 61, 32, 33, 61, 32, 38, 38, 32, 124, 124]⟩ _ m _ (by decide) (alloc_cell HM.out _)).mono ?_
      rintro e w' ⟨rfl, rfl⟩
      rw [HX2.out]
      generalize hcn : Lib.contains _ (t.data.toList.take 2) = cn
      have HC := Lib.hid (show Lib.contains twos (t.data.toList.take 2) = cn from hcn)
      clear hcn
      cases cn with
      | true =>
        by_cases h32 : t[1].toNat = 32
        · have j2 : ((t[1].toNat : Int) != 32) = false := by rw [bne_eq_false_iff_eq]; omega
          have HX := Lib.hid (HS.out.trans (by rw [HW.out, HC.out, decide_eq_false (by omega), Bool.and_false, if_neg (by decide)]))
          clear HS HW h32
          go_wp2
          go_returns
          exact TokPost.good HX.out (by decide) rfl (Lib.extract_from_zero t 1) (by show Below _ _ _; go_grown)
        · have j2 : ((t[1].toNat : Int) != 32) = true := by rw [bne_iff_ne]; omega
          have HX := Lib.hid (HS.out.trans (by rw [HW.out, HC.out, decide_eq_true h32, Bool.and_true, if_pos rfl]))
          clear HS HW h32
          go_wp2
          go_returns
          exact TokPost.good HX.out (by decide) rfl (Lib.extract_from_zero t 2) (by show Below _ _ _; go_grown)
      | false =>
        have HX := Lib.hid (HS.out.trans (by rw [HW.out, HC.out, Bool.false_and, if_neg (by decide)]))
        clear HS HW
        go_wp2
        go_returns
        exact TokPost.good HX.out (by decide) rfl (Lib.extract_from_zero t 1) (by show Below _ _ _; go_grown)
    · have j1 : ¬ (1 : Int) < (t.size : Int) := by omega
      have HX := Lib.hid (HS.out.trans (by rw [show isTwo t.data.toList = false by unfold isTwo; rw [show t.data.toList.length = t.size by simp, decide_eq_false h1]; rfl, if_neg (by decide)]))
      clear HS
      go_wp2
      go_returns
      exact TokPost.good HX.out (by decide) rfl (Lib.extract_from_zero t 1) (by show Below _ _ _; go_grown)
  · have HS := Lib.hid (HT.out.trans (by rw [← HZ.out, if_neg (by simpa using hz)]))
    clear HT HZ
    go_wp2
    refine ⟨rfl, TokPost.bad HS.out rfl ?_⟩
    show Below _ _ _; go_grown
end Go.Proofs.YtfgiejfjnhgcaaaGreatDoor
