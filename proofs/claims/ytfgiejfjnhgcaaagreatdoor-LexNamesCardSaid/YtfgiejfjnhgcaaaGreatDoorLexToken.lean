/- The walk of lex.token. -/
import Derived.Test.YtfgiejfjnhgcaaaGreatDoorLexWord32
import Derived.Test.YtfgiejfjnhgcaaaGreatDoorLexWord
import Derived.Handy
import Derived.Test.YtfgiejfjnhgcaaaGreatDoorLexSpec

namespace Go.Proofs.YtfgiejfjnhgcaaaGreatDoor
open Go Go.RowKit SolF Go.Shelf

/-- what token comes to -/
def TokPost (at_ : Nat) (l : List UInt8) (w : World) (e : Ending) (w' : World) : Prop :=
  (e = if (tokenL formL l).1 = 0 then .panicked [{ v := .iface 90 (.agg #[.int .i64 (at_ : Int), .int .i64 10]), recovered := false }]
    else .returned (.agg #[.int .i64 ((tokenL formL l).1 : Int), .string ⟨(l.take (tokenL formL l).2).toArray⟩, .int .i64 (at_ : Int)])) ∧ Same w w'
theorem TokPost.bad {a : Nat} {l : List UInt8} {w w' : World} {x : Nat × Nat} (h : tokenL formL l = x) (h0 : x.1 = 0) (hs : Same w w') : TokPost a l w (.panicked [{ v := .iface 90 (.agg #[.int .i64 (a : Int), .int .i64 10]), recovered := false }]) w' := by
  unfold TokPost; rw [h, if_pos h0]; exact ⟨rfl, hs⟩
theorem TokPost.good {a : Nat} {l : List UInt8} {w w' : World} {x : Nat × Nat} {k : Int} {t : ByteArray} (h : tokenL formL l = x) (h0 : x.1 ≠ 0) (hk : k = x.1) (ht : t.data.toList = l.take x.2) (hs : Same w w') : TokPost a l w (.returned (.agg #[.int .i64 k, .string t, .int .i64 (a : Int)])) w' := by
  unfold TokPost; rw [h, if_neg h0, ← ht, hk]; exact ⟨rfl, hs⟩

set_option maxRecDepth 100000 in
set_option maxHeartbeats 4000000 in
theorem Same.new (w : World) (o : Obj) : Same w (w.alloc o) := Below.alloc (Below.refl _ _) (Nat.le_refl _) o
set_option maxRecDepth 100000 in
set_option maxHeartbeats 4000000 in
theorem token_letter (s : ByteArray) (a : Nat) (w : World) (hs : s.size ≤ 100000) (ha : a < s.size) (hL : isLetter (at0 (s.data.toList.drop a) 0) = true) :
    Calls Tryz.prog 64 #[.string s, .int .i64 (a : Int)] w (TokPost a (s.data.toList.drop a) w) := by
  have hmf : ∀ (fn : Fn) (first cap : Array Value) (w : World), (Instr.makeFunc fn first cap).run Tryz.prog w = .ok (.func fn first cap) w := fun _ _ _ _ => rfl
  have hlist : (s.extract a s.size).data.toList = s.data.toList.drop a := Lib.extract_to_end s a
  have hsz : (s.extract a s.size).size = s.size - a := by simp
  have t1 : 0 < (s.extract a s.size).size := by omega
  have t2 : (s.extract a s.size).size ≤ 100000 := by omega
  have hb : at0 (s.extract a s.size).data.toList 0 = (s.extract a s.size)[0].toNat := bt_eq _ 0 t1
  rw [← hlist] at hL ⊢
  rw [hb] at hL
  have i0 : (a : Int) ≤ (s.size : Int) := by omega
  have hc := letter_any (s.extract a s.size)[0].toNat
  go_enter Tryz.func64, Tryz.ntmps64
  go_wp2_with fail
  generalize s.extract a s.size = t at *
  rw [hL] at hc
  have HT := Lib.hid (show tokenL formL t.data.toList = if isWord (t.data.toList.take (whileN isNamed t.data.toList)) then (5, whileN isNamed t.data.toList) else if 40 < whileN isNamed t.data.toList then (0, whileN isNamed t.data.toList) else (1, whileN isNamed t.data.toList) by unfold tokenL; rw [hb, hL]; rfl)
  have HL := Lib.hid hlist
  clear hlist hL hb
  refine (hc _ t[0].toNat_lt).mono ?_
  rintro e w' ⟨rfl, rfl⟩
  clear hc
  go_wp2_with fail
  refine (while_any 95 isNamed tells_named (enters_of Tryz.func95 (by kernel_rfl) rfl) t _ (by omega)).mono ?_
  rintro e w' ⟨rfl, rfl⟩
  have hn := whileN_le isNamed t.data.toList
  rw [show t.data.toList.length = t.size by simp] at hn
  generalize whileN isNamed t.data.toList = n at *
  have hnb : n ≤ 100000 := by omega
  go_wp2_with fail
  refine (word_any (t.extract 0 n) _).mono ?_
  rintro e w' ⟨rfl, rfl⟩
  have HX := Lib.hid (Lib.extract_from_zero t n)
  rw [HX.out]
  cases hW : isWord (t.data.toList.take n) with
  | true =>
    have HY := Lib.hid (HT.out.trans (by rw [hW, if_pos rfl]))
    clear hW HT
    go_wp2
    go_returns
    exact TokPost.good HY.out (by simp) rfl HX.out (by show Below _ _ _; go_grown)
  | false =>
    by_cases h40 : n ≤ 40
    · have j1 : ¬ (40 : Int) < (n : Int) := by omega
      have HY := Lib.hid (HT.out.trans (by rw [hW, if_neg (by decide), if_neg (by omega)]))
      clear hW HT
      go_wp2
      go_returns
      exact TokPost.good HY.out (by simp) rfl HX.out (by show Below _ _ _; go_grown)
    · have j1 : (40 : Int) < (n : Int) := by omega
      have HY := Lib.hid (HT.out.trans (by rw [hW, if_neg (by decide), if_pos (by omega)]))
      clear hW HT
      go_wp2
      refine ⟨rfl, TokPost.bad HY.out rfl ?_⟩
      show Below _ _ _; go_grown
theorem contains_ex (s p : ByteArray) (m : Int) (w : World) (hs : s.size < 4294967281) (hm : w.cell? ⟨4, 0, none⟩ = some (.int .i64 m)) :
    Calls Tryz.prog 99 #[.string s, .string p] w fun e w' => e = .returned (.bool (Lib.contains s.data.toList p.data.toList)) ∧ w = w' :=
  (Any.strings_Contains Tryz.lays144 s p m w hs hm).mono fun _ _ h => ⟨h.1, h.2.symm⟩
theorem sign_ex (c : Nat) (w : World) (_hc : c < 256) : Calls Tryz.prog 90 #[.string ⟨#[43, 45, 42, 47, 37, 38, 124, 94, 126, 33, 60, 62, 61, 40, 41, 123, 125, 91, 93, 59, 44]⟩, .int .u8 (c : Int)] w fun e w' => ∃ z : Int, e = .returned (.int .i64 z) ∧ Hid (decide (0 ≤ z) = isSign c) ∧ w = w' :=
  (indexByte_ex _ _ w).mono fun _ _ h => ⟨_, h.1, (by
    show decide _ = _
    rw [Int.toNat_natCast]; rfl), h.2⟩

set_option maxRecDepth 100000 in
set_option maxHeartbeats 4000000 in
theorem token_digit (s : ByteArray) (a : Nat) (w : World) (hs : s.size ≤ 100000) (ha : a < s.size) (hL : isLetter (at0 (s.data.toList.drop a) 0) = false) (hD : isDigit (at0 (s.data.toList.drop a) 0) = true)
    (hnum : ∀ t : ByteArray, t.data.toList = s.data.toList.drop a → ∀ w1, Same w w1 → Calls Tryz.prog 98 #[.string t] w1 (NumPost t.data.toList w1)) (hle : (numberL formL (s.data.toList.drop a)).2 ≤ s.size - a) :
    Calls Tryz.prog 64 #[.string s, .int .i64 (a : Int)] w (TokPost a (s.data.toList.drop a) w) := by
  have hlist : (s.extract a s.size).data.toList = s.data.toList.drop a := Lib.extract_to_end s a
  have hsz : (s.extract a s.size).size = s.size - a := by simp
  have t1 : 0 < (s.extract a s.size).size := by omega
  have t2 : (s.extract a s.size).size ≤ 100000 := by omega
  have hb : at0 (s.extract a s.size).data.toList 0 = (s.extract a s.size)[0].toNat := bt_eq _ 0 t1
  have hn := Lib.hid (hnum (s.extract a s.size) hlist)
  rw [← hlist] at hL hD hle ⊢
  rw [hb] at hL hD
  have i0 : (a : Int) ≤ (s.size : Int) := by omega
  have hc := letter_any (s.extract a s.size)[0].toNat
  have hd := digit_any (s.extract a s.size)[0].toNat
  rw [hL] at hc
  rw [hD] at hd
  clear hnum
  go_enter Tryz.func64, Tryz.ntmps64
  go_wp2_with fail
  generalize s.extract a s.size = t at *
  have HT := Lib.hid (show tokenL formL t.data.toList = numberL formL t.data.toList by unfold tokenL; rw [hb, hL, hD]; rfl)
  have HL := Lib.hid hlist
  have HDD := Lib.hid hd
  clear hlist hL hb hD hd
  refine (hc _ t[0].toNat_lt).mono ?_
  rintro e w' ⟨rfl, rfl⟩
  clear hc
  go_wp2_with fail
  refine (HDD.out _).mono ?_
  rintro e w' ⟨rfl, rfl⟩
  clear HDD
  go_wp2_with fail
  refine (hn.out _ (Same.new _ _)).mono ?_
  unfold NumPost
  rintro e w1 ⟨rfl, hS⟩
  clear hn
  generalize numberL formL t.data.toList = x at *
  obtain ⟨k, n⟩ := x
  have c0 : w1.cell? ⟨w.heap.size, 0, none⟩ = some (.int .i64 0) := (Below.cell hS (by simp)).trans (by go_cell)
  have c1 : w1.cell? ⟨w.heap.size, 1, none⟩ = some (.string ⟨#[]⟩) := (Below.cell hS (by simp)).trans (by go_cell)
  have c2 : w1.cell? ⟨w.heap.size, 2, none⟩ = some (.int .i64 0) := (Below.cell hS (by simp)).trans (by go_cell)
  have f0 : w1.frozen? ⟨w.heap.size, 0, none⟩ = false := (Below.frozen hS (by simp)).trans (by go_cell)
  have f1 : w1.frozen? ⟨w.heap.size, 1, none⟩ = false := (Below.frozen hS (by simp)).trans (by go_cell)
  have f2 : w1.frozen? ⟨w.heap.size, 2, none⟩ = false := (Below.frozen hS (by simp)).trans (by go_cell)
  have k0 : ∀ v, (w1.setCell ⟨w.heap.size, 0, none⟩ v).cell? ⟨w.heap.size, 0, none⟩ = some v := fun v => World.cell?_setCell_same _ _ v c0
  have k1 : ∀ u v, ((w1.setCell ⟨w.heap.size, 0, none⟩ u).setCell ⟨w.heap.size, 1, none⟩ v).cell? ⟨w.heap.size, 1, none⟩ = some v := fun u v => World.cell?_setCell_same _ _ v ((World.cell?_setCell_other _ _ _ _ (by simp)).trans c1)
  have k1' : ∀ v, (w1.setCell ⟨w.heap.size, 1, none⟩ v).cell? ⟨w.heap.size, 1, none⟩ = some v := fun v => World.cell?_setCell_same _ _ v c1
  have k2' : ∀ v, (w1.setCell ⟨w.heap.size, 2, none⟩ v).cell? ⟨w.heap.size, 2, none⟩ = some v := fun v => World.cell?_setCell_same _ _ v c2
  have k2 : ∀ u x v, (((w1.setCell ⟨w.heap.size, 0, none⟩ u).setCell ⟨w.heap.size, 1, none⟩ x).setCell ⟨w.heap.size, 2, none⟩ v).cell? ⟨w.heap.size, 2, none⟩ = some v := fun u x v => World.cell?_setCell_same _ _ v ((World.cell?_setCell_other _ _ _ _ (by simp)).trans ((World.cell?_setCell_other _ _ _ _ (by simp)).trans c2))
  have hS' : Below w.heap.size w w1 := Same.trans (Same.new w _) hS
  have hnb : n ≤ 100000 := by simp only at hle; omega
  have hnt : n ≤ t.size := by simp only at hle; omega
  have HX := Lib.hid (Lib.extract_from_zero t n)
  clear hle hS
  by_cases hk : k = 0
  · subst hk
    go_wp2
    refine ⟨rfl, TokPost.bad HT.out rfl hS'⟩
  · have hkz : ((k : Int) == 0) = false := beq_eq_false_iff_ne.2 (by omega)
    go_wp2
    refine bodyPost_ret (v := .agg #[.int .i64 (k : Int), .string (t.extract 0 n), .int .i64 (a : Int)]) (by simp [results, Tryz.results64, go_sem, k0, k1, k2]) rfl ?_
    exact TokPost.good HT.out hk rfl HX.out (by show Below _ _ _; go_grown)
end Go.Proofs.YtfgiejfjnhgcaaaGreatDoor
