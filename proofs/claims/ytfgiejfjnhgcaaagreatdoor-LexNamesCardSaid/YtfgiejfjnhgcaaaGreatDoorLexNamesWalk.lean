/- The walk of LexNames. -/
import Derived.Test.YtfgiejfjnhgcaaaGreatDoorAwake10
import Derived.Test.YtfgiejfjnhgcaaaGreatDoorLexLaws
import Derived.Test.YtfgiejfjnhgcaaaGreatDoorOpens
import Derived.Test.YtfgiejfjnhgcaaaGreatDoorRefWord
import Derived.Test.YtfgiejfjnhgcaaaGreatDoorLexNumbersWalk
namespace Go.Proofs.YtfgiejfjnhgcaaaGreatDoor
open Go Go.RowKit SolF Go.Shelf
def nameSet : List UInt8 := [97, 98, 99, 100, 101, 102, 103, 104, 105, 106, 107, 108, 109, 110, 111, 112, 113, 114, 115, 116, 117, 118, 119, 120, 121, 122, 65, 66, 67, 88, 89, 90, 95, 48, 49, 50, 51, 52, 53, 54, 55, 56, 57]
theorem set_named : ∀ k, k < 43 → isNamed (nameSet.getD k 0).toNat = true := by decide
theorem set_letter : ∀ k, k < 33 → isLetter (nameSet.getD k 0).toNat = true := by decide
/-- a text of letters and digits that begins with no digit -/
def NameInv (i : Nat) (l : List UInt8) : Prop := l.length = i ∧ (∀ d ∈ l, isNamed d.toNat = true) ∧ ∀ c r, l = c :: r → isLetter c.toNat = true
def setB : ByteArray := ⟨#[97, 98, 99, 100, 101, 102, 103, 104, 105, 106, 107, 108, 109, 110, 111, 112, 113, 114, 115, 116, 117, 118, 119, 120, 121, 122, 65, 66, 67, 88, 89, 90, 95, 48, 49, 50, 51, 52, 53, 54, 55, 56, 57]⟩
set_option maxRecDepth 100000 in
theorem set_cut : ∀ k, k < 43 → (setB.extract k (k + 1)).data.toList = [nameSet.getD k 0] := by decide +kernel
theorem name_next {i k : Nat} {s : ByteArray} (h : NameInv i s.data.toList) (hk : k < 43) (h0 : i = 0 → k < 33) : NameInv (i + 1) (s ++ setB.extract k (k + 1)).data.toList := by
  have e : (s ++ setB.extract k (k + 1)).data.toList = s.data.toList ++ [nameSet.getD k 0] := by rw [← set_cut k hk]; simp
  rw [e]
  obtain ⟨h1, h2, h3⟩ := h
  refine ⟨by rw [List.length_append, h1]; rfl, fun d hd => ?_, fun c r hcr => ?_⟩
  · rcases List.mem_append.1 hd with hd | hd
    · exact h2 d hd
    · rw [List.mem_singleton.1 hd]; exact set_named k hk
  · cases hl : s.data.toList with
    | nil =>
      rw [hl] at hcr h1
      injection hcr with hc _
      rw [← hc]
      exact set_letter k (h0 (by simpa using h1.symm))
    | cons c' r' =>
      rw [hl] at hcr
      injection hcr with hc _
      rw [← hc]
      exact h3 c' r' hl
set_option maxRecDepth 100000 in
set_option maxHeartbeats 4000000 in
theorem names_walk (A : Option Addr) (n c : Nat) (zs : List Int) (w : World) (h : Env w) (hr : ByteRow w A n zs) : Calls Tryz.prog 14 #[.slice A n c] w fun e w' => e = .returned (.bool true) ∧ Same w w' := by
  have HE := Lib.hid h
  obtain ⟨hzl, hzb, hcell, hn47⟩ := hr
  by_cases h0 : n = 0
  · subst h0
    go_enter Tryz.func14, Tryz.ntmps14
    go_wp2_with fail
    refine (awake10 _ HE.out).mono ?_
    rintro e w1 ⟨rfl, hS1⟩
    go_wp2_with fail
    refine (awake10 _ (HE.out.same hS1)).mono ?_
    rintro e w2 ⟨rfl, hS2⟩
    go_wp2
    go_ret
    exact ⟨rfl, hS1.trans hS2⟩
  by_cases h60 : 60 < n
  · have i1 : (60 : Int) < (n : Int) := by omega
    have i2 : ((n : Int) == 0) = false := beq_eq_false_iff_ne.2 (by omega)
    go_enter Tryz.func14, Tryz.ntmps14
    go_wp2_with fail
    refine (awake10 _ HE.out).mono ?_
    rintro e w1 ⟨rfl, hS1⟩
    go_wp2_with fail
    refine (awake10 _ (HE.out.same hS1)).mono ?_
    rintro e w2 ⟨rfl, hS2⟩
    go_wp2
    go_ret
    exact ⟨rfl, hS1.trans hS2⟩
  obtain ⟨a, rfl, hc2⟩ := hcell (by omega)
  have i1 : ¬ (60 : Int) < (n : Int) := by omega
  have i1b : decide ((60 : Int) < (n : Int)) = false := decide_eq_false i1
  have i2 : ((n : Int) == 0) = false := beq_eq_false_iff_ne.2 (by omega)
  have HC2 := Lib.hid hc2
  have HZB := Lib.hid hzb
  clear hcell hc2 hzb
  go_enter Tryz.func14, Tryz.ntmps14
  go_wp2_with fail
  refine (awake10 _ HE.out).mono ?_
  rintro e w1 ⟨rfl, hS1⟩
  go_wp2_with fail
  go_loopg [4, 5, 6, 7, 27] n (fun g v4 v5 v6 v7 v27 wr => ∃ (i : Nat) (s : ByteArray), i + g = n ∧ v27 = .int .i64 (i : Int) ∧ v4 = .string s ∧ Hid (NameInv i s.data.toList) ∧ w1 = wr)
  case atStart => exact ⟨0, ⟨#[]⟩, by omega, rfl, rfl, ⟨rfl, (fun d h => by cases h), fun c r h => by cases h⟩, rfl⟩
  case round =>
    obtain ⟨i, s, hi, rfl, rfl, H, rfl⟩ := hrel
    have hsz : s.size = i := by have := H.out.1; simpa using this
    have hsz2 : s.size ≤ 60 := by omega
    have HSZ := Lib.hid hsz
    clear hsz
    cases gk with
    | zero =>
      obtain rfl : i = n := by omega
      obtain ⟨c0, r0, hcr⟩ : ∃ c r, s.data.toList = c :: r := by
        cases hl : s.data.toList with
        | nil => have := H.out.1; rw [hl] at this; simp at this; omega
        | cons c r => exact ⟨c, r, rfl⟩
      have hlx := lex_named formL c0 r0 (H.out.2.2 c0 r0 hcr) (by rw [← hcr]; exact H.out.2.1) (by rw [← hcr, H.out.1]; omega)
      rw [← hcr, H.out.1] at hlx
      have HLX := Lib.hid hlx
      have HL := Lib.hid (lex_all Env s w1 (HE.out.same hS1).lex (fun w' h => (HE.out.same hS1).same h) (fun a _ t _ hd => absurd hd (at0_dot (fun c hc => named_not_dot (H.out.2.1 c hc)) a _)))
      have HLEN := Lib.hid H.out.1
      have HS1 := Lib.hid hS1
      clear hcr hlx hS1 H HC2 HZB hzl
      go_wp2_with fail
      refine HL.out.mono ?_
      clear HL
      by_cases h40 : 40 < i
      · have j1 : (40 : Int) < (s.size : Int) := by have := HSZ.out; omega
        have hF := HLX.out.1 h40
        clear h40
        intro e w2 hp
        rw [hF] at hp
        obtain ⟨rfl, hS2⟩ := hp
        have HS2 := Lib.hid (HS1.out.trans hS2)
        clear hF hS2
        go_wp2
        go_ret
        exact ⟨rfl, HS2.out⟩
      · have j1 : ¬ (40 : Int) < (s.size : Int) := by have := HSZ.out; omega
        have hF := HLX.out.2 (by omega)
        clear h40
        intro e w2 hp
        rw [hF] at hp
        obtain ⟨⟨v, rfl, ho⟩, hS2⟩ := hp
        obtain ⟨g, cap, rfl⟩ : ∃ g cap, v = .slice (some ⟨g, 0, none⟩) 2 cap := own_some ho (by simp)
        have d1 := ho.cellAt 0 (by simp)
        have d2 := ho.cellAt 1 (by simp)
        have d3 := ho.cellAt 2 (by simp)
        have hgl : g < w2.heap.size := (ho.lt g rfl).2
        simp [tokCells] at d1 d2 d3
        rw [show (ByteArray.mk s.data) = s from rfl] at d2
        have HS2 := Lib.hid (HS1.out.trans hS2)
        have D1 := Lib.hid d1
        have D2 := Lib.hid d2
        have D3 := Lib.hid d3
        have HR := Lib.hid (refWord_any s w2)
        clear hF hS2 ho d1 d2 d3
        go_wp2_with fail
        refine HR.out.mono ?_
        rintro e w3 ⟨rfl, hS3⟩
        have e1 := same_cell hS3 D1.out
        have e2 := same_cell hS3 D2.out
        have e3 := same_cell hS3 D3.out
        have HS3 := Lib.hid (HS2.out.trans hS3)
        clear hS3 HLX HR
        cases hW : isWord s.data.toList with
        | true =>
          rw [hW] at e1
          go_wp2
          go_ret
          exact ⟨rfl, HS3.out⟩
        | false =>
          rw [hW] at e1
          go_wp2
          go_ret
          exact ⟨rfl, HS3.out⟩
    | succ g =>
      have hlt : i < n := by omega
      have j1 : (i : Int) < (n : Int) := by omega
      have c0 := same_cell hS1 (HC2.out i hlt)
      obtain ⟨z, hz⟩ : ∃ z : Nat, zs.getD i 0 = (z : Int) := by
        have hm : zs.getD i 0 ∈ zs := by
          rw [List.getD_eq_getElem?_getD, List.getElem?_eq_getElem (by omega)]
          exact List.getElem_mem _
        exact ⟨(zs.getD i 0).toNat, by have := HZB.out _ hm; omega⟩
      have hz256 : z < 256 := by
        have hm : zs.getD i 0 ∈ zs := by
          rw [List.getD_eq_getElem?_getD, List.getElem?_eq_getElem (by omega)]
          exact List.getElem_mem _
        have := HZB.out _ hm; omega
      rw [hz] at c0
      have HZ := Lib.hid hz
      clear hz
      rcases Nat.eq_zero_or_pos i with hi0 | hi0
      · have j2 : ((i : Int) == 0) = true := beq_iff_eq.2 (by omega)
        obtain ⟨k0, hk0⟩ : ∃ k : Nat, (z : Int) % 43 = (k : Int) := ⟨z % 43, by omega⟩
        obtain ⟨k, hk⟩ : ∃ k : Nat, (z : Int) % 33 = (k : Int) := ⟨z % 33, by omega⟩
        have hk33 : k < 33 := by omega
        have HI0 := Lib.hid hi0
        clear hi0
        go_wp2
        go_roundg g
        case measure => omega
        case rel =>
          exact ⟨i + 1, _, by omega, by go_num, rfl, name_next H.out (by omega) (fun _ => hk33), rfl⟩
      · have j2 : ((i : Int) == 0) = false := beq_eq_false_iff_ne.2 (by omega)
        obtain ⟨k, hk⟩ : ∃ k : Nat, (z : Int) % 43 = (k : Int) := ⟨z % 43, by omega⟩
        have hk43 : k < 43 := by omega
        go_wp2
        go_roundg g
        case measure => omega
        case rel =>
          exact ⟨i + 1, _, by omega, by go_num, rfl, name_next H.out hk43 (fun h => by omega), rfl⟩
end Go.Proofs.YtfgiejfjnhgcaaaGreatDoor
