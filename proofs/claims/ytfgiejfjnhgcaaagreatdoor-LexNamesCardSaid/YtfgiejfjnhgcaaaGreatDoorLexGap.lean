/- The walk of lex.gap: what stands between tokens, as a plain function of the bytes. -/
import Derived.Test.YtfgiejfjnhgcaaaGreatDoorLexWhile
import Derived.Test.YtfgiejfjnhgcaaaGreatDoorShelfS
import Derived.Shelf.Abstract
namespace Go.Proofs.YtfgiejfjnhgcaaaGreatDoor
open Go Go.RowKit SolF Go.Shelf

theorem enters_line : ∀ args w, (callFunc 92 args).run Tryz.prog w = .ok (.enter 92 args) w := enters_of Tryz.func92 (by kernel_rfl) rfl

/-- what gap comes to -/
def GapPost (at0 : Nat) (r : Nat × Bool) (w : World) (e : Ending) (w' : World) : Prop :=
  (e = if r.2 then .returned (.int .i64 ((at0 + r.1 : Nat) : Int)) else .panicked [{ v := .iface 90 (.agg #[.int .i64 ((at0 + r.1 : Nat) : Int), .int .i64 10]), recovered := false }]) ∧ w = w'

theorem size_nil {t : ByteArray} (h : t.data.toList = []) : t.size = 0 := by
  have : t.size = t.data.toList.length := by simp
  rw [this, h]; rfl
theorem indexByte_ex (s : ByteArray) (c : Int) (w : World) : Calls Tryz.prog 90 #[.string s, .int .u8 c] w fun e w' => e = .returned (.int .i64 (Lib.indexByte s.data.toList c.toNat.toUInt8)) ∧ w = w' :=
  (Any.strings_IndexByte Tryz.lays137 s c w).mono fun _ _ h => ⟨h.1, h.2.symm⟩
theorem blank_ex (c : UInt8) (w : World) : Calls Tryz.prog 90 #[.string ⟨#[32, 9, 10, 13]⟩, .int .u8 (c.toNat : Int)] w fun e w' => ∃ z : Int, e = .returned (.int .i64 z) ∧ Hid (decide (0 ≤ z) = isBlank c) ∧ w = w' :=
  (indexByte_ex _ _ w).mono fun _ _ h => ⟨_, h.1, (by
    show decide _ = _
    rw [Int.toNat_natCast, show c.toNat.toUInt8 = c by simp]
    exact blank_iff c), h.2⟩
theorem search_ex (s p : ByteArray) (m : Int) (w : World) (hs : s.size < 4294967281) (hm : w.cell? ⟨4, 0, none⟩ = some (.int .i64 m)) :
    Calls Tryz.prog 93 #[.string s, .string p] w fun e w' => ∃ z : Int, e = .returned (.int .i64 z) ∧ Hid (z = Lib.index s.data.toList p.data.toList) ∧ w = w' :=
  (Any.strings_Index Tryz.lays143 s p m w hs hm).mono fun _ _ h => ⟨_, h.1, rfl, h.2.symm⟩
theorem prefix_ex (s p : ByteArray) (w : World) : Calls Tryz.prog 73 #[.string s, .string p] w fun e w' => e = .returned (.bool (Lib.hasPrefix s.data.toList p.data.toList)) ∧ w = w' :=
  (Any.strings_HasPrefix Tryz.lays99 s p w).mono fun _ _ h => ⟨h.1, h.2.symm⟩

theorem GapPost.good {at0 : Nat} {r : Nat × Bool} {w : World} {x : Int} (h : r.2 = true) (hx : x = ((at0 + r.1 : Nat) : Int)) : GapPost at0 r w (.returned (.int .i64 x)) w := by
  unfold GapPost; rw [h, hx]; exact ⟨rfl, rfl⟩
theorem GapPost.bad {at0 : Nat} {r : Nat × Bool} {w : World} {x : Int} (h : r.2 = false) (hx : x = ((at0 + r.1 : Nat) : Int)) :
    GapPost at0 r w (.panicked [{ v := .iface 90 (.agg #[.int .i64 x, .int .i64 10]), recovered := false }]) w := by
  unfold GapPost; rw [h, hx]; exact ⟨rfl, rfl⟩
set_option maxRecDepth 100000 in
set_option maxHeartbeats 2000000 in
theorem gap_any (s : ByteArray) (at0 : Nat) (w : World) (m : Int) (hs : s.size ≤ 100000) (h0 : at0 ≤ s.size) (hm : w.cell? ⟨4, 0, none⟩ = some (.int .i64 m)) :
    Calls Tryz.prog 63 #[.string s, .int .i64 (at0 : Int)] w (GapPost at0 (gapR (s.data.toList.drop at0)) w) := by
  have HM := Lib.hid hm
  have HEL := Lib.hid enters_line
  clear hm
  go_enter Tryz.func63, Tryz.ntmps63
  go_wp2_with fail
  go_loopg [1] (s.size - at0) (fun g v wr => ∃ k : Nat, at0 ≤ k ∧ k ≤ s.size ∧ s.size - k = g ∧ v = .int .i64 (k : Int) ∧ Hid (gapR (s.data.toList.drop at0) = ((gapR (s.data.toList.drop k)).1 + (k - at0), (gapR (s.data.toList.drop k)).2)) ∧ w = wr)
  case atStart => exact ⟨at0, by omega, by omega, by omega, rfl, (by show _ = _; simp), rfl⟩
  case round =>
    obtain ⟨k, hk0, hk, hg, rfl, HG, rfl⟩ := hrel
    by_cases hlt : k < s.size
    · have i1 : (k : Int) < (s.size : Int) := by omega
      go_wp2_with fail
      have hlist : (s.extract k s.size).data.toList = s.data.toList.drop k := Lib.extract_to_end s k
      have hsz : (s.extract k s.size).size = s.size - k := by simp
      obtain ⟨c, r, hcr⟩ : ∃ c r, (s.extract k s.size).data.toList = c :: r := by
        cases h : (s.extract k s.size).data.toList with
        | nil => have := size_nil h; omega
        | cons c r => exact ⟨c, r, rfl⟩
      have hc0 : ∀ h : 0 < (s.extract k s.size).size, (s.extract k s.size)[0]'h = c := by
        intro h
        show (s.extract k s.size).data[0] = c
        rw [← Array.getElem_toList]
        simp only [hcr]
        rfl
      rw [hc0]
      clear hc0
      generalize s.extract k s.size = t at *
      refine (blank_ex c _).mono ?_
      rintro e w' ⟨z, rfl, HZ, rfl⟩
      have HR := Lib.hid (show s.data.toList.drop k = c :: r by rw [← hlist, hcr])
      have HCR := Lib.hid hcr
      have HSZ := Lib.hid (show t.size = s.size - k from hsz)
      have HGK := Lib.hid hg
      have t1 : 0 < t.size := by omega
      have t2 : t.size ≤ 100000 := by omega
      have hlen : (c :: r).length = s.size - k := by rw [← HR.out]; simp
      have HLEN := Lib.hid hlen
      clear hlist hcr hsz hg hlen
      by_cases hb : isBlank c = true
      · have hz : 0 ≤ z := of_decide_eq_true (HZ.out.trans hb)
        have HB := Lib.hid hb
        clear hb HZ
        go_wp2
        go_roundg (s.size - (k + 1))
        case measure => have := HGK.out; omega
        case rel =>
          refine ⟨k + 1, by omega, by omega, rfl, by go_num, ?_, rfl⟩
          show _ = _
          rw [HG.out, HR.out, gapR_blank c r HB.out, show s.data.toList.drop (k + 1) = r by rw [← List.tail_drop, HR.out]; rfl]
          exact Prod.ext (by simp only; omega) rfl
      · have hb' : isBlank c = false := by simpa using hb
        have hz : z < 0 := by
          have := of_decide_eq_false (HZ.out.trans hb')
          omega
        have HB := Lib.hid hb'
        clear hb hb' HZ
        go_wp2_with fail
        refine (prefix_ex _ _ _).mono ?_
        rintro e w' ⟨rfl, rfl⟩
        rw [HCR.out]
        cases h1 : Lib.hasPrefix (c :: r) [47, 47] with
        | true =>
          have H1 := Lib.hid h1
          clear h1
          have hmf : ∀ (fn : Fn) (first cap : Array Value) (w : World), (Instr.makeFunc fn first cap).run Tryz.prog w = .ok (.func fn first cap) w := fun _ _ _ _ => rfl
          have hpos : 0 < whileN notLine (c :: r) := whileN_pos _ _ _ (by rw [(prefix_cons H1.out).1]; rfl)
          have hwl := whileN_le notLine (c :: r)
          rw [HLEN.out] at hwl
          have HW := Lib.hid (while_any 92 notLine tells_line HEL.out t w (by omega))
          generalize hN : whileN notLine (c :: r) = N at *
          have HN := Lib.hid hN
          clear hN
          go_wp2_with fail
          refine HW.out.mono ?_
          rintro e w' ⟨rfl, rfl⟩
          rw [HCR.out, HN.out]
          have n1 : N ≤ 100000 := by omega
          go_wp2
          go_roundg (s.size - (k + N))
          case measure => have := HGK.out; omega
          case rel =>
            refine ⟨k + N, by omega, by omega, rfl, by go_num, ?_, rfl⟩
            show _ = _
            have hg2 := gapR_line c r HB.out H1.out
            rw [HN.out] at hg2
            rw [HG.out, HR.out, hg2, show s.data.toList.drop (k + N) = (c :: r).drop N by rw [← HR.out, List.drop_drop]]
            exact Prod.ext (by simp only; omega) rfl
        | false =>
          have H1 := Lib.hid h1
          clear h1
          go_wp2_with fail
          refine (prefix_ex _ _ _).mono ?_
          rintro e w' ⟨rfl, rfl⟩
          rw [HCR.out]
          cases h2 : Lib.hasPrefix (c :: r) [47, 42] with
          | true =>
            have H2 := Lib.hid h2
            clear h2
            have t3 : 2 ≤ t.size := by have := prefix_two H2.out; have := HLEN.out; have := HSZ.out; omega
            have t3' : (2 : Int) ≤ (t.size : Int) := by omega
            go_wp2_with fail
            have hx : (t.extract 2 t.size).data.toList = (c :: r).drop 2 := by rw [Lib.extract_to_end, HCR.out]
            have hxs : (t.extract 2 t.size).size < 4294967281 := by simp; omega
            generalize t.extract 2 t.size = x at *
            refine (search_ex x _ m _ hxs HM.out).mono ?_
            rintro e w' ⟨z2, rfl, HZ2, rfl⟩
            have HI := Lib.hid (show z2 = Lib.index ((c :: r).drop 2) [42, 47] by rw [HZ2.out, hx])
            clear hx hxs HZ2
            by_cases hz2 : z2 < 0
            · go_wp2
              refine ⟨rfl, GapPost.bad ?_ ?_⟩
              · rw [HG.out, HR.out, gapR_open c r HB.out H1.out H2.out (by rw [← HI.out]; exact hz2)]
              · rw [HG.out, HR.out, gapR_open c r HB.out H1.out H2.out (by rw [← HI.out]; exact hz2)]
                show (k : Int) = ((at0 + (0 + (k - at0)) : Nat) : Int)
                omega
            · obtain ⟨n, rfl⟩ := Int.eq_ofNat_of_zero_le (show 0 ≤ z2 by omega)
              have hroom := index_room _ n HI.out.symm
              have hroom2 : n + 4 ≤ s.size - k := by
                have := HLEN.out
                rw [List.length_drop, this] at hroom
                omega
              have n1 : n ≤ 100000 := by omega
              clear hroom
              go_wp2
              go_roundg (s.size - (k + (n + 4)))
              case measure => have := HGK.out; omega
              case rel =>
                refine ⟨k + (n + 4), by omega, by omega, rfl, by go_num, ?_, rfl⟩
                show _ = _
                rw [HG.out, HR.out, gapR_remark c r HB.out H1.out H2.out n HI.out.symm, show s.data.toList.drop (k + (n + 4)) = (c :: r).drop (n + 4) by rw [← HR.out, List.drop_drop]]
                exact Prod.ext (by simp only; omega) rfl
          | false =>
            have H2 := Lib.hid h2
            clear h2
            go_wp2
            go_ret
            refine GapPost.good ?_ ?_
            · rw [HG.out, HR.out, gapR_none c r HB.out H1.out H2.out]
            · rw [HG.out, HR.out, gapR_none c r HB.out H1.out H2.out]
              show (k : Int) = ((at0 + (0 + (k - at0)) : Nat) : Int)
              omega
    · have i1 : ¬ (k : Int) < (s.size : Int) := by omega
      have hn : s.data.toList.drop k = [] := List.drop_eq_nil_of_le (by simp; omega)
      have HN := Lib.hid hn
      clear hn
      go_wp2
      go_ret
      refine GapPost.good ?_ ?_
      · rw [HG.out, HN.out]; rfl
      · rw [HG.out, HN.out]
        show (k : Int) = ((at0 + (0 + (k - at0)) : Nat) : Int)
        omega
end Go.Proofs.YtfgiejfjnhgcaaaGreatDoor
