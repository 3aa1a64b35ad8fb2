/- The walk of LexNumbers. -/
import Derived.Test.YtfgiejfjnhgcaaaGreatDoorAwake10
import Derived.Deep.OwnRows
import Derived.Test.YtfgiejfjnhgcaaaGreatDoorLexLaws
namespace Go.Proofs.YtfgiejfjnhgcaaaGreatDoor
open Go Go.RowKit SolF Go.Shelf
theorem conv_one (w : World) (c : UInt8) (x : Int) (hx : x = (c.toNat : Int)) : (convert 50 9 (.slice (some ⟨w.heap.size, 0, none⟩) 1 1)).run Tryz.prog (w.alloc (.cells #[.int .u8 x] 5)) = .ok (.string ⟨#[c]⟩) (w.alloc (.cells #[.int .u8 x] 5)) := by
  refine run_convert_bytes_back (w.alloc (.cells #[.int .u8 x] 5)) 50 9 5 ⟨w.heap.size, 0, none⟩ 1 [c] Tryz.underlying50 Tryz.underlying5 Tryz.underlying9 (fun j hj => ?_)
  obtain rfl : j = 0 := by simp at hj; omega
  rw [Addr.add_lit, Nat.zero_add, cell_of_row _ _ _ _ _ _ (heap_alloc_new w _), hx]; rfl
theorem own_some {w : World} {base : Nat} {e : TypeId} {size : Nat} {v : Value} {n : Nat} {xs : List Value} (h : w.ownsRow base e size v n xs) (hn : 0 < n) : ∃ g cap, v = .slice (some ⟨g, 0, none⟩) n cap := by
  rcases h.2 with ⟨_, h0⟩ | ⟨g, cap, cur, hv, _⟩
  · omega
  · exact ⟨g, cap, hv⟩
set_option maxRecDepth 100000 in
set_option maxHeartbeats 4000000 in
theorem numbers_walk (n : Int) (w : World) (h : Env w) : Calls Tryz.prog 12 #[.int .i64 n] w fun e w' => e = .returned (.bool true) ∧ Same w w' := by
  have HE := Lib.hid h
  clear h
  obtain ⟨u, hu⟩ : ∃ u : Nat, IntKind.u64.wrap n = (u : Int) := ⟨(IntKind.u64.wrap n).toNat, by rw [IntKind.wrap_u64]; omega⟩
  obtain ⟨k, hk⟩ : ∃ k : Nat, (u : Int) % 17179869184 = (k : Int) := ⟨u % 17179869184, by omega⟩
  have hk1 : k < 17179869184 := by omega
  go_enter Tryz.func12, Tryz.ntmps12
  go_wp2_with fail
  refine (awake10 _ HE.out).mono ?_
  rintro e w1 ⟨rfl, hS1⟩
  go_wp2_with fail
  clear hu hk
  go_loopg [4, 5] 12 (fun g v4 v5 wr => ∃ (j x : Nat) (s : ByteArray), j + g = 12 ∧ v4 = .string s ∧ v5 = .int .i64 (x : Int) ∧ Hid (DecInv k j x s.data.toList ∧ (1 < j → 10 ^ (j - 1) ≤ k)) ∧ Same w1 wr)
  case atStart => exact ⟨0, k, ⟨#[]⟩, by omega, rfl, rfl, ⟨DecInv.start k, fun h => by omega⟩, Same.refl _⟩
  case round =>
    obtain ⟨j, x, s, hj, rfl, rfl, H, hS⟩ := hrel
    have hx : x < 17179869184 := by rw [H.out.1.x]; exact Nat.lt_of_le_of_lt (Nat.div_le_self _ _) hk1
    have hsz : s.size = j := by have := H.out.1.len; simpa using this
    have hsz2 : s.size ≤ 12 := by omega
    have HSZ := Lib.hid hsz
    clear hsz
    have hgo : (0 < x ∨ j = 0) → j ≤ 10 := by
      intro h
      rcases h with h | h
      · have h1 := H.out.1.x
        rcases Nat.lt_or_ge 10 j with h2 | h2
        · exfalso
          have h3 : k / 10 ^ j ≤ k / 10 ^ 11 := Nat.div_le_div_left (Nat.pow_le_pow_right (by decide) h2) (by decide)
          have h4 : k / 10 ^ 11 = 0 := Nat.div_eq_of_lt (by omega)
          omega
        · exact h2
      · omega
    have hge : 0 < x → 10 ^ j ≤ k := by
      intro h
      have h1 := H.out.1.x
      rcases Nat.lt_or_ge k (10 ^ j) with h2 | h2
      · rw [Nat.div_eq_of_lt h2] at h1; omega
      · exact h2
    have HGO := Lib.hid hgo
    have HGE := Lib.hid hge
    have HC := Lib.hid (conv_one wr (UInt8.ofNat (48 + x % 10)) (48 + (x : Int) % 10) (by rw [UInt8.toNat_ofNat']; omega))
    clear hgo hge
    by_cases hx0 : 0 < x
    · have i1 : (0 : Int) < (x : Int) := by omega
      have hc := HC.out
      obtain ⟨c, hcc⟩ : ∃ c, c = UInt8.ofNat (48 + x % 10) := ⟨_, rfl⟩
      rw [← hcc] at hc
      have HCC := Lib.hid hcc
      clear hcc
      go_wp2
      go_roundg (11 - j)
      case measure => have := HGO.out (.inl hx0); omega
      case rel =>
        refine ⟨j + 1, x / 10, ⟨#[c]⟩ ++ s, by have := HGO.out (.inl hx0); omega, rfl, by go_num, ⟨?_, fun _ => HGE.out hx0⟩, Same.trans hS (Same.new _ _)⟩
        rw [show (ByteArray.mk #[c] ++ s).data.toList = c :: s.data.toList by simp, HCC.out]
        exact H.out.1.next
    · obtain rfl : x = 0 := by omega
      by_cases hj0 : j = 0
      · subst hj0
        obtain rfl : s = ⟨#[]⟩ := by
          have := H.out.1.len
          rw [bytes_eq s [] (List.eq_nil_of_length_eq_zero this)]
        have hc := HC.out
        obtain ⟨c, hcc⟩ : ∃ c, c = UInt8.ofNat (48 + 0 % 10) := ⟨_, rfl⟩
        rw [← hcc] at hc
        rw [show (48 + ((0 : Nat) : Int) % 10) = 48 from rfl] at hc
        have HCC := Lib.hid hcc
        clear hcc
        go_wp2
        go_roundg 11
        case measure => omega
        case rel =>
          refine ⟨1, 0, ⟨#[c]⟩, by omega, rfl, rfl, ⟨?_, fun h => by omega⟩, Same.trans hS (Same.new _ _)⟩
          rw [show (ByteArray.mk #[c]).data.toList = [c] from rfl, HCC.out]
          exact H.out.1.next
      · have hne : s.toList.isEmpty = false := by
          rw [Lib.toList_data]
          cases hl : s.data.toList with
          | nil => have := H.out.1.len; rw [hl] at this; simp at this; omega
          | cons c r => rfl
        have hkk : k < 10 ^ j := by
          have := H.out.1.x
          rcases Nat.lt_or_ge k (10 ^ j) with h2 | h2
          · exact h2
          · have h3 := Nat.div_pos h2 (Nat.pow_pos (by decide)); omega
        have hval : valFrom 0 s.data.toList = k := by rw [H.out.1.val, Nat.mod_eq_of_lt hkk]
        have hdig := H.out.1.dig
        have hlen := H.out.1.len
        have hj10 : k ≤ 4294967295 → j ≤ 10 := by
          intro h
          rcases Nat.lt_or_ge 1 j with h1 | h1
          · have h2 := H.out.2 h1
            rcases Nat.lt_or_ge 10 j with h3 | h3
            · have h4 : 10 ^ 10 ≤ 10 ^ (j - 1) := Nat.pow_le_pow_right (by decide) (by omega)
              omega
            · exact h3
          · omega
        have hlx := lex_digits formL s.data.toList (by intro h; rw [h] at hlen; simp at hlen; omega) hdig (by omega)
        rw [hval, hlen] at hlx
        have HS := Lib.hid (Same.trans hS1 hS)
        have HLX := Lib.hid hlx
        have HJ := Lib.hid hj10
        have HL := Lib.hid (lex_all Env s wr (HE.out.same (Same.trans hS1 hS)).lex (fun w' h => (HE.out.same (Same.trans hS1 hS)).same h) (fun a _ t _ hd => absurd hd (at0_dot (fun c hc h => by have := hdig c hc; subst h; revert this; decide) a _)))
        clear hkk hval hdig hlen hj10 hlx hS hS1 HGO HGE HC
        go_wp2_with fail
        refine HL.out.mono ?_
        clear HL
        by_cases hbig : 4294967296 ≤ k
        · have j1 : (4294967296 : Int) ≤ (k : Int) := by omega
          have hF := HLX.out.1 (by omega)
          intro e w2 hp
          rw [hF] at hp
          obtain ⟨rfl, hS2⟩ := hp
          have HS2 := Lib.hid (HS.out.trans hS2)
          clear hF hS2
          go_wp2
          go_ret
          exact ⟨rfl, HS2.out⟩
        · have j1 : decide ((4294967296 : Int) ≤ (k : Int)) = false := decide_eq_false (by omega)
          have hF := HLX.out.2 (by omega) (HJ.out (by omega))
          intro e w2 hp
          rw [hF] at hp
          obtain ⟨⟨v, rfl, ho⟩, hS2⟩ := hp
          obtain ⟨g, cap, rfl⟩ : ∃ g cap, v = .slice (some ⟨g, 0, none⟩) 2 cap := own_some ho (by simp)
          have d1 := ho.cellAt 0 (by simp)
          have d2 := ho.cellAt 1 (by simp)
          have d3 := ho.cellAt 2 (by simp)
          simp [tokCells] at d1 d2 d3
          rw [show (ByteArray.mk s.data) = s from rfl] at d2
          have HS2 := Lib.hid (HS.out.trans hS2)
          clear hF hS2 ho hbig hk1
          go_wp2
          go_ret
          exact ⟨rfl, HS2.out⟩
end Go.Proofs.YtfgiejfjnhgcaaaGreatDoor
