/- The walk of LexMany. -/
import Derived.Test.YtfgiejfjnhgcaaaGreatDoorAwake10
import Derived.Deep.OwnRows
import Derived.Test.YtfgiejfjnhgcaaaGreatDoorLexLaws
namespace Go.Proofs.YtfgiejfjnhgcaaaGreatDoor
open Go Go.RowKit SolF Go.Shelf
theorem byte_info : (Tryz.prog.info? 5).map (fun i => (i.zero, i.size, i.bytes)) = some (some (.int .u8 0), 1, 1) := by kernel_rfl
/-- the row behind k rounds -/
def manyV (N k j : Nat) : Value := .int .u8 (if j < k then (if j < N then 59 else 32) else 0)
theorem manyV_end (N B j : Nat) (hj : j < (manyL N B).length) (hj' : j < N + B) : manyV N (N + B) j = .int .u8 (((manyL N B)[j]).toNat : Int) := by
  unfold manyV
  rw [if_pos hj']
  have h : (manyL N B)[j] = if j < N then 59 else 32 := by
    have h2 : (manyL N B)[j]? = some (if j < N then 59 else 32) := by
      unfold manyL
      rw [List.getElem?_append, List.length_replicate]
      split
      · rw [List.getElem?_replicate, if_pos ‹_›]
      · rw [List.getElem?_replicate, if_pos (by omega)]
    rw [List.getElem?_eq_getElem hj] at h2
    exact Option.some.inj h2
  rw [h]
  split <;> rfl
theorem many_nodot (N B : Nat) : ∀ c ∈ manyL N B, c ≠ 46 := by
  intro c hc
  unfold manyL at hc
  rw [List.mem_append, List.mem_replicate, List.mem_replicate] at hc
  rcases hc with ⟨_, rfl⟩ | ⟨_, rfl⟩ <;> decide
set_option maxRecDepth 100000 in
set_option maxHeartbeats 4000000 in
theorem many_walk (n b : Int) (w : World) (h : Env w) : Calls Tryz.prog 11 #[.int .i64 n, .int .i64 b] w fun e w' => e = .returned (.bool true) ∧ Same w w' := by
  have HE := Lib.hid h
  clear h
  obtain ⟨u, hu⟩ : ∃ u : Nat, IntKind.u64.wrap n = (u : Int) := ⟨(IntKind.u64.wrap n).toNat, by rw [IntKind.wrap_u64]; omega⟩
  obtain ⟨v, hv⟩ : ∃ v : Nat, IntKind.u64.wrap b = (v : Int) := ⟨(IntKind.u64.wrap b).toNat, by rw [IntKind.wrap_u64]; omega⟩
  obtain ⟨N, hN⟩ : ∃ N : Nat, (u : Int) % 2510 = (N : Int) := ⟨u % 2510, by omega⟩
  obtain ⟨B, hB⟩ : ∃ B : Nat, (v : Int) % 8200 = (B : Int) := ⟨v % 8200, by omega⟩
  have hN1 : N < 2510 := by omega
  have hB1 : B < 8200 := by omega
  have hmk := run_make_row' (P := Tryz.prog) 50 5 (.int .u8 0) 1 Tryz.underlying50 byte_info rfl .i64 .i64 (N + B) (by omega) (by omega)
  rw [show ((N + B : Nat) : Int) = (N : Int) + (B : Int) from by omega] at hmk
  go_enter Tryz.func11, Tryz.ntmps11
  go_wp2_with fail
  refine (awake10 _ HE.out).mono ?_
  rintro e w1 ⟨rfl, hS1⟩
  go_wp2_with fail
  clear hN hB hu hv hmk
  go_loopg [6, 26] (N + B) (fun g v6 v26 wr => ∃ k : Nat, k + g = N + B ∧ v26 = .int .i64 (k : Int) ∧ wr.rowIs w1.heap.size 5 (N + B) (manyV N k) ∧ Same w1 wr)
  case atStart => exact ⟨0, by omega, rfl, World.rowIs_made _ _ _ _, Same.new _ _⟩
  case round =>
    obtain ⟨k, hk, rfl, hrow, hS⟩ := hrel
    cases gk with
    | zero =>
      obtain rfl : k = N + B := by omega
      have hconv := run_convert_bytes_back (P := Tryz.prog) wr 50 9 5 ⟨w1.heap.size, 0, none⟩ (N + B) (manyL N B) Tryz.underlying50 Tryz.underlying5 Tryz.underlying9 (fun j hj => by
        have hj' : j < N + B := by rw [many_len] at hj; exact hj
        rw [Addr.add_lit, Nat.zero_add, hrow.cell hj', manyV_end N B j hj hj'])
      rw [many_len] at hconv
      have i1 : ¬ ((N : Int) + (B : Int)) < (N : Int) + (B : Int) := by omega
      have HS := Lib.hid (hS1.trans hS)
      have HL := Lib.hid (lex_all Env ⟨(manyL N B).toArray⟩ wr (HE.out.same (hS1.trans hS)).lex (fun w' h => (HE.out.same (hS1.trans hS)).same h) (fun a _ t _ hd => absurd hd (at0_dot (many_nodot N B) a _)))
      have HM := Lib.hid (lex_many formL N B)
      clear hrow hS hS1
      go_wp2_with fail
      refine HL.out.mono ?_
      by_cases h1 : 8192 < N + B
      · have j1 : (8192 : Int) < (N : Int) + (B : Int) := by omega
        have hF := HM.out.1 h1
        clear h1
        intro e w2 hp
        rw [hF] at hp
        obtain ⟨rfl, hS2⟩ := hp
        have HS2 := Lib.hid (HS.out.trans hS2)
        clear hF hS2 HL HM
        go_wp2
        go_ret
        exact ⟨rfl, HS2.out⟩
      by_cases h2 : 2500 < N
      · have j1 : ¬ (8192 : Int) < (N : Int) + (B : Int) := by omega
        have j2 : (2500 : Int) < (N : Int) := by omega
        have hF := HM.out.2.1 (by omega) h2
        clear h1 h2
        intro e w2 hp
        rw [hF] at hp
        obtain ⟨rfl, hS2⟩ := hp
        have HS2 := Lib.hid (HS.out.trans hS2)
        clear hF hS2 HL HM
        go_wp2
        go_ret
        exact ⟨rfl, HS2.out⟩
      · have j1 : ¬ (8192 : Int) < (N : Int) + (B : Int) := by omega
        have j2 : ¬ (2500 : Int) < (N : Int) := by omega
        obtain ⟨ts, hF, hlen⟩ := HM.out.2.2 (by omega) (by omega)
        clear h1 h2
        intro e w2 hp
        rw [hF] at hp
        obtain ⟨⟨vv, rfl, ho⟩, hS2⟩ := hp
        obtain ⟨A, c, rfl⟩ := own_shape ho
        rw [hlen]
        have HS2 := Lib.hid (HS.out.trans hS2)
        clear hF hS2 HL HM ho hlen
        go_wp2
        go_ret
        exact ⟨rfl, HS2.out⟩
    | succ g =>
      have hlt : k < N + B := by omega
      have c0 := hrow.cell hlt
      have f0 := hrow.frozen k
      have HR := Lib.hid hrow
      have i1 : (k : Int) < (N : Int) + (B : Int) := by omega
      clear hrow
      by_cases hkn : k < N
      · have j1 : (k : Int) < (N : Int) := by omega
        go_wp2
        go_roundg g
        case measure => omega
        case rel =>
          refine ⟨k + 1, by omega, by go_num, ((HR.out.set _ _).set _ _).congr (fun j hj => ?_), Below.setCell (Below.setCell hS (Nat.le_refl _) _) (Nat.le_refl _) _⟩
          unfold manyV
          by_cases e : j = k
          · subst e; rw [if_pos rfl, if_pos (by omega), if_pos hkn]
          · rw [if_neg e, if_neg e]
            by_cases e2 : j < k
            · rw [if_pos e2, if_pos (show j < k + 1 by omega)]
            · rw [if_neg e2, if_neg (by omega)]
      · have j1 : ¬ (k : Int) < (N : Int) := by omega
        go_wp2
        go_roundg g
        case measure => omega
        case rel =>
          refine ⟨k + 1, by omega, by go_num, (HR.out.set _ _).congr (fun j hj => ?_), Below.setCell hS (Nat.le_refl _) _⟩
          unfold manyV
          by_cases e : j = k
          · subst e; rw [if_pos rfl, if_pos (by omega), if_neg hkn]
          · rw [if_neg e]
            by_cases e2 : j < k
            · rw [if_pos e2, if_pos (show j < k + 1 by omega)]
            · rw [if_neg e2, if_neg (show ¬ j < k + 1 by omega)]
end Go.Proofs.YtfgiejfjnhgcaaaGreatDoor
