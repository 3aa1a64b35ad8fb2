/- The walk of the reference's Word. -/
import Derived.Test.YtfgiejfjnhgcaaaGreatDoorLexTokenAny
import Derived.Test.YtfgiejfjnhgcaaaGreatDoorLexLaws
import Derived.Deep.LoopGhost
namespace Go.Proofs.YtfgiejfjnhgcaaaGreatDoor
open Go Go.RowKit SolF Go.Shelf
def wl : List (List UInt8) := [[105, 110, 116], [100, 111, 117, 98, 108, 101], [118, 111, 105, 100], [115, 116, 97, 116, 105, 99], [101, 120, 116, 101, 114, 110], [105, 102], [101, 108, 115, 101], [119, 104, 105, 108, 101], [114, 101, 116, 117, 114, 110], [98, 114, 101, 97, 107], [99, 111, 110, 116, 105, 110, 117, 101]]
theorem isWord_wl (l : List UInt8) : isWord l = wl.any (· == l) := by
  unfold isWord wl
  simp only [List.any_cons, List.any_nil, Bool.or_false, Bool.or_assoc]
  have e : ∀ a : List UInt8, (a == l) = (l == a) := fun a => by rw [Bool.eq_iff_iff, beq_iff_eq, beq_iff_eq]; exact eq_comm
  simp only [e]
set_option maxRecDepth 100000 in
set_option maxHeartbeats 1000000 in
theorem refWord_any (s : ByteArray) (w : World) : Calls Tryz.prog 36 #[.string s] w fun e w' => e = .returned (.bool (isWord s.data.toList)) ∧ Same w w' := by
  have HW := Lib.hid (isWord_wl s.data.toList)
  have hB : (w.alloc (.cells #[.string ⟨#[105, 110, 116]⟩, .string ⟨#[100, 111, 117, 98, 108, 101]⟩, .string ⟨#[118, 111, 105, 100]⟩, .string ⟨#[115, 116, 97, 116, 105, 99]⟩, .string ⟨#[101, 120, 116, 101, 114, 110]⟩, .string ⟨#[105, 102]⟩, .string ⟨#[101, 108, 115, 101]⟩, .string ⟨#[119, 104, 105, 108, 101]⟩, .string ⟨#[114, 101, 116, 117, 114, 110]⟩, .string ⟨#[98, 114, 101, 97, 107]⟩, .string ⟨#[99, 111, 110, 116, 105, 110, 117, 101]⟩] 98)).heap[w.heap.size]? = some (.cells #[.string ⟨#[105, 110, 116]⟩, .string ⟨#[100, 111, 117, 98, 108, 101]⟩, .string ⟨#[118, 111, 105, 100]⟩, .string ⟨#[115, 116, 97, 116, 105, 99]⟩, .string ⟨#[101, 120, 116, 101, 114, 110]⟩, .string ⟨#[105, 102]⟩, .string ⟨#[101, 108, 115, 101]⟩, .string ⟨#[119, 104, 105, 108, 101]⟩, .string ⟨#[114, 101, 116, 117, 114, 110]⟩, .string ⟨#[98, 114, 101, 97, 107]⟩, .string ⟨#[99, 111, 110, 116, 105, 110, 117, 101]⟩] 98 (0, 0)) := heap_alloc_new w _
  have hcell : ∀ i, i < 11 → (w.alloc (.cells #[.string ⟨#[105, 110, 116]⟩, .string ⟨#[100, 111, 117, 98, 108, 101]⟩, .string ⟨#[118, 111, 105, 100]⟩, .string ⟨#[115, 116, 97, 116, 105, 99]⟩, .string ⟨#[101, 120, 116, 101, 114, 110]⟩, .string ⟨#[105, 102]⟩, .string ⟨#[101, 108, 115, 101]⟩, .string ⟨#[119, 104, 105, 108, 101]⟩, .string ⟨#[114, 101, 116, 117, 114, 110]⟩, .string ⟨#[98, 114, 101, 97, 107]⟩, .string ⟨#[99, 111, 110, 116, 105, 110, 117, 101]⟩] 98)).cell? ⟨w.heap.size, i, none⟩ = some (.string ⟨(wl.getD i []).toArray⟩) := by
    intro i hi
    rw [cell_of_row _ _ _ _ _ _ hB]
    have h : ∀ i, i < 11 → (#[.string ⟨#[105, 110, 116]⟩, .string ⟨#[100, 111, 117, 98, 108, 101]⟩, .string ⟨#[118, 111, 105, 100]⟩, .string ⟨#[115, 116, 97, 116, 105, 99]⟩, .string ⟨#[101, 120, 116, 101, 114, 110]⟩, .string ⟨#[105, 102]⟩, .string ⟨#[101, 108, 115, 101]⟩, .string ⟨#[119, 104, 105, 108, 101]⟩, .string ⟨#[114, 101, 116, 117, 114, 110]⟩, .string ⟨#[98, 114, 101, 97, 107]⟩, .string ⟨#[99, 111, 110, 116, 105, 110, 117, 101]⟩] : Array Value)[i]? = some (.string ⟨(wl.getD i []).toArray⟩) := by
      intro i hi
      match i, hi with
      | 0, _ | 1, _ | 2, _ | 3, _ | 4, _ | 5, _ | 6, _ | 7, _ | 8, _ | 9, _ | 10, _ => rfl
    exact h i hi
  have HC := Lib.hid hcell
  clear hcell hB
  go_enter Tryz.func36, Tryz.ntmps36
  go_wp2_with fail
  obtain ⟨W1, hW1⟩ : ∃ W1, W1 = w.alloc (.cells #[.string ⟨#[105, 110, 116]⟩, .string ⟨#[100, 111, 117, 98, 108, 101]⟩, .string ⟨#[118, 111, 105, 100]⟩, .string ⟨#[115, 116, 97, 116, 105, 99]⟩, .string ⟨#[101, 120, 116, 101, 114, 110]⟩, .string ⟨#[105, 102]⟩, .string ⟨#[101, 108, 115, 101]⟩, .string ⟨#[119, 104, 105, 108, 101]⟩, .string ⟨#[114, 101, 116, 117, 114, 110]⟩, .string ⟨#[98, 114, 101, 97, 107]⟩, .string ⟨#[99, 111, 110, 116, 105, 110, 117, 101]⟩] 98) := ⟨_, rfl⟩
  have hS1 : Same w W1 := by rw [hW1]; exact Same.new _ _
  rw [← hW1] at HC ⊢
  clear hW1
  go_loopg [2, 4, 6] 11 (fun g v2 v4 v6 wr => ∃ i : Nat, i + g = 11 ∧ v6 = .int .i64 (i : Int) ∧ v2 = .bool false ∧ Hid ((wl.take i).any (· == s.data.toList) = false) ∧ W1 = wr)
  case atStart => exact ⟨0, by omega, rfl, rfl, rfl, rfl⟩
  case round =>
    obtain ⟨i, hi, rfl, rfl, H, rfl⟩ := hrel
    cases gk with
    | zero =>
      obtain rfl : i = 11 := by omega
      have HB := Lib.hid (show isWord s.data.toList = false by rw [HW.out]; exact H.out)
      go_wp2
      go_ret
      exact ⟨ret_bool HB.out.symm, hS1⟩
    | succ g =>
      have hi11 : i < 11 := by omega
      have i1 : (i : Int) < 11 := by omega
      have c0 := HC.out i hi11
      have HN := Lib.hid (show (wl.take (i + 1)).any (· == s.data.toList) = (wl.getD i [] == s.data.toList) by
        rw [List.take_succ_eq_append_getElem (show i < wl.length from hi11), List.any_append, H.out, List.getD_eq_getElem?_getD, List.getElem?_eq_getElem (show i < wl.length from hi11)]
        simp)
      have HI := Lib.hid (show (wl.getD i [] == s.data.toList) = true → isWord s.data.toList = true by
        intro h
        rw [HW.out, List.any_eq_true]
        exact ⟨_, List.getElem_mem (show i < wl.length from hi11), by rw [List.getD_eq_getElem?_getD, List.getElem?_eq_getElem (show i < wl.length from hi11)] at h; exact h⟩)
      generalize wl.getD i [] = x at *
      cases hx : (x == s.data.toList) with
      | true =>
        rw [← Lib.toList_data] at hx
        have HB := Lib.hid (HI.out (by rw [← Lib.toList_data]; exact hx))
        clear HI HN
        go_wp2
        go_ret
        exact ⟨ret_bool HB.out.symm, hS1⟩
      | false =>
        rw [hx] at HN
        rw [← Lib.toList_data] at hx
        clear HI
        go_wp2
        go_roundg g
        case measure => omega
        case rel => exact ⟨i + 1, by omega, by go_num, rfl, HN.out, rfl⟩
end Go.Proofs.YtfgiejfjnhgcaaaGreatDoor
