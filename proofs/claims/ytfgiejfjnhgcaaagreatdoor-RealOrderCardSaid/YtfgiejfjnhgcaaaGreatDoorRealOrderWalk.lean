/- The walk of RealOrder. -/
import Derived.Test.YtfgiejfjnhgcaaaGreatDoorAwake02
namespace Go.Proofs.YtfgiejfjnhgcaaaGreatDoor
open Go Go.RowKit SolF

theorem pick3 (x0 x1 x2 : Bool) : (∀ w, (Instr.index 25 (.agg #[.bool x0, .bool x1, .bool x2]) (.int .i64 0)).run Tryz.prog w = .ok (.bool x0) w) ∧
    (∀ w, (Instr.index 25 (.agg #[.bool x0, .bool x1, .bool x2]) (.int .i64 1)).run Tryz.prog w = .ok (.bool x1) w) ∧
    (∀ w, (Instr.index 25 (.agg #[.bool x0, .bool x1, .bool x2]) (.int .i64 2)).run Tryz.prog w = .ok (.bool x2) w) :=
  ⟨fun _ => by kernel_rfl, fun _ => by kernel_rfl, fun _ => by kernel_rfl⟩

/-- a contract of 'is' with its answer known -/
def IsAt (op : Int) (a b : Nat) (v : Bool) : Prop := ∀ w : World, Calls Tryz.prog 16 #[.int .i64 op, .int .u64 (a : Int), .int .u64 (b : Int)] w fun e w' => e = .returned (.bool v) ∧ w = w'
theorem IsAt.at {op : Int} {a b : Nat} {v : Bool} (h : IsAt op a b v) (w : World) : Calls Tryz.prog 16 #[.int .i64 op, .int .u64 (a : Int), .int .u64 (b : Int)] w fun e w' => e = .returned (.bool v) ∧ w = w' := h w
theorem isAt_lt (a b : Nat) (v : Bool) (h : flt a b = v) : IsAt 52 a b v := fun w => h ▸ is_lt a b w
theorem isAt_eq (a b : Nat) (v : Bool) (h : feq a b = v) : IsAt 51 a b v := fun w => h ▸ is_eq a b w
theorem isAt_le (a b : Nat) (v : Bool) (h : fle a b = v) : IsAt 53 a b v := fun w => h ▸ is_le a b w

set_option maxRecDepth 100000 in
set_option maxHeartbeats 4000000 in
theorem order_walk (a b c : Nat) (w : World) (T : Tabs w) (ha : a < 18446744073709551616) (hb : b < 18446744073709551616) (x y z p q : Bool)
    (L1 : IsAt 52 a b x) (L2 : IsAt 52 b a y) (L3 : IsAt 51 a b z) (L4 : IsAt 53 a b (x || z)) (L5 : IsAt 52 (neg b) (neg a) x) (L6 : IsAt 53 b c p) (L7 : IsAt 53 a c q)
    (hlast : (!((x || z) && p) || q) = true)
    (hn : (((canon a : Int) != 9221120237041090560) = true ∧ ((canon b : Int) != 9221120237041090560) = true ∧ (x = true ∧ y = false ∧ z = false ∨ x = false ∧ y = true ∧ z = false ∨ x = false ∧ y = false ∧ z = true)) ∨
      ((((canon a : Int) != 9221120237041090560) = false ∨ ((canon a : Int) != 9221120237041090560) = true ∧ ((canon b : Int) != 9221120237041090560) = false) ∧ x = false ∧ y = false ∧ z = false)) :
    Calls Tryz.prog 3 #[.int .u64 (a : Int), .int .u64 (b : Int), .int .u64 (c : Int)] w fun e w' => e = .returned (.bool true) ∧ Below w.heap.size w w' := by
  rcases hn with ⟨n1, n2, ⟨rfl, rfl, rfl⟩ | ⟨rfl, rfl, rfl⟩ | ⟨rfl, rfl, rfl⟩⟩ | ⟨n1 | ⟨n1, n2⟩, rfl, rfl, rfl⟩ <;> cases p <;> cases q <;> first | (exact absurd hlast (by decide)) | skip
  all_goals
    clear hlast
    have i0 := fun x0 x1 x2 => (pick3 x0 x1 x2).1
    have i1 := fun x0 x1 x2 => (pick3 x0 x1 x2).2.1
    have i2 := fun x0 x1 x2 => (pick3 x0 x1 x2).2.2
    go_enter Tryz.func3, Tryz.ntmps3
    go_wp2_with fail
    refine (awake02 _ T).mono ?_
    rintro e w1 ⟨rfl, hB⟩
    go_wp2_with (first
      | (go_at_call 16; with_reducible refine (IsAt.at L1 _).mono ?_; rintro e w' ⟨rfl, rfl⟩)
      | (go_at_call 16; with_reducible refine (IsAt.at L2 _).mono ?_; rintro e w' ⟨rfl, rfl⟩)
      | (go_at_call 16; with_reducible refine (IsAt.at L3 _).mono ?_; rintro e w' ⟨rfl, rfl⟩)
      | (go_at_call 16; with_reducible refine (IsAt.at L4 _).mono ?_; rintro e w' ⟨rfl, rfl⟩)
      | (go_at_call 16; with_reducible refine (IsAt.at L5 _).mono ?_; rintro e w' ⟨rfl, rfl⟩)
      | (go_at_call 16; with_reducible refine (IsAt.at L6 _).mono ?_; rintro e w' ⟨rfl, rfl⟩)
      | (go_at_call 16; with_reducible refine (IsAt.at L7 _).mono ?_; rintro e w' ⟨rfl, rfl⟩)
      | (go_at_call 17; refine (canon_any _ _).mono ?_; rintro e w' ⟨rfl, rfl⟩)
      | (go_at_call 18; with_reducible refine (neg_any a _ ha).mono ?_; rintro e w' ⟨rfl, rfl⟩)
      | (go_at_call 18; with_reducible refine (neg_any b _ hb).mono ?_; rintro e w' ⟨rfl, rfl⟩))
    refine wp_loop_rounds 4 ?_
    rw [rounds_succ]
    go_wp2_with fail
    rw [rounds_succ]
    go_wp2_with fail
    rw [rounds_succ]
    go_wp2_with fail
    rw [rounds_succ]
    go_wp2_with (first
      | (go_at_call 16; with_reducible refine (IsAt.at L1 _).mono ?_; rintro e w' ⟨rfl, rfl⟩)
      | (go_at_call 16; with_reducible refine (IsAt.at L2 _).mono ?_; rintro e w' ⟨rfl, rfl⟩)
      | (go_at_call 16; with_reducible refine (IsAt.at L3 _).mono ?_; rintro e w' ⟨rfl, rfl⟩)
      | (go_at_call 16; with_reducible refine (IsAt.at L4 _).mono ?_; rintro e w' ⟨rfl, rfl⟩)
      | (go_at_call 16; with_reducible refine (IsAt.at L5 _).mono ?_; rintro e w' ⟨rfl, rfl⟩)
      | (go_at_call 16; with_reducible refine (IsAt.at L6 _).mono ?_; rintro e w' ⟨rfl, rfl⟩)
      | (go_at_call 16; with_reducible refine (IsAt.at L7 _).mono ?_; rintro e w' ⟨rfl, rfl⟩)
      | (go_at_call 17; refine (canon_any _ _).mono ?_; rintro e w' ⟨rfl, rfl⟩)
      | (go_at_call 18; with_reducible refine (neg_any a _ ha).mono ?_; rintro e w' ⟨rfl, rfl⟩)
      | (go_at_call 18; with_reducible refine (neg_any b _ hb).mono ?_; rintro e w' ⟨rfl, rfl⟩))
    go_ret
    exact ⟨rfl, hB⟩
end Go.Proofs.YtfgiejfjnhgcaaaGreatDoor
