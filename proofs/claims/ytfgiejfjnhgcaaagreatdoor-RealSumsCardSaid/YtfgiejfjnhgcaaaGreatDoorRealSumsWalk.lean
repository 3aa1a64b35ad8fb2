/- The walk of RealSums. -/
import Derived.Test.YtfgiejfjnhgcaaaGreatDoorAwake02
import Derived.Test.YtfgiejfjnhgcaaaGreatDoorOfInt
import Derived.Deep.QuietTactic
import Derived.BigQuiet
namespace Go.Proofs.YtfgiejfjnhgcaaaGreatDoor
open Go Go.RowKit SolF

/-- nothing that was there has turned -/
def Kept (w w' : World) : Prop := Below w.heap.size w w'
theorem Kept.refl (w : World) : Kept w w := Below.refl _ _
theorem Kept.trans {a b c : World} (h : Kept a b) (k : Kept b c) : Kept a c := Below.trans h (Below.mono k (Below.size h))
theorem Drawn.kept {w w' : World} (h : Drawn w w') : Kept w w' := by
  obtain ⟨n, rfl⟩ := h
  exact ⟨rfl, rfl, rfl, Nat.le_refl _, fun _ _ => rfl⟩

/-- a contract of 'do' with its answer known -/
def DoAt (op : Int) (a b r : Nat) : Prop := ∀ w : World, Calls Tryz.prog 19 #[.int .i64 op, .int .u64 (a : Int), .int .u64 (b : Int)] w fun e w' => e = .returned (.int .u64 (r : Int)) ∧ Kept w w'
theorem DoAt.at {op : Int} {a b r : Nat} (h : DoAt op a b r) (w : World) : Calls Tryz.prog 19 #[.int .i64 op, .int .u64 (a : Int), .int .u64 (b : Int)] w fun e w' => e = .returned (.int .u64 (r : Int)) ∧ Kept w w' := h w
theorem doAt_add (a b r : Nat) (h : fadd a b = r) : DoAt 45 a b r := fun w => h ▸ (law_add a b w).mono fun _ _ h => ⟨h.1, h.2.kept⟩
theorem doAt_sub (a b r : Nat) (h : fsub a b = r) : DoAt 46 a b r := fun w => h ▸ (law_sub a b w).mono fun _ _ h => ⟨h.1, h.2.kept⟩
theorem doAt_mul (a b r : Nat) (h : fmul a b = r) : DoAt 47 a b r := fun w => h ▸ (law_mul a b w).mono fun _ _ h => ⟨h.1, h.2.kept⟩
def NegAt (a r : Nat) : Prop := ∀ w : World, Calls Tryz.prog 18 #[.int .u64 (a : Int)] w fun e w' => e = .returned (.int .u64 (r : Int)) ∧ w = w'
theorem NegAt.at {a r : Nat} (h : NegAt a r) (w : World) : Calls Tryz.prog 18 #[.int .u64 (a : Int)] w fun e w' => e = .returned (.int .u64 (r : Int)) ∧ w = w' := h w
theorem negAt (a r : Nat) (ha : a < 18446744073709551616) (h : neg a = r) : NegAt a r := fun w => h ▸ neg_any a w ha
def OfAt (a r : Nat) : Prop := ∀ w : World, Calls Tryz.prog 20 #[.int .u32 (a : Int)] w fun e w' => e = .returned (.int .u64 (r : Int)) ∧ w = w'
theorem OfAt.at {a r : Nat} (h : OfAt a r) (w : World) : Calls Tryz.prog 20 #[.int .u32 (a : Int)] w fun e w' => e = .returned (.int .u64 (r : Int)) ∧ w = w' := h w
def IsAt (op : Int) (a b : Nat) (v : Bool) : Prop := ∀ w : World, Calls Tryz.prog 16 #[.int .i64 op, .int .u64 (a : Int), .int .u64 (b : Int)] w fun e w' => e = .returned (.bool v) ∧ w = w'
theorem IsAt.at {op : Int} {a b : Nat} {v : Bool} (h : IsAt op a b v) (w : World) : Calls Tryz.prog 16 #[.int .i64 op, .int .u64 (a : Int), .int .u64 (b : Int)] w fun e w' => e = .returned (.bool v) ∧ w = w' := h w
theorem isAt_lt (a b : Nat) (v : Bool) (h : flt a b = v) : IsAt 52 a b v := fun w => h ▸ is_lt a b w

theorem pick2 (x0 x1 : Int) : (∀ w, (Instr.index 29 (.agg #[.int .u32 x0, .int .u32 x1]) (.int .i64 0)).run Tryz.prog w = .ok (.int .u32 x0) w) ∧
    (∀ w, (Instr.index 29 (.agg #[.int .u32 x0, .int .u32 x1]) (.int .i64 1)).run Tryz.prog w = .ok (.int .u32 x1) w) :=
  ⟨fun _ => by kernel_rfl, fun _ => by kernel_rfl⟩

set_option maxRecDepth 100000 in
set_option maxHeartbeats 4000000 in
theorem sums_walk (a b v u : Nat) (w : World) (T : Tabs w) (hv : v < 4294967296) (hu : u < 4294967296) (nb na r1 r2 r3 r4 ov ou o : Nat) (lt : Bool)
    (D1 : DoAt 45 a b r1) (D2 : DoAt 45 b a r1) (D3 : DoAt 47 a b r2) (D4 : DoAt 47 b a r2) (D5 : DoAt 46 a b r3) (N1 : NegAt b nb) (D6 : DoAt 45 a nb r3) (N2 : NegAt a na) (D7 : DoAt 47 na b r4) (N3 : NegAt r2 r4)
    (O1 : OfAt (v % 1048576) ov) (O2 : OfAt (u % 1048576) ou) (O3 : OfAt (v % 1048576 + u % 1048576) o) (D8 : DoAt 45 ov ou o) (I1 : IsAt 52 ov ou lt)
    (hlt : decide ((v : Int) % 1048576 < (u : Int) % 1048576) = lt) :
    Calls Tryz.prog 4 #[.int .u64 (a : Int), .int .u64 (b : Int), .agg #[.int .u32 (v : Int), .int .u32 (u : Int)]] w fun e w' => e = .returned (.bool true) ∧ Kept w w' := by
  have i0 := (pick2 v u).1
  have i1 := (pick2 v u).2
  have HLT := Lib.hid hlt
  clear hlt
  go_enter Tryz.func4, Tryz.ntmps4
  go_wp2_with fail
  go_quiet (fail)
  have K0 : Kept w ((w.alloc (Obj.cells #[Value.int IntKind.u32 ↑v, Value.int IntKind.u32 ↑u] 29)).drewN nq) :=
    Kept.trans (Below.alloc (Below.refl _ _) (Nat.le_refl _) _) (Drawn.kept ⟨nq, rfl⟩)
  have T0 := T.below K0
  clear T
  go_wp2_with fail
  refine (awake02 _ T0).mono ?_
  rintro e wa ⟨rfl, ka⟩
  go_wp2_with fail
  refine (D1.at _).mono ?_
  rintro e w1 ⟨rfl, k1⟩
  go_wp2_with fail
  refine (D2.at _).mono ?_
  rintro e w2 ⟨rfl, k2⟩
  go_wp2_with fail
  refine (D3.at _).mono ?_
  rintro e w3 ⟨rfl, k3⟩
  go_wp2_with fail
  refine (D4.at _).mono ?_
  rintro e w4 ⟨rfl, k4⟩
  go_wp2_with fail
  refine (D5.at _).mono ?_
  rintro e w5 ⟨rfl, k5⟩
  go_wp2_with fail
  refine (N1.at _).mono ?_
  rintro e w' ⟨rfl, rfl⟩
  go_wp2_with fail
  refine (D6.at _).mono ?_
  rintro e w6 ⟨rfl, k6⟩
  go_wp2_with fail
  refine (N2.at _).mono ?_
  rintro e w' ⟨rfl, rfl⟩
  go_wp2_with fail
  refine (D7.at _).mono ?_
  rintro e w7 ⟨rfl, k7⟩
  go_wp2_with fail
  refine (D3.at _).mono ?_
  rintro e w8 ⟨rfl, k8⟩
  go_wp2_with fail
  refine (N3.at _).mono ?_
  rintro e w' ⟨rfl, rfl⟩
  go_wp2_with fail
  refine (O1.at _).mono ?_
  rintro e w' ⟨rfl, rfl⟩
  go_wp2_with fail
  refine (O2.at _).mono ?_
  rintro e w' ⟨rfl, rfl⟩
  go_wp2_with fail
  refine (D8.at _).mono ?_
  rintro e w9 ⟨rfl, k9⟩
  go_wp2_with fail
  refine (O3.at _).mono ?_
  rintro e w' ⟨rfl, rfl⟩
  go_wp2_with fail
  refine (O1.at _).mono ?_
  rintro e w' ⟨rfl, rfl⟩
  go_wp2_with fail
  refine (O2.at _).mono ?_
  rintro e w' ⟨rfl, rfl⟩
  go_wp2_with fail
  refine (I1.at _).mono ?_
  rintro e w' ⟨rfl, rfl⟩
  have hlt' := HLT.out
  cases lt
  all_goals
    go_wp2
    go_ret
    refine ⟨congrArg (fun b => Ending.returned (.bool b)) (by first | (rw [hlt']; rfl) | rw [hlt'] | rfl), ?_⟩
    exact ((((((((((K0.trans ka).trans k1).trans k2).trans k3).trans k4).trans k5).trans k6).trans k7).trans k8).trans k9)
end Go.Proofs.YtfgiejfjnhgcaaaGreatDoor
