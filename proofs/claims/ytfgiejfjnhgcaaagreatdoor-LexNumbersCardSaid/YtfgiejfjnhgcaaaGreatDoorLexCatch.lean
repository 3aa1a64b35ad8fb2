/- The two contracts of the closure that lex.Lex defers. -/
import Derived.Test.YtfgiejfjnhgcaaaGreatDoorLexSign
import Derived.Test.YtfgiejfjnhgcaaaGreatDoorRecover
namespace Go.Proofs.YtfgiejfjnhgcaaaGreatDoor
open Go Go.RowKit SolF Go.Shelf

set_option maxRecDepth 100000 in
theorem catch_idle (p0 p1 p2 : Addr) (w : World) :
    CallsD Tryz.prog 62 #[.pointer (some p0), .pointer (some p1), .pointer (some p2)] .returning w fun e u' w' => u' = .returning ∧ e = .returned (.tuple #[]) ∧ Same w w' := by
  have ht : ∀ w, (Instr.typeAssert .nilIface 20 90 true).run Tryz.prog w = .ok (.tuple #[.agg #[.int .i64 0, .int .i64 0], .bool false]) w := fun _ => by kernel_rfl
  refine callsD_recover (u' := .returning) (v := .nilIface) Tryz.func62 rfl rfl (fun a w => rfl) (fun c cs hc => by obtain ⟨⟩ := c; subst hc; rfl) ?_
  simp only [Tryz.ntmps62, List.size_toArray, List.length_cons, List.length_nil, Nat.reduceAdd, Nat.reduceSub, Array.replicate_succ, Array.replicate_zero, List.push_toArray, List.append_toArray, List.nil_append, List.cons_append]
  go_wp2
  refine bodyPost_end (results_none rfl _ _ _) rfl ⟨trivial, rfl, ?_⟩
  show Below _ _ _; go_grown
/-- what the closure leaves where it caught: the three results -/
def Caught (b : Nat) (at_ code : Int) (w w' : World) : Prop := Below b w w' ∧ w'.cell? ⟨b, 0, none⟩ = some (.slice none 0 0) ∧ w'.cell? ⟨b + 1, 0, none⟩ = some (.int .i64 at_) ∧ w'.cell? ⟨b + 1 + 1, 0, none⟩ = some (.int .i64 code)
set_option maxRecDepth 100000 in
theorem catch_wrong (b : Nat) (at_ code : Int) (w : World) (hb : b + 1 + 1 < w.heap.size) (x0 x1 x2 : Value)
    (c0 : w.cell? ⟨b, 0, none⟩ = some x0) (c1 : w.cell? ⟨b + 1, 0, none⟩ = some x1) (c2 : w.cell? ⟨b + 1 + 1, 0, none⟩ = some x2) (f0 : w.frozen? ⟨b, 0, none⟩ = false) (f1 : w.frozen? ⟨b + 1, 0, none⟩ = false) (f2 : w.frozen? ⟨b + 1 + 1, 0, none⟩ = false) :
    CallsD Tryz.prog 62 #[.pointer (some ⟨b, 0, none⟩), .pointer (some ⟨b + 1, 0, none⟩), .pointer (some ⟨b + 1 + 1, 0, none⟩)] (.panicking [{ v := .iface 90 (.agg #[.int .i64 at_, .int .i64 code]), recovered := false }]) w fun e u' w' =>
      u' = .panicking [{ v := .iface 90 (.agg #[.int .i64 at_, .int .i64 code]), recovered := true }] ∧ e = .returned (.tuple #[]) ∧ Caught b at_ code w w' := by
  have ht : ∀ w, (Instr.typeAssert (.iface 90 (.agg #[.int .i64 at_, .int .i64 code])) 20 90 true).run Tryz.prog w = .ok (.tuple #[.agg #[.int .i64 at_, .int .i64 code], .bool true]) w := fun _ => by kernel_rfl
  refine callsD_recover (u' := .panicking [{ v := .iface 90 (.agg #[.int .i64 at_, .int .i64 code]), recovered := true }]) (v := .iface 90 (.agg #[.int .i64 at_, .int .i64 code])) Tryz.func62 rfl rfl (fun a w => rfl) (fun c cs hc => by obtain ⟨⟩ := c; subst hc; rfl) ?_
  simp only [Tryz.ntmps62, List.size_toArray, List.length_cons, List.length_nil, Nat.reduceAdd, Nat.reduceSub, Array.replicate_succ, Array.replicate_zero, List.push_toArray, List.append_toArray, List.nil_append, List.cons_append]
  have h0 : b < w.heap.size := by omega
  have h1 : b + 1 < w.heap.size := by omega
  go_wp2
  go_region
  all_goals
    refine bodyPost_end (results_none rfl _ _ _) rfl ⟨trivial, rfl, ?_⟩
    unfold Caught
    refine ⟨by go_grown, ?_, ?_, ?_⟩
    · go_cell
    · go_cell
    · go_cell
end Go.Proofs.YtfgiejfjnhgcaaaGreatDoor
