/- An argument that is an array of two words, opened. -/
import Derived.Test.YtfgiejfjnhgcaaaGreatDoorProg
import Derived.WalkKit
import Derived.ProofKit
import Derived.OpenShut
import Derived.Lib.SmallJoins
import Derived.Carry
import Derived.KernelRfl
namespace Go.Proofs.YtfgiejfjnhgcaaaGreatDoor
open Go Go.ChangeShapes Go.WideShapes Go.ChangeAt Go.RowKit
theorem cells32 : Tryz.prog.cellsOf 28 = 1 := by kernel_rfl
theorem cellsPair : Tryz.prog.cellsOf 29 = 2 := by kernel_rfl
theorem laidOut : laidOutB Tryz.prog = true := by kernel_rfl

theorem list_two {α : Type} {l : List α} (h : l.length = 2) : ∃ a b, l = [a, b] := by
  match l, h with
  | [a, b], _ => exact ⟨a, b, rfl⟩

set_option maxRecDepth 100000 in
/-- an array of two words, opened -/
theorem open_pair {H : Type} {enc : TypeId × Value → H} {W : World} {r : Reach} {b0 base : Nat} {sp : Nat → Bool} {held : Bool} {v : Value} {d : DataW H} {ps : List MemPlace}
    (hv : Value.okWide Tryz.prog W r b0 29 v) (hd : DataW.Trod enc Tryz.prog W base sp held 29 v d ps) :
    ∃ z0 z1 : Int, v = .agg #[.int .u32 z0, .int .u32 z1] ∧ d = .agg [.lit (.int .u32 z0), .lit (.int .u32 z1)] ∧ ps = [] ∧ (Lit.int .u32 z0).wf = true ∧ (Lit.int .u32 z1).wf = true := by
  simp only [Value.okWide, Tryz.underlying29] at hv
  obtain ⟨cs, rfl, hsz, _⟩ := hv
  obtain ⟨c0, c1, rfl⟩ := Joins.array2 (hsz.trans cellsPair)
  obtain ⟨fuel, hf⟩ := hd
  obtain ⟨xs, n, _, hx, _, hlen, hi⟩ := DataW.trod_array Tryz.underlying29 hf
  have h0 := hi 0 (by decide)
  have h1 := hi 1 (by decide)
  rw [cells32] at h0 h1
  obtain ⟨y0, y1, rfl⟩ := list_two hlen
  simp only [Value.cells, List.drop_zero, Nat.zero_mul, Nat.one_mul, List.getElem?_cons_zero, List.getElem?_cons_succ] at h0 h1
  obtain ⟨z0, e0, rfl, w0⟩ := DataW.trod_int Tryz.underlying28 h0
  obtain ⟨z1, e1, rfl, w1⟩ := DataW.trod_int Tryz.underlying28 h1
  simp at e0 e1
  subst e0 e1
  simp at hx
  exact ⟨z0, z1, rfl, hx.1, hx.2, w0, w1⟩

end Go.Proofs.YtfgiejfjnhgcaaaGreatDoor
