/- Arguments opened: numbers as Nats, a string's room, a slice of bytes, nil let in. Over any program. -/
import Derived.WalkKit
import Derived.ProofKit
import Derived.SizedLaws
import Derived.Carry
import Derived.OpenShut
import Derived.ChangeSlices
namespace SolF
open Go Go.RowKit Go.ChangeShapes Go.WideShapes

theorem nat_of_u64 {x : Int} (h : (Lit.int .u64 x).wf = true) : ∃ n : Nat, x = (n : Int) ∧ n < 18446744073709551616 := by
  have hx : 0 ≤ x ∧ x ≤ 18446744073709551615 := by simpa [Lit.wf, IntKind.min, IntKind.max, IntKind.signed, IntKind.bits] using h
  exact ⟨x.toNat, by omega, by omega⟩
theorem nat_of_u32 {x : Int} (h : (Lit.int .u32 x).wf = true) : ∃ n : Nat, x = (n : Int) ∧ n < 4294967296 := by
  have hx : 0 ≤ x ∧ x ≤ 4294967295 := by simpa [Lit.wf, IntKind.min, IntKind.max, IntKind.signed, IntKind.bits] using h
  exact ⟨x.toNat, by omega, by omega⟩
theorem nat_of_u8 {x : Int} (h : (Lit.int .u8 x).wf = true) : ∃ n : Nat, x = (n : Int) ∧ n < 256 := by
  have hx : 0 ≤ x ∧ x ≤ 255 := by simpa [Lit.wf, IntKind.min, IntKind.max, IntKind.signed, IntKind.bits] using h
  exact ⟨x.toNat, by omega, by omega⟩
theorem string_room {s : ByteArray} (h : s.data.toList.length ≤ reachBytes) : s.size ≤ 140737488351232 := by
  have hr : reachBytes = 140737488351232 := by decide
  rw [hr] at h
  simpa using h
/-- a slice of bytes that lies in memory -/
def ByteRow (w : World) (A : Option Addr) (n : Nat) (zs : List Int) : Prop :=
  zs.length = n ∧ (∀ z ∈ zs, 0 ≤ z ∧ z < 256) ∧ (0 < n → ∃ a, A = some a ∧ ∀ i, i < n → w.cell? (a.add i) = some (.int .u8 (zs.getD i 0))) ∧ n ≤ 140737488351232
theorem open_bytes_any {H : Type} {enc : TypeId × Value → H} {P : Program} {w : World} {t e : TypeId} {v : Value} {d : DataW H} {p : List MemPlace} {base : Nat} (ht : P.underlying t = some (.slice e)) (he : P.underlying e = some (.int .u8)) (hc : P.cellsOf e = 1) (hz : ∀ el sp, d = .slice el sp → el.length + sp.length ≤ 140737488351232)
    (hv : Value.okWide P w .any base t v) (h : DataW.Trod enc P w 0 (fun _ => true) true t v d p) :
    ∃ A n c zs, v = .slice A n c ∧ ByteRow w A n zs ∧ ∀ x ∈ p, x.block < w.heap.size := by
  obtain ⟨A, n, c, rfl⟩ := okWide_slice ht hv
  obtain ⟨fuel, hf⟩ := h
  rcases open_ints ht he hc hf with ⟨hcs, hx⟩ | ⟨a, len, cap, zs, hcs, _, hl, hm, hzl, hx, hcell, hw⟩
  · simp [Value.cells] at hcs
    obtain ⟨rfl, rfl, rfl⟩ := hcs
    simp only [Prod.mk.injEq] at hx
    obtain ⟨rfl, rfl⟩ := hx
    exact ⟨none, 0, 0, [], rfl, ⟨rfl, fun z h => by (cases h), fun h => absurd h (by omega), by omega⟩, fun x h => by cases h⟩
  · simp [Value.cells] at hcs
    obtain ⟨rfl, rfl, rfl⟩ := hcs
    simp only [Prod.mk.injEq] at hx
    obtain ⟨hd, rfl⟩ := hx
    simp only [if_true] at hzl
    have hb : 0 < zs.length → a.block < w.heap.size := fun h0 => by
      have := hcell 0 h0
      rcases Nat.lt_or_ge a.block w.heap.size with hb | hb
      · exact hb
      · have e : (a.add 0).block = a.block := by unfold Addr.add; split <;> rfl
        unfold World.cell? at this
        rw [e, Array.getElem?_eq_none hb] at this
        cases this
    have hroom := hz _ _ hd
    simp only [lits, List.length_map, List.length_take, List.length_drop] at hroom
    refine ⟨some a, n, c, zs.take n, rfl, ⟨by rw [List.length_take]; omega, fun z hzz => ?_, fun h0 => ⟨a, rfl, fun i hi => ?_⟩, by omega⟩, fun x hx => ?_⟩
    · have := hw z (List.mem_of_mem_take hzz)
      have hx : 0 ≤ z ∧ z ≤ 255 := by simpa [Lit.wf, IntKind.min, IntKind.max, IntKind.signed, IntKind.bits] using this
      omega
    · rw [hcell i (by omega), List.getD_eq_getElem?_getD, List.getD_eq_getElem?_getD, List.getElem?_take_of_lt hi]
    · obtain ⟨i, hi, rfl⟩ := MemPlace.mem_row.1 hx
      exact hb (by omega)
theorem slice_room {P : Program} {H : Type} {ts : List TypeId} {ds : List (DataW H)} (hsz : (DataW.weightsEach P ts ds).all (· ≤ reachBytes) = true) {j : Nat} {t e : TypeId} {d : DataW H} (hj : ts[j]? = some t) (hd : ds[j]? = some d) (hu : P.underlying t = some (.slice e)) (hb : P.bytesOf e = 1) :
    ∀ el sp, d = .slice el sp → el.length + sp.length ≤ 140737488351232 := by
  intro el sp h
  subst h
  have := sized_slice hsz hj hd hu
  rw [hb, Nat.mul_one, show reachBytes = 140737488351232 from by decide] at this
  exact this
end SolF
