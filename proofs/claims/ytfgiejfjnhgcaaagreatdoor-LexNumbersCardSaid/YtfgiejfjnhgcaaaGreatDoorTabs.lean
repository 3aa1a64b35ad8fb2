/- What the rows' lists of package-level variables give: the cells that the walks read. -/
import Derived.Test.YtfgiejfjnhgcaaaGreatDoorRows
import Derived.Test.YtfgiejfjnhgcaaaGreatDoorExact
import Derived.Lib.LaidU8
import Derived.KernelRfl
namespace Go.Proofs.YtfgiejfjnhgcaaaGreatDoor
open Go Go.RowKit Go.Lib

theorem opt_of_reads {w : World} (h : VarReads Tryz.prog w "internal/strconv.optimize" (.lit (.bool true))) : w.cell? ⟨6, 0, none⟩ = some (.bool true) := by
  obtain ⟨g, t, cs, fuel, p, hg, ht, hv, hd⟩ := h
  obtain rfl : g = 6 := Option.some.inj (hg.symm.trans (by kernel_rfl))
  obtain rfl : t = 4 := Option.some.inj (ht.symm.trans (by kernel_rfl))
  obtain ⟨b, hc, hx⟩ := DataW.trod_bool Tryz.underlying4 hd
  simp only [Prod.mk.injEq, DataW.lit.injEq, Lit.bool.injEq] at hx
  obtain ⟨rfl, _⟩ := hx
  rw [World.var?_cell hg hv 0, ← Array.getElem?_toList, hc]
  rfl

theorem mb_of_reads {w : World} (h : VarReads Tryz.prog w "internal/strconv.float64info" (.agg [.lit (.int .u64 52), .lit (.int .u64 11), .lit (.int .i64 (-1023))])) :
    w.cell? ⟨7, 0, none⟩ = some (.int .u64 52) := by
  obtain ⟨g, t, cs, fuel, p, hg, ht, hv, hd⟩ := h
  obtain rfl : g = 7 := Option.some.inj (hg.symm.trans (by kernel_rfl))
  obtain rfl : t = 179 := Option.some.inj (ht.symm.trans (by kernel_rfl))
  obtain ⟨xs, n, _, hx, _, hlen, hf⟩ := DataW.trod_struct Tryz.underlying179 hd
  have h0 : DataW.trod (fun _ => ()) Tryz.prog w 0 (fun _ => true) false n 53 ((cs.toList.drop 0).take (Tryz.prog.cellsOf 53)) = xs[0]? := hf 0 _ rfl
  simp only [Prod.mk.injEq, DataW.agg.injEq] at hx
  obtain ⟨hx, _⟩ := hx
  cases xs with
  | nil => simp at hx
  | cons x0 xs =>
    simp only [List.map_cons, List.cons.injEq] at hx
    rw [List.getElem?_cons_zero] at h0
    obtain ⟨z, hc, hz, _⟩ := DataW.trod_int Tryz.underlying53 h0
    rw [hz] at hx
    simp only [DataW.lit.injEq, Lit.int.injEq, true_and] at hx
    obtain ⟨rfl, _⟩ := hx
    rw [World.var?_cell hg hv 0, ← Array.getElem?_toList]
    have hc1 := congrArg (fun l : List Value => l[0]?) hc
    simp only [List.getElem?_cons_zero] at hc1
    rw [show (Tryz.prog.cellsOf 53) = 1 from by kernel_rfl] at hc1
    rw [List.drop_zero, List.getElem?_take_of_lt (by decide)] at hc1
    exact hc1

theorem tabs_of_laid {w : World} {l : List (String × DataW Unit)} (h : laidMet Tryz.prog l w) (h1 : ("internal/strconv.optimize", Rows.laid_internal_strconv_optimize) ∈ l) (h2 : ("internal/strconv.float64info", Rows.laid_internal_strconv_float64info) ∈ l) : Tabs w :=
  ⟨opt_of_reads (laidMet.reads h h1), mb_of_reads (laidMet.reads h h2)⟩
end Go.Proofs.YtfgiejfjnhgcaaaGreatDoor
