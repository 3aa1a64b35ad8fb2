/- What strconv.ParseFloat reads of package-level variables, out of the rows' lists. -/
import Derived.Test.YtfgiejfjnhgcaaaGreatDoorTabs
import Derived.Test.YtfgiejfjnhgcaaaGreatDoorReads
import Derived.Test.YtfgiejfjnhgcaaaGreatDoorLexSign
namespace Go.Proofs.YtfgiejfjnhgcaaaGreatDoor
open Go Go.RowKit Go.Lib SolF

def pw : List Nat := [1, 3, 6, 9, 13, 16, 19, 23, 26]
def tenHi (i : Nat) : Nat := (Go.Pinned.pow10Rows.getD i (0, 0)).1
def tenLo (i : Nat) : Nat := (Go.Pinned.pow10Rows.getD i (0, 0)).2
def cheatN (i : Nat) : Nat := (Go.Pinned.cheatRows.getD i (0, [])).1
def cheatS (i : Nat) : List UInt8 := (Go.Pinned.cheatRows.getD i (0, [])).2

structure PFTabs (w : World) : Prop where
  opt : w.cell? ⟨6, 0, none⟩ = some (.bool true)
  mb : w.cell? ⟨7, 0, none⟩ = some (.int .u64 52)
  eb : w.cell? ⟨7, 1, none⟩ = some (.int .u64 11)
  bi : w.cell? ⟨7, 2, none⟩ = some (.int .i64 (-1023))
  tens : ∃ R o cap, w.cell? ⟨14, 0, none⟩ = some (.slice (some ⟨R, o, none⟩) 23 cap) ∧ ∀ i, i < 23 → w.cell? ⟨R, o + i, none⟩ = some (.float .f64 (p10.getD i 0))
  pows : ∃ R o cap, w.cell? ⟨13, 0, none⟩ = some (.slice (some ⟨R, o, none⟩) 9 cap) ∧ ∀ i, i < 9 → w.cell? ⟨R, o + i, none⟩ = some (.int .i64 (pw.getD i 0 : Nat))
  tab : ∀ i, i < 696 → w.cell? ⟨15, i * 2, none⟩ = some (.int .u64 (tenHi i : Int)) ∧ w.cell? ⟨15, i * 2 + 1, none⟩ = some (.int .u64 (tenLo i : Int))
  cheats : ∃ R o cap, w.cell? ⟨16, 0, none⟩ = some (.slice (some ⟨R, o, none⟩) 61 cap) ∧ ∀ i, i < 61 → w.cell? ⟨R, o + i * 2, none⟩ = some (.int .i64 (cheatN i : Int)) ∧
    ∃ s : ByteArray, s.data.toList = cheatS i ∧ w.cell? ⟨R, o + (i * 2 + 1), none⟩ = some (.string s)

theorem same_cell {w w' : World} (hs : Below w.heap.size w w') {p : Addr} {v : Value} (h : w.cell? p = some v) : w'.cell? p = some v := (hs.cell (lt_of_cell' h)).trans h
theorem PFTabs.same {w w' : World} (T : PFTabs w) (hs : Below w.heap.size w w') : PFTabs w' := by
  obtain ⟨a, b, c, d, ⟨R1, o1, c1, h1, k1⟩, ⟨R2, o2, c2, h2, k2⟩, h3, ⟨R4, o4, c4, h4, k4⟩⟩ := T
  refine ⟨same_cell hs a, same_cell hs b, same_cell hs c, same_cell hs d, ⟨R1, o1, c1, same_cell hs h1, fun i hi => same_cell hs (k1 i hi)⟩, ⟨R2, o2, c2, same_cell hs h2, fun i hi => same_cell hs (k2 i hi)⟩,
    fun i hi => ⟨same_cell hs (h3 i hi).1, same_cell hs (h3 i hi).2⟩, ⟨R4, o4, c4, same_cell hs h4, fun i hi => ?_⟩⟩
  obtain ⟨x, s, y, z⟩ := k4 i hi
  exact ⟨same_cell hs x, s, y, same_cell hs z⟩
theorem PFTabs.tabs {w : World} (T : PFTabs w) : Tabs w := ⟨T.opt, T.mb⟩

set_option maxRecDepth 100000 in
theorem info_of_reads {w : World} (h : VarReads Tryz.prog w "internal/strconv.float64info" (.agg [.lit (.int .u64 52), .lit (.int .u64 11), .lit (.int .i64 (-1023))])) :
    w.cell? ⟨7, 0, none⟩ = some (.int .u64 52) ∧ w.cell? ⟨7, 1, none⟩ = some (.int .u64 11) ∧ w.cell? ⟨7, 2, none⟩ = some (.int .i64 (-1023)) := by
  obtain ⟨g, t, cs, fuel, p, hg, ht, hv, hd⟩ := h
  obtain rfl : g = 7 := Option.some.inj (hg.symm.trans (by kernel_rfl))
  obtain rfl : t = 179 := Option.some.inj (ht.symm.trans (by kernel_rfl))
  obtain ⟨xs, n, _, hx, _, hlen, hf⟩ := DataW.trod_struct Tryz.underlying179 hd
  have h0 := hf 0 _ rfl
  have h1 := hf 1 _ rfl
  have h2 := hf 2 _ rfl
  match xs, hlen with
  | [x0, x1, x2], _ =>
    simp only [Prod.mk.injEq, DataW.agg.injEq, List.map_cons, List.map_nil, List.cons.injEq, and_true] at hx
    obtain ⟨⟨e0, e1, e2⟩, _⟩ := hx
    obtain ⟨z0, k0, r0, _⟩ := DataW.trod_int (P := Tryz.prog) (show Tryz.prog.underlying 53 = some (.int .u64) by kernel_rfl) (h0.trans rfl)
    obtain ⟨z1, k1, r1, _⟩ := DataW.trod_int (P := Tryz.prog) (show Tryz.prog.underlying 53 = some (.int .u64) by kernel_rfl) (h1.trans rfl)
    obtain ⟨z2, k2, r2, _⟩ := DataW.trod_int (P := Tryz.prog) (show Tryz.prog.underlying 3 = some (.int .i64) by kernel_rfl) (h2.trans rfl)
    rw [r0] at e0
    rw [r1] at e1
    rw [r2] at e2
    simp only [DataW.lit.injEq, Lit.int.injEq, true_and] at e0 e1 e2
    subst e0 e1 e2
    have c0 := at_of_take' (k := 0) k0
    have c1 := at_of_take' (k := 1) k1
    have c2 := at_of_take' (k := 2) k2
    refine ⟨?_, ?_, ?_⟩ <;> (rw [World.var?_cell hg hv _, ← Array.getElem?_toList]; assumption)

set_option maxRecDepth 100000 in
theorem pftabs_of_laid {w : World} {l : List (String × DataW Unit)} (h : laidMet Tryz.prog l w) (h1 : ("internal/strconv.optimize", Rows.laid_internal_strconv_optimize) ∈ l) (h2 : ("internal/strconv.float64info", Rows.laid_internal_strconv_float64info) ∈ l)
    (h3 : ("internal/strconv.float64pow10", Rows.laid_internal_strconv_float64pow10) ∈ l) (h4 : ("internal/strconv.powtab", Rows.laid_internal_strconv_powtab) ∈ l) (h5 : ("internal/strconv.pow10Tab", Rows.laid_internal_strconv_pow10Tab) ∈ l) (h6 : ("internal/strconv.leftcheats", Rows.laid_internal_strconv_leftcheats) ∈ l) : PFTabs w := by
  obtain ⟨i0, i1, i2⟩ := info_of_reads (laidMet.reads h h2)
  refine ⟨opt_of_reads (laidMet.reads h h1), i0, i1, i2, ?_, ?_, ?_, ?_⟩
  · exact floats_of_reads (l := p10) (by kernel_rfl) (by kernel_rfl) Tryz.underlying218 (by kernel_rfl) (by kernel_rfl) (by decide) (laidMet.reads h h3)
  · exact ints_of_reads (l := pw) (by kernel_rfl) (by kernel_rfl) Tryz.underlying76 (by kernel_rfl) (by kernel_rfl) (by decide) (laidMet.reads h h4)
  · exact pairs_of_reads (l := Go.Pinned.pow10Rows) (tu := 22) (by kernel_rfl) (by kernel_rfl) Tryz.underlying223 Tryz.underlying222 (by kernel_rfl) ⟨rfl, rfl⟩ ⟨rfl, rfl⟩ (by kernel_rfl) (by kernel_rfl) (by kernel_rfl) (laidMet.reads h h5)
  · exact cheats_of_reads (l := Go.Pinned.cheatRows) (ti := 3) (ts := 9) (by kernel_rfl) (by kernel_rfl) Tryz.underlying228 Tryz.underlying227 (by kernel_rfl) ⟨rfl, rfl⟩ ⟨rfl, rfl⟩ (by kernel_rfl) (by kernel_rfl) (by kernel_rfl) (by kernel_rfl) (by decide) (laidMet.reads h h6)
end Go.Proofs.YtfgiejfjnhgcaaaGreatDoor
