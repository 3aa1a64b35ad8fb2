/- The rows' lists and the world's shape give what the walks read of package-level variables. -/
import Derived.Test.YtfgiejfjnhgcaaaGreatDoorAwake10
import Derived.Test.YtfgiejfjnhgcaaaGreatDoorRows
import Derived.Shelf.Vars
namespace Go.Proofs.YtfgiejfjnhgcaaaGreatDoor
open Go Go.RowKit SolF Go.Lib

set_option maxRecDepth 100000 in
theorem maxlen_of_shape {w : World} (h : w.ShapedOpen Tryz.prog) : ∃ m : Int, w.cell? ⟨4, 0, none⟩ = some (.int .i64 m) :=
  cell_of_shapedOpen_int (t := 3) (zero := #[.int .i64 0]) h (of_decide_eq_true (by kernel_rfl)) (by kernel_rfl) rfl (by kernel_rfl) (by kernel_rfl) Tryz.underlying3
theorem env_of_laid {w : World} {l : List (String × DataW Unit)} (hs : w.ShapedOpen Tryz.prog) (h : laidMet Tryz.prog l w) (h1 : ("internal/strconv.optimize", Rows.laid_internal_strconv_optimize) ∈ l) (h2 : ("internal/strconv.float64info", Rows.laid_internal_strconv_float64info) ∈ l)
    (h3 : ("internal/strconv.float64pow10", Rows.laid_internal_strconv_float64pow10) ∈ l) (h4 : ("internal/strconv.powtab", Rows.laid_internal_strconv_powtab) ∈ l) (h5 : ("internal/strconv.pow10Tab", Rows.laid_internal_strconv_pow10Tab) ∈ l) (h6 : ("internal/strconv.leftcheats", Rows.laid_internal_strconv_leftcheats) ∈ l)
    (h7 : ("strconv.ErrRange", Rows.laid_strconv_ErrRange) ∈ l) : Env w := by
  refine ⟨⟨maxlen_of_shape hs, ?_⟩, pftabs_of_laid h h1 h2 h3 h4 h5 h6⟩
  obtain ⟨tp, p, hc⟩ := iface_of_reads (g := 3) (t := 82) (by kernel_rfl) (by kernel_rfl) Tryz.underlying82 (laidMet.reads h h7)
  exact ⟨_, hc, .inr ⟨tp, p, rfl⟩⟩
end Go.Proofs.YtfgiejfjnhgcaaaGreatDoor
