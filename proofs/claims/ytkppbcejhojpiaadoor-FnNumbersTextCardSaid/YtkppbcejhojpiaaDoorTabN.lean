/- The library's table, out of the row's condition. -/
import Derived.Test.YtkppbcejhojpiaaDoorNumI
import Derived.Test.YtkppbcejhojpiaaDoorRows
import Derived.Lib.LaidTab
import Derived.LaidSub
import Derived.MakeChecks
import Derived.ProofKit
namespace Go.Proofs.YtkppbcejhojpiaaDoor
open Go.RowKit

theorem tabGT : (Tryd.prog.globals[0]?).map (·.type) = some 65 := by kernel_rfl
theorem tabD : (Rows.laid_internal_strconv_uint64pow10 : DataW Unit) = Lib.tabData .u64 Lib.pow10Tab := by kernel_rfl
theorem tab_of_laidH {l : List (String × DataW Unit)} {W : World} (h : laidMetH Tryd.prog l W) (h1 : (l.all fun x => x.2.handleName?.isNone) = true)
    (h2 : l.filter (fun x => x.1 == "internal/strconv.uint64pow10") = [("internal/strconv.uint64pow10", Rows.laid_internal_strconv_uint64pow10)]) : Tab W := by
  rw [MakeChecks.laidMetH_plain _ _ _ h1] at h
  have h3 := laidMet.filter (fun x => x.1 == "internal/strconv.uint64pow10") h
  rw [h2, tabD] at h3
  exact Lib.tabIs_of_head (rest := []) tabG tabGT Tryd.underlying65 Tryd.underlying59 (by kernel_rfl) (by kernel_rfl) h3

end Go.Proofs.YtkppbcejhojpiaaDoor
