/-
  SEAT GreatDoor: what the rows' lists give: the cells of the four tables.
-/
import Derived.Test.YtbmnhnohahacaaaGreatDoorVsPN1
import Derived.Test.YtbmnhnohahacaaaGreatDoorRows
import Derived.Lay
import Derived.LaidOnce
import Derived.WalkKit
import Derived.ProofKit
namespace Go.Proofs.Tryzv
open Go.RowKit Go.VS Go.Lib
open Go.Proofs.YtbmnhnohahacaaaGreatDoor
set_option maxRecDepth 100000
set_option linter.unusedSimpArgs false
set_option linter.unusedVariables false

theorem d_db : (Rows.laid_math_bits_deBruijn64tab : DataW Unit) = tabData .u8 tabDB := by kernel_rfl
theorem d_nib : (Rows.laid_baton_sum_nibbles : DataW Unit) = tabData .u32 tabNib := by kernel_rfl
theorem d_first : Rows.laid_unicode_utf8_first = tabData .u8 tabFirst := by kernel_rfl
theorem d_acc : (Rows.laid_unicode_utf8_acceptRanges : DataW Unit) = .agg (tabAcc.map fun z => .agg ([z.1, z.2].map fun z => .lit (.int .u8 z))) := by kernel_rfl
theorem laid_of {w : World} (h : laidMetH Tryz.prog Rows.packNamesRow.laid w) : Laid w := by
  rw [MakeChecks.laidMetH_plain _ _ _ (by kernel_rfl)] at h
  have h0 : VarReads Tryz.prog w "math/bits.deBruijn64tab" (tabData .u8 tabDB) := d_db ▸ Lib.laidMet.reads h (.head _)
  have h1 : VarReads Tryz.prog w "baton/sum.nibbles" (tabData .u32 tabNib) := d_nib ▸ Lib.laidMet.reads h (.tail _ (.head _))
  have h3 : VarReads Tryz.prog w "unicode/utf8.acceptRanges" _ := d_acc ▸ Lib.laidMet.reads h (.tail _ (.tail _ (.head _)))
  have h2 : VarReads Tryz.prog w "unicode/utf8.first" (tabData .u8 tabFirst) := d_first ▸ Lib.laidMet.reads h (.tail _ (.tail _ (.tail _ (.head _))))
  intro g hg i v hv
  match g, hg with
  | 0, _ => exact tab_cells (by kernel_rfl) (by kernel_rfl) Tryz.underlying182 Tryz.underlying5 (by kernel_rfl) (by kernel_rfl) h0 i v hv
  | 1, _ => exact tab_cells (by kernel_rfl) (by kernel_rfl) Tryz.underlying222 Tryz.underlying84 (by kernel_rfl) (by kernel_rfl) h1 i v hv
  | 2, _ => exact tab_cells (by kernel_rfl) (by kernel_rfl) Tryz.underlying246 Tryz.underlying5 (by kernel_rfl) (by kernel_rfl) h2 i v hv
  | 3, _ => exact pair_cells (e := 5) (by kernel_rfl) (by kernel_rfl) Tryz.underlying249 Tryz.underlying248 rfl rfl rfl rfl Tryz.underlying5 (by kernel_rfl) (by kernel_rfl) rfl h3 i v hv
end Go.Proofs.Tryzv
