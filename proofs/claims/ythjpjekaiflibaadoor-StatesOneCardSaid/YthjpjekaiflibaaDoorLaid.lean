/- The table that the rows list: what it gives, and a world that has it. -/
import Derived.Test.YthjpjekaiflibaaDoorRows
import Derived.Test.YthjpjekaiflibaaDoorSums
import Derived.WalkKit
import Derived.ProofKit
import Derived.OpenShut
import Derived.Deep.DeepHandedRow
import Derived.Lib.LaidTab
namespace Go.Proofs.YthjpjekaiflibaaDoor
open Go.ChangeShapes Go.WideShapes Go.ChangeAt Go.RowKit
theorem ownKnob0 : ownKnob Tryd.prog.godebug = none := by kernel_rfl
theorem laidOut : laidOutB Tryd.prog = true := by kernel_rfl
theorem gTab : Tryd.prog.globalNamed "countinghouse/sums.table" = some 0 := by kernel_rfl
theorem gTabType : (Tryd.prog.globals[0]?).map (·.type) = some 227 := by kernel_rfl
theorem cellsT : Tryd.prog.cellsOf 227 = 16 := by kernel_rfl
theorem cellsE : Tryd.prog.cellsOf 187 = 1 := by kernel_rfl
/-- What the rows' list gives: the table's cells. -/
theorem table {W : World} (h : laidMetH Tryd.prog [("countinghouse/sums.table", Rows.laid_countinghouse_sums_table)] W) : Lib.TabIs Tryd.prog W "countinghouse/sums.table" .u32 (tab.map fun n : Nat => (n : Int)) :=
  Lib.tabIs_of_head (rest := []) gTab gTabType Tryd.underlying227 Tryd.underlying187 cellsE cellsT h
theorem tabW {W : World} (h : laidMetH Tryd.prog [("countinghouse/sums.table", Rows.laid_countinghouse_sums_table)] W) : Tab W ∧ 0 < W.heap.size := by
  have hT : Tab W := fun j hj => by
    have := (table h).cell gTab j (by simpa [tab] using hj)
    rw [this]
    congr 2
    unfold tabN
    rw [List.getD_eq_getElem?_getD, List.getD_eq_getElem?_getD, List.getElem?_map]
    cases tab[j]? <;> rfl
  exact ⟨hT, World.block_lt_of_cell? W _ (hT 0 (by decide))⟩
/-- The settled world, the table (block 0) holding what its initialiser lays. -/
noncomputable def laidWorld (os : Os) : World :=
  { World.holding Tryd.prog os ⟨#[], #[], []⟩ with heap := (World.holding Tryd.prog os ⟨#[], #[], []⟩).heap.modify 0 fun
      | .cells _ t frozen => .cells ((tab.map fun n : Nat => Value.int .u32 (n : Int)).toArray) t frozen
      | o => o }
end Go.Proofs.YthjpjekaiflibaaDoor
