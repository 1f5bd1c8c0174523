/- The table of layer 11 as the rows list it: a world that holds it, and its cells. -/
import Derived.Test.YtcgigoidmnpijaaDoorLaw
import Derived.Test.YtcgigoidmnpijaaDoorHtlcWalks
namespace Go.Proofs.YtcgigoidmnpijaaDoor
open Go.RowKit

theorem Law.gTab : Tryd.prog.globalNamed "remitter/htlc.events" = some 0 := by kernel_rfl
theorem Law.gTabType : (Tryd.prog.globals[0]?).map (·.type) = some 35 := by kernel_rfl
theorem Law.cellsTab : Tryd.prog.cellsOf 35 = 10 := by kernel_rfl
theorem Law.cellsInt : Tryd.prog.cellsOf 3 = 1 := by kernel_rfl

/-- What the row's list gives: the table's cells. -/
theorem tab {W : World} (h : laidMetH Tryd.prog [("remitter/htlc.events", Rows.laid_remitter_htlc_events)] W) : Htlc.Tab W := by
  have hT : Lib.TabIs Tryd.prog W "remitter/htlc.events" .i64 Htlc.tab := Lib.tabIs_of_head (rest := []) Law.gTab Law.gTabType Tryd.underlying35 Tryd.underlying3 Law.cellsInt Law.cellsTab h
  exact fun i hi => hT.cell Law.gTab i (by have : Htlc.tab.length = 10 := rfl; omega)

noncomputable def Law.laidWorld (os : Os) : World :=
  { World.holding Tryd.prog os ⟨#[], #[], []⟩ with heap := (World.holding Tryd.prog os ⟨#[], #[], []⟩).heap.modify 0 fun
      | .cells _ t frozen => .cells #[.int .i64 1, .int .i64 2, .int .i64 3, .int .i64 4, .int .i64 0, .int .i64 3, .int .i64 4, .int .i64 1, .int .i64 2, .int .i64 0] t frozen
      | o => o }
end Go.Proofs.YtcgigoidmnpijaaDoor
