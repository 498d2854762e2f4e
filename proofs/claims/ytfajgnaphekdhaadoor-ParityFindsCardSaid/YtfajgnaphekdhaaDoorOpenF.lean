/- The walk of ParityFinds in the row's words. -/
import Derived.Test.YtfajgnaphekdhaaDoorOpenS
import Derived.Test.YtfajgnaphekdhaaDoorPfinds
namespace Go.Proofs.YtfajgnaphekdhaaDoor
open Go.RowKit
theorem parityFinds_walk (v0 : Value) (a1 : Int) (w : World) (w0 : StrsV w v0) (w1 : (Lit.int .i64 a1).wf = true) (hL : w.cell? ⟨0, 0, none⟩ = some (.iface 92 (.agg #[.pointer (some ⟨1, 40, none⟩)]))) :
    Calls Tryd.prog 5 #[v0, .int .i64 a1] w fun e w' => e = .returned (.bool true) ∧ Below w.heap.size w w' := by
  obtain ⟨A, c, ls, rfl, hr, hs, hl⟩ := w0
  exact parityFinds_calls A c ls a1 w hL hr hs hl
end Go.Proofs.YtfajgnaphekdhaaDoor
