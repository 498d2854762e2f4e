/- The walk of ParityBack in the row's words. -/
import Derived.Test.YtfajgnaphekdhaaDoorOpenS
import Derived.Test.YtfajgnaphekdhaaDoorKback
import Derived.OpenShut
namespace Go.Proofs.YtfajgnaphekdhaaDoor
open Go.RowKit
theorem parityBack_walk (v0 : Value) (a1 a2 a3 : Int) (a4 : ByteArray) (w : World) (w0 : StrsV w v0) (w1 : (Lit.int .i64 a1).wf = true) (w2 : (Lit.int .i64 a2).wf = true) (w3 : (Lit.int .i64 a3).wf = true) (w4 : a4.size ≤ 140737488351232) (hL : w.cell? ⟨0, 0, none⟩ = some (.iface 92 (.agg #[.pointer (some ⟨1, 40, none⟩)]))) :
    Calls Tryd.prog 6 #[v0, .int .i64 a1, .int .i64 a2, .int .i64 a3, .string a4] w fun e w' => e = .returned (.bool true) ∧ Below w.heap.size w w' := by
  obtain ⟨A, c, ls, rfl, hr, hs, hl⟩ := w0
  have h1 := bounds_i64 w1
  have h2 := bounds_i64 w2
  have h3 := bounds_i64 w3
  exact parityBack_calls A c ls a1 a2 a3 a4 w hL hr hs hl w4 ⟨h1.1, h1.2⟩ ⟨h2.1, h2.2⟩ ⟨h3.1, h3.2⟩
end Go.Proofs.YtfajgnaphekdhaaDoor
