/- Walk of pick: a number from 0 on below k. Condition: k is above 0. -/
import Derived.Test.YtgkamdgegfioiaaDoorProg
import Derived.Test.YtgkamdgegfioiaaDoorBytes
namespace Go.Proofs.YtgkamdgegfioiaaDoor
open Go.RowKit
set_option linter.unusedSimpArgs false
set_option linter.unusedVariables false
set_option maxHeartbeats 400000 in
theorem pick_calls (n k : Int) (w : World) (h1 : -9223372036854775808 ≤ n) (h2 : n ≤ 9223372036854775807) (hk : 0 < k) (hk2 : k ≤ 9223372036854775807) :
    Calls Tryd.prog 6 #[.int .i64 n, .int .i64 k] w fun e w' => e = .returned (.int .i64 (n % k)) ∧ w = w' := by
  have hm := tmod_mod n k hk
  have hb := tmod_bd n k hk
  have Hm := Lib.hid hm
  have Hb := Lib.hid hb
  clear hm hb
  go_enter Tryd.func6, Tryd.ntmps6
  go_wp2_with fail
  all_goals go_ret
  · have hb := Hb.out
    rw [Hm.out, if_pos ‹_›]
    have e : wrap64 (n.tmod k + k) = n.tmod k + k := by unfold wrap64; omega
    exact ⟨by show Ending.returned (Value.int .i64 (wrap64 (n.tmod k + k))) = _; rw [e], rfl⟩
  · rw [Hm.out, if_neg (by omega)]
    exact ⟨rfl, rfl⟩
end Go.Proofs.YtgkamdgegfioiaaDoor
