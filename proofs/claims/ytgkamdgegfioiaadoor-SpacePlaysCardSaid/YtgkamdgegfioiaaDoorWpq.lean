/- The walk of bedrocklaw.wipe: it turns nothing but the slice's own row. -/
/- Walk of bedrocklaw.pick: a number from 0 on below k. Condition: k is above 0. -/
import Derived.Test.YtgkamdgegfioiaaDoorSpq
import Derived.Test.YtgkamdgegfioiaaDoorProg
import Derived.Test.YtgkamdgegfioiaaDoorBytes
namespace Go.Proofs.YtgkamdgegfioiaaDoor
open Go.RowKit
set_option linter.unusedSimpArgs false
set_option linter.unusedVariables false
theorem wipe_calls (w : World) (g n c : Nat) (cur : Array Value) (hg : w.heap[g]? = some (.cells cur 5 (0, 0))) (hs : cur.size = c) (hn : n ≤ c) (hc : c ≤ maxLen) :
    Calls Tryd.prog 64 #[.slice (some ⟨g, 0, none⟩) n c] w fun e w' => e = .returned (.tuple #[]) ∧ Chg w w' (fun k => k = g) := by
  obtain ⟨i5, hi, hz0, hz1, hz2⟩ := info_parts info5
  have hcb : c ≤ 9223372036854775807 := by unfold maxLen at hc; omega
  have hsl : ∀ W : World, (Instr.sliceAt 22 (.slice (some ⟨g, 0, none⟩) n c) none (some (.int .i64 (c : Int))) none).run Tryd.prog W = .ok (.slice (some ⟨g, 0, none⟩) c c) W := by
    intro W
    have hadd : ∀ a : Addr, a.add 0 = a := fun a => rfl
    simp [Instr.sliceAt, Instr.slice, run_underlying Tryd.underlying22, Instr.sliceBounds, Instr.sliceBound, asIntOf, sizeOf, typeInfo, hi, hadd]
  have h0 := Lib.hid (show (∃ C, w.heap[g]? = some (.cells C 5 (0, 0)) ∧ C.size = c) ∧ Chg w w (fun k => k = g) from ⟨⟨cur, hg, hs⟩, Chg.refl _ _⟩)
  clear hg hs hc
  go_enter Tryd.func64, Tryd.ntmps64
  go_wp2_with fail
  go_loopw [2] (fun t2 wr => ∃ i : Nat, t2 = .int .i64 (i : Int) ∧ i ≤ c ∧ Hid ((∃ C, wr.heap[g]? = some (.cells C 5 (0, 0)) ∧ C.size = c) ∧ Chg w wr (fun k => k = g))) (fun t2 _ => c - (intOf t2).toNat)
  case atStart => exact ⟨0, rfl, by omega, h0⟩
  case round =>
    clear h0
    rename World => wr
    obtain ⟨i, rfl, hi2, H⟩ := hrel
    by_cases hlt : i < c
    · have hlti : (i : Int) < (c : Int) := by omega
      obtain ⟨⟨C, hC, hCs⟩, hch⟩ := H.out
      have hx : Bx wr g 5 C := hC
      obtain ⟨z, hz⟩ : ∃ z, wr.cell? ⟨g, i, none⟩ = some z := ⟨C[i]'(by omega), by rw [hx.cell]; exact Array.getElem?_eq_getElem (by omega)⟩
      have hf := hx.frozen i
      have HN := Lib.hid (show (∃ C, (wr.setCell ⟨g, i, none⟩ (.int .u8 79)).heap[g]? = some (.cells C 5 (0, 0)) ∧ C.size = c) ∧ Chg w (wr.setCell ⟨g, i, none⟩ (.int .u8 79)) (fun k => k = g) from ⟨⟨_, hx.set i _, by simpa using hCs⟩, hch.trans (Chg.setCell _ _ _ _)⟩)
      clear H hC hCs hch hx
      go_wp2_with fail
      exact ⟨⟨i + 1, by go_num, by omega, HN⟩, by simp [intOf]; omega⟩
    · obtain rfl : i = c := by omega
      have hlti : ¬ (i : Int) < (i : Int) := by omega
      have HP := Lib.hid H.out.2
      clear H
      go_wp2_with fail
      go_end0
      exact ⟨rfl, HP.out⟩
end Go.Proofs.YtgkamdgegfioiaaDoor

namespace Go.Proofs.YtgkamdgegfioiaaDoor
open Go.RowKit
set_option linter.unusedSimpArgs false
set_option linter.unusedVariables false
set_option maxHeartbeats 400000 in
theorem lpick_calls (n k : Int) (w : World) (h1 : -9223372036854775808 ≤ n) (h2 : n ≤ 9223372036854775807) (hk : 0 < k) (hk2 : k ≤ 9223372036854775807) :
    Calls Tryd.prog 17 #[.int .i64 n, .int .i64 k] w fun e w' => e = .returned (.int .i64 (n % k)) ∧ w = w' := by
  have hm := tmod_mod n k hk
  have hb := tmod_bd n k hk
  have Hm := Lib.hid hm
  have Hb := Lib.hid hb
  clear hm hb
  go_enter Tryd.func17, Tryd.ntmps17
  go_wp2_with fail
  all_goals go_ret
  · have hb := Hb.out
    rw [Hm.out, if_pos ‹_›]
    have e : wrap64 (n.tmod k + k) = n.tmod k + k := by unfold wrap64; omega
    exact ⟨by show Ending.returned (Value.int .i64 (wrap64 (n.tmod k + k))) = _; rw [e], rfl⟩
  · rw [Hm.out, if_neg (by omega)]
    exact ⟨rfl, rfl⟩
end Go.Proofs.YtgkamdgegfioiaaDoor
