/- The walk of alike on two slices of slices that read as the same lists. -/
import Derived.Test.YtfajgnaphekdhaaDoorPall
namespace Go.Proofs.YtfajgnaphekdhaaDoor
open Go.RowKit
set_option linter.unusedSimpArgs false
set_option linter.unusedVariables false
set_option maxHeartbeats 1000000 in
set_option maxRecDepth 100000 in
theorem alike_calls (A B : Option Addr) (c d : Nat) (ls : List (List UInt8)) (w : World) (ha : RdL w A ls) (hb : RdL w B ls) (hl : ls.length ≤ 1000) :
    Calls Tryd.prog 11 #[.slice A ls.length c, .slice B ls.length d] w fun e w' => e = .returned (.bool true) ∧ Below w.heap.size w w' := by
  obtain ⟨iS, hiS, hsz⟩ := infoS
  have Ha := Lib.hid ha
  have Hb := Lib.hid hb
  have hq0 := Lib.hid (Below.refl w.heap.size w)
  clear ha hb
  have hne : ((ls.length : Int) != (ls.length : Int)) = false := by simp
  go_enter Tryd.func11, Tryd.ntmps11
  go_wp2_with fail
  go_loopw [5] (fun i wr => ∃ k : Nat, k ≤ ls.length ∧ i = .int .i64 k ∧ Hid (Below w.heap.size w wr)) (fun i _ => ls.length - (intOf i).toNat)
  case atStart => exact ⟨0, by omega, rfl, hq0⟩
  case round =>
    obtain ⟨k, hk, rfl, H⟩ := hrel
    by_cases hlt : k < ls.length
    · obtain ⟨aa, A1, c1, e1, ca, ra, _⟩ := (Ha.out.below H.out) k hlt
      obtain ⟨ab, B1, d1, e2, cb, rb, _⟩ := (Hb.out.below H.out) k hlt
      subst e1 e2
      have hs := Lib.hid (fun (wq : World) (hh : wq.heap = wr.heap) => same_calls A1 B1 c1 d1 ls[k] ls[k] wq (ra.keep (fun a v hc => by simpa [World.cell?, hh] using hc)) (rb.keep (fun a v hc => by simpa [World.cell?, hh] using hc)))
      have hself : (ls[k] == ls[k]) = true := by simp
      rw [hself] at hs
      clear ra rb hself
      generalize ls[k].length = m at *
      go_wp2_with fail
      go_region_with (go_at_call 26; (first | refine (hs.out wr.drew rfl).mono ?_ | refine (hs.out wr rfl).mono ?_); rintro e w' ⟨rfl, rfl⟩)
      all_goals
        go_wp2_with fail
        exact ⟨⟨k + 1, by omega, by go_num, by first | exact H | exact Lib.hid H.out.drew⟩, by simp [intOf]; omega⟩
    · obtain rfl : k = ls.length := by omega
      go_wp2_with fail
      go_ret
      exact ⟨rfl, H.out⟩
end Go.Proofs.YtfajgnaphekdhaaDoor
