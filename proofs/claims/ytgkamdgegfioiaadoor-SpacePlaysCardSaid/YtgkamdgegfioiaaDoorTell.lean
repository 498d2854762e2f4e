/- api.Tell and plain.number: the number of an error of api's; 0 of none. Condition: the library's variable errors.errorType holds its handle. -/
import Derived.Test.YtgkamdgegfioiaaDoorAs
namespace Go.Proofs.YtgkamdgegfioiaaDoor
open Go.RowKit
set_option linter.unusedSimpArgs false
set_option linter.unusedVariables false
set_option maxHeartbeats 1000000 in
theorem tell_nil (w : World) :
    Calls Tryd.prog 50 #[.nilIface] w fun e w' => e = .returned (.int .i64 0) ∧ Below w.heap.size w w' := by
  go_enter Tryd.func50, Tryd.ntmps50
  go_wp2_with fail
  go_ret
  exact ⟨rfl, (Below.refl _ _).alloc (Nat.le_refl _) _⟩
set_option maxHeartbeats 1000000 in
theorem tell_some (c : Int) (w : World) (hg : ErrH w) :
    Calls Tryd.prog 50 #[.iface 27 (.int .i64 c)] w fun e w' => e = .returned (.int .i64 c) ∧ Below w.heap.size w w' := by
  have hg1 : ErrH (w.alloc (.cells #[.int .i64 0] 27)) := hg.below hg.lt ((Below.refl _ _).alloc (Nat.le_refl _) _)
  have Hg1 := Lib.hid hg1
  clear hg1 hg
  go_enter Tryd.func50, Tryd.ntmps50
  go_wp2_with fail
  refine (as_hit c ⟨w.heap.size, 0, none⟩ (.int .i64 0) _ Hg1.out (by simp) (by simp)).mono ?_
  rintro e w' ⟨rfl, hw'⟩
  have hc : w'.cell? ⟨w.heap.size, 0, none⟩ = some (.int .i64 c) := by
    rw [hw', World.setCell_alloc_past _ _ _ _ (by first | (simp; done) | (simp; omega)), World.setCell_alloc_past _ _ _ _ (by first | (simp; done) | (simp; omega)), World.setCell_alloc_past _ _ _ _ (by first | (simp; done) | (simp; omega)), World.setCell_alloc_past _ _ _ _ (by first | (simp; done) | (simp; omega)), World.setCell_alloc_at _ _ _ _ _ rfl,
      World.cell?_alloc_past _ _ _ (by first | (simp; done) | (simp; omega)), World.cell?_alloc_past _ _ _ (by first | (simp; done) | (simp; omega)), World.cell?_alloc_past _ _ _ (by first | (simp; done) | (simp; omega)), World.cell?_alloc_past _ _ _ (by first | (simp; done) | (simp; omega)), World.cell?_alloc_at _ _ _ _ rfl]
    rfl
  have Hb : Hid (Below w.heap.size w w') := by
    rw [hw']
    exact Below.setCell (((((((Below.refl w.heap.size w).alloc (Nat.le_refl _) _).alloc (by first | (simp; done) | (simp; omega)) _).alloc (by first | (simp; done) | (simp; omega)) _).alloc (by first | (simp; done) | (simp; omega)) _).alloc (by first | (simp; done) | (simp; omega)) _)) (Nat.le_refl _) _
  clear hw'
  go_wp2_with fail
  go_ret
  exact ⟨rfl, Hb.out⟩
theorem number_nil (w : World) :
    Calls Tryd.prog 24 #[.nilIface] w fun e w' => e = .returned (.int .i64 0) ∧ Below w.heap.size w w' := by
  go_enter Tryd.func24, Tryd.ntmps24
  go_wp2_with fail
  refine (tell_nil w).mono ?_
  rintro e w' ⟨rfl, hb⟩
  have Hb := Lib.hid hb
  clear hb
  go_wp2_with fail
  go_ret
  exact ⟨rfl, Hb.out⟩
theorem number_some (c : Int) (w : World) (hg : ErrH w) :
    Calls Tryd.prog 24 #[.iface 27 (.int .i64 c)] w fun e w' => e = .returned (.int .i64 c) ∧ Below w.heap.size w w' := by
  go_enter Tryd.func24, Tryd.ntmps24
  go_wp2_with fail
  refine (tell_some c w hg).mono ?_
  rintro e w' ⟨rfl, hb⟩
  have Hb := Lib.hid hb
  clear hb
  go_wp2_with fail
  go_ret
  exact ⟨rfl, Hb.out⟩
/-- the error of a number: none of 0 -/
def errV (c : Int) : Value := if c = 0 then .nilIface else .iface 27 (.int .i64 c)
theorem number_calls (c : Int) (w : World) (hg : ErrH w) :
    Calls Tryd.prog 24 #[errV c] w fun e w' => e = .returned (.int .i64 c) ∧ Below w.heap.size w w' := by
  unfold errV
  split
  · rename_i h; subst h; exact number_nil w
  · exact number_some c w hg
end Go.Proofs.YtgkamdgegfioiaaDoor
