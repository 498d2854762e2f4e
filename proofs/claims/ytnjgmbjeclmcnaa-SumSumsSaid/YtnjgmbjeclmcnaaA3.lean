/- Walk of the law SumSums: it returns true and leaves what was there. Condition: the text has at most 2^47 bytes, as each row asks. -/
import Derived.Test.YtnjgmbjeclmcnaaA2
import Derived.Laws.CopyOwn
namespace Go.Proofs.Ytnjgmbjeclmcnaa
open Go.RowKit
set_option linter.unusedSimpArgs false
set_option linter.unusedVariables false
theorem lent_calls2 (A : Option Addr) (c : Nat) (bs : List UInt8) (w : World) (hn : bs.length ≤ 140737488351232) (hr : Rd w A bs) :
    Calls Try.prog 5 #[.slice A bs.length c] w fun e w' => ∃ g, e = .returned (.slice (some ⟨g, 0, none⟩) bs.length (bs.length + 9)) ∧ w'.heap[g]? = some (.cells (bArr (lentL bs 9)) 5 (0, 0)) ∧ w.heap.size ≤ g ∧ g < w'.heap.size ∧ Below w.heap.size w w' :=
  (lent_calls A c bs w hn hr).mono fun e w' ⟨he, hw⟩ => ⟨w.heap.size, he, by rw [hw]; exact heap_alloc_new w _, Nat.le_refl _, by rw [hw]; simp, by rw [hw]; exact (Below.refl _ _).alloc (Nat.le_refl _) _⟩
set_option maxHeartbeats 400000 in
theorem sumSums_calls (heq : ∀ bs, crc bs = rcrc bs) (bs : List UInt8) (w : World) (hn : bs.length ≤ 140737488351232) :
    Calls Try.prog 3 #[.string ⟨bs.toArray⟩] w fun e w' => e = .returned (.bool true) ∧ Below w.heap.size w w' := by
  have hconv := fun W => run_bytes_of (P := Try.prog) W 9 22 5 bs Try.underlying9 Try.underlying22 Try.underlying5
  have hsz := fun W => convW_size W bs 5
  have hst := heq bs
  generalize hx : rcrc bs = x at *
  have Hx := Lib.hid hx
  have Hst := Lib.hid hst
  have Heq := Lib.hid heq
  clear hx heq hst
  go_enter Try.func3, Try.ntmps3
  go_wp2_with fail
  refine (lent_calls2 _ _ _ _ hn (convW_rd w bs 5)).mono ?_
  rintro e w2 ⟨g1, rfl, hg1, hlo, hhi, hb2⟩
  have Hlo := Lib.hid hlo
  have Hg1 := Lib.hid hg1
  have Hb2 := Lib.hid hb2
  have Hhi := Lib.hid hhi
  clear hlo hg1 hb2 hhi
  have hr1 : Rd w2 (some ⟨g1, 0, none⟩) bs := Rd.block Hg1.out ⟨List.replicate 9 77, by simp [lentL]⟩
  go_wp2_with fail
  refine (sum_calls _ _ _ _ (by omega) hr1).mono ?_
  rintro e w' ⟨rfl, rfl⟩
  rw [Hst.out]
  go_wp2_with fail
  refine (back_calls g1 bs _ _ bs _ (by rw [convW_old w2 bs 5 g1 Hhi.out]; exact Hg1.out) hn rfl (convW_rd w2 bs 5)).mono ?_
  rintro e w4 ⟨rfl, hw4⟩
  have Hw4 := Lib.hid hw4
  clear hw4
  have et : (bs == bs) = true := by simp
  go_wp2_with fail
  refine (refSum_calls _ _ _ _ (by omega) (convW_rd w4 bs 5)).mono ?_
  rintro e w' ⟨rfl, rfl⟩
  rw [Hx.out]
  go_wp2_with fail
  go_ret
  refine ⟨by simp, ?_⟩
  have h1 : Below w.heap.size w (convW w bs 5) := convW_below w (Below.refl _ _) (Nat.le_refl _) bs 5
  have hs1 := hsz w
  have h2 : Below w.heap.size w w2 := h1.trans (Hb2.out.mono (by omega))
  have hlo := Hlo.out
  have hhi := Hhi.out
  have h3 : Below w.heap.size w (convW w2 bs 5) := convW_below w2 h2 (by omega) bs 5
  have hs3 := hsz w2
  have h4 : Below w.heap.size w w4 := by rw [Hw4.out]; exact below_setRow h3 (by omega) _
  have hs4 : w4.heap.size = w2.heap.size + 1 := by rw [Hw4.out]; simpa using hs3
  exact convW_below w4 h4 (by omega) bs 5
theorem sumSums_walk (a0 : ByteArray) (w : World) (w0 : a0.size ≤ 140737488351232) :
    Calls Try.prog 3 #[.string a0] w fun e w' => e = .returned (.bool true) ∧ Below w.heap.size w w' := by
  obtain ⟨⟨bs⟩⟩ := a0
  exact sumSums_calls crc_eq bs w w0
end Go.Proofs.Ytnjgmbjeclmcnaa
