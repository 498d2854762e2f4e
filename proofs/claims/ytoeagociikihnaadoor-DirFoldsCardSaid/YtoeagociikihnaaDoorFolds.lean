/- The walk of the law DirFolds. Conditions: the two tables of unicode/utf8 lie as Go lays them; the name has fewer than 2^47 bytes. -/
import Derived.Test.YtoeagociikihnaaDoorGoodw
namespace Go.Proofs.YtoeagociikihnaaDoor
open Go.RowKit
set_option linter.unusedSimpArgs false
set_option linter.unusedVariables false
theorem folds_calls (s : ByteArray) (w : World) (hs : s.size ≤ 140737488355320) (hT : Lib.Utf8Tabs 0 1 w) (hg : 1 < w.heap.size) :
    Calls Tryd.prog 4 #[.string s] w fun e w' => e = .returned (.bool true) ∧ Below w.heap.size w w' := by
  have HT := Lib.hid hT
  have H1 := Lib.hid (fold_calls s w hs hT hg)
  have H2 := Lib.hid (fun W hT hg => refFold_calls s W hs hT hg)
  have hFF := ba_refl ⟨(fold s.data.toList).toArray⟩
  generalize (⟨(fold s.data.toList).toArray⟩ : ByteArray) = F at *
  clear hT
  go_enter Tryd.func4, Tryd.ntmps4
  go_wp2_with fail
  refine (H1.out).mono ?_
  rintro e W1 ⟨rfl, b1⟩
  have Hb1 := Lib.hid b1
  clear b1
  go_wp2_with fail
  refine (H2.out W1 (tabs_below HT.out Hb1.out hg) (by have := Hb1.out.size; omega)).mono ?_
  rintro e W2 ⟨rfl, b2⟩
  have Hb2 := Lib.hid (Hb1.out.trans (b2.mono Hb1.out.size))
  clear b2
  go_wp2_with fail
  refine (good_calls s W2).mono ?_
  rintro e W3 ⟨rfl, b3⟩
  have Hb3 := Lib.hid (Hb2.out.trans (b3.mono Hb2.out.size))
  clear b3
  go_wp2_with fail
  refine (refGood_calls s W3 hs).mono ?_
  rintro e W4 ⟨rfl, b4⟩
  have Hb4 := Lib.hid (Hb3.out.trans (b4.mono Hb3.out.size))
  clear b4
  generalize goodB s = gb at *
  have hgb : (gb == gb) = true := by simp
  go_wp2_with fail
  go_ret
  exact ⟨rfl, Hb4.out⟩
end Go.Proofs.YtoeagociikihnaaDoor
