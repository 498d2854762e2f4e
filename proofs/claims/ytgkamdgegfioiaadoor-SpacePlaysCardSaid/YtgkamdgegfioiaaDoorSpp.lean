/- The walks of plain.Space.Share, Drop, Turn. Condition: errors.errorType holds its handle. -/
import Derived.Test.YtgkamdgegfioiaaDoorSop
import Derived.Test.YtgkamdgegfioiaaDoorSpn
namespace Go.Proofs.YtgkamdgegfioiaaDoor
open Go.RowKit
set_option linter.unusedSimpArgs false
set_option linter.unusedVariables false
/-- what a wrapped call leaves -/
def PopPost (w : World) (B R : Nat) (v : Value) (r : Nat) (x : Int × List Pc) (e : Ending) (w' : World) : Prop :=
  e = .returned (.int .i64 x.1) ∧ ∃ v', Sp w' B R v' r x.2 ∧ Chg w w' (fun j => j = R ∨ rowOf v = some j) ∧ Lies w v v'
theorem Sp.above {w : World} {B R r : Nat} {v : Value} {ps : List Pc} (h : Sp w B R v r ps) : ∀ j, (j = R ∨ rowOf v = some j) → B ≤ j := fun j hj => by
  rcases hj with rfl | e
  · exact h.hR
  · exact (h.own.row j e).1
theorem errO_V (c : Int) : errO c = errV c := rfl
set_option maxHeartbeats 1000000 in
theorem pShare_calls (w : World) (B R : Nat) (v : Value) (r : Nat) (ps : List Pc) (k : Int) (h : Sp w B R v r ps) (hg : ErrH w) (hgB : 0 < B) :
    Calls Tryd.prog 15 #[.agg #[.pointer (some ⟨R, 0, none⟩)], .int .i64 k] w fun e w' => PopPost w B R v r (shareS k ps) e w' := by
  have hb0 : Below w.heap.size w (w.alloc (.cells #[.pointer (some ⟨R, 0, none⟩)] 26)) := (Below.refl _ _).alloc (Nat.le_refl _) _
  have Hq := Lib.hid (share_calls _ B R v r ps k (h.below hb0))
  have HA := Lib.hid (And.intro h (And.intro hg hb0))
  obtain ⟨x, hx⟩ : ∃ x, shareS k ps = x := ⟨_, rfl⟩
  rw [hx] at Hq ⊢
  clear h hg hb0 hx
  go_enter Tryd.func15, Tryd.ntmps15
  go_wp2_with fail
  refine (Hq.out).mono ?_
  rintro e W1 ⟨rfl, v', hs, hc, hl⟩
  obtain ⟨h, hg, hb0⟩ := HA.out
  have hc1 := (Chg.ofBelow hb0 (fun j => j = R ∨ rowOf v = some j)).trans hc
  have Hn := Lib.hid (number_calls x.1 W1 (hg.chg hc1 (fun e => by have := h.above _ e; omega)))
  have HP := Lib.hid (And.intro hs (And.intro hc1 (hl.base hb0.size)))
  rw [errO_V]
  obtain ⟨y, hy⟩ : ∃ y, errV x.1 = y := ⟨_, rfl⟩
  rw [hy] at Hn ⊢
  clear h hg hb0 hs hc hl hc1 HA Hq hy
  go_wp2_with fail
  refine (Hn.out).mono ?_
  rintro e W2 ⟨rfl, hb2⟩
  have HP2 := Lib.hid (show PopPost w B R v r x (.returned (.int .i64 x.1)) W2 from ⟨rfl, v', HP.out.1.below hb2, HP.out.2.1.trans (Chg.ofBelow hb2 _), HP.out.2.2⟩)
  clear HP Hn hb2
  go_wp2_with fail
  go_ret
  exact HP2.out
set_option maxHeartbeats 1000000 in
theorem pDrop_calls (w : World) (B R : Nat) (v : Value) (r : Nat) (ps : List Pc) (k : Int) (h : Sp w B R v r ps) (hg : ErrH w) (hgB : 0 < B) :
    Calls Tryd.prog 14 #[.agg #[.pointer (some ⟨R, 0, none⟩)], .int .i64 k] w fun e w' => PopPost w B R v r (dropS k ps) e w' := by
  have hb0 : Below w.heap.size w (w.alloc (.cells #[.pointer (some ⟨R, 0, none⟩)] 26)) := (Below.refl _ _).alloc (Nat.le_refl _) _
  have Hq := Lib.hid (drop_calls _ B R v r ps k (h.below hb0))
  have HA := Lib.hid (And.intro h (And.intro hg hb0))
  obtain ⟨x, hx⟩ : ∃ x, dropS k ps = x := ⟨_, rfl⟩
  rw [hx] at Hq ⊢
  clear h hg hb0 hx
  go_enter Tryd.func14, Tryd.ntmps14
  go_wp2_with fail
  refine (Hq.out).mono ?_
  rintro e W1 ⟨rfl, v', hs, hc, hl⟩
  obtain ⟨h, hg, hb0⟩ := HA.out
  have hc1 := (Chg.ofBelow hb0 (fun j => j = R ∨ rowOf v = some j)).trans hc
  have Hn := Lib.hid (number_calls x.1 W1 (hg.chg hc1 (fun e => by have := h.above _ e; omega)))
  have HP := Lib.hid (And.intro hs (And.intro hc1 (hl.base hb0.size)))
  rw [errO_V]
  obtain ⟨y, hy⟩ : ∃ y, errV x.1 = y := ⟨_, rfl⟩
  rw [hy] at Hn ⊢
  clear h hg hb0 hs hc hl hc1 HA Hq hy
  go_wp2_with fail
  refine (Hn.out).mono ?_
  rintro e W2 ⟨rfl, hb2⟩
  have HP2 := Lib.hid (show PopPost w B R v r x (.returned (.int .i64 x.1)) W2 from ⟨rfl, v', HP.out.1.below hb2, HP.out.2.1.trans (Chg.ofBelow hb2 _), HP.out.2.2⟩)
  clear HP Hn hb2
  go_wp2_with fail
  go_ret
  exact HP2.out
set_option maxHeartbeats 1000000 in
theorem pTurn_calls (w : World) (B R : Nat) (v : Value) (r : Nat) (ps : List Pc) (h : Sp w B R v r ps) (hB : B ≤ w.heap.size) :
    Calls Tryd.prog 16 #[.agg #[.pointer (some ⟨R, 0, none⟩)]] w fun e w' => TurnPost w B R v r (turnS ps) e w' := by
  have hb0 : Below w.heap.size w (w.alloc (.cells #[.pointer (some ⟨R, 0, none⟩)] 26)) := (Below.refl _ _).alloc (Nat.le_refl _) _
  have Hq := Lib.hid (turn_calls _ B R v r ps (h.below hb0) (by simp; omega))
  have HA := Lib.hid (And.intro h hb0)
  obtain ⟨x, hx⟩ : ∃ x, turnS ps = x := ⟨_, rfl⟩
  rw [hx] at Hq ⊢
  clear h hb0 hx
  go_enter Tryd.func16, Tryd.ntmps16
  go_wp2_with fail
  refine (Hq.out).mono ?_
  rintro e W1 ⟨rfl, v', hs, hc, hl⟩
  obtain ⟨h, hb0⟩ := HA.out
  have HP2 := Lib.hid (show TurnPost w B R v r x (.returned (.tuple #[])) W1 from ⟨rfl, v', hs, (Chg.ofBelow hb0 _).trans hc, hl.base hb0.size⟩)
  clear h hb0 hs hc hl HA Hq
  go_wp2_with fail
  refine bodyPost_ret (v := .tuple #[]) (by simp [results, Tryd.results16]) rfl ?_
  exact HP2.out
end Go.Proofs.YtgkamdgegfioiaaDoor
