/- The walks of plain.made, plain.SpaceNew, plain.Space.Take. Condition: errors.errorType holds its handle. -/
import Derived.Test.YtgkamdgegfioiaaDoorStk
import Derived.Test.YtgkamdgegfioiaaDoorTell
namespace Go.Proofs.YtgkamdgegfioiaaDoor
open Go.RowKit
set_option linter.unusedSimpArgs false
set_option linter.unusedVariables false
set_option maxHeartbeats 1000000 in
theorem made_err (c : Int) (b : Bool) (w : World) (hc : c ≠ 0) (hg : ErrH w) : Calls Tryd.prog 22 #[errE c, .bool b] w fun e w' => e = .returned (.int .i64 c) ∧ Below w.heap.size w w' := by
  have hq := number_calls c w hg
  rw [show errV c = errE c from by unfold errV errE; rw [if_neg hc]] at hq
  have Hq := Lib.hid hq
  clear hq
  unfold errE at *
  go_enter Tryd.func22, Tryd.ntmps22
  go_wp2_with fail
  refine (Hq.out).mono ?_
  rintro e w' ⟨rfl, hb⟩
  have Hb := Lib.hid hb
  clear hb
  go_wp2_with fail
  go_ret
  exact ⟨rfl, Hb.out⟩
set_option maxHeartbeats 1000000 in
theorem made_nil (w : World) : Calls Tryd.prog 22 #[.nilIface, .bool true] w fun e w' => e = .returned (.int .i64 0) ∧ Below w.heap.size w w' := by
  have Hq := Lib.hid (number_nil w)
  go_enter Tryd.func22, Tryd.ntmps22
  go_wp2_with fail
  refine (Hq.out).mono ?_
  rintro e w' ⟨rfl, hb⟩
  have Hb := Lib.hid hb
  clear hb
  go_wp2_with fail
  go_ret
  exact ⟨rfl, Hb.out⟩
theorem Chg.setCell (w : World) (b o : Nat) (v : Value) : Chg w (w.setCell ⟨b, o, none⟩ v) (fun k => k = b) :=
  ⟨rfl, rfl, rfl, by simp, fun k _ hs => heap_setCell_other w _ k v hs⟩
theorem Sp.mono {w : World} {B B' R r : Nat} {v : Value} {ps : List Pc} (h : Sp w B R v r ps) (hb : B' ≤ B) : Sp w B' R v r ps := ⟨Nat.le_trans hb h.hR, h.row, h.own.mono hb, h.wf, h.hr⟩
set_option maxHeartbeats 1000000 in
theorem spaceNew_calls (n : Nat) (w : World) (h : n ≤ 1073741824) : Calls Tryd.prog 7 #[.int .i64 (n : Int)] w fun e w' => ∃ R, e = .returned (.tuple #[.agg #[.pointer (some ⟨R, 0, none⟩)], .int .i64 0]) ∧ Sp w' w.heap.size R (.slice none 0 0) n [] ∧ Below w.heap.size w w' := by
  have HN := fun W => Lib.hid (new_calls n W h)
  go_enter Tryd.func7, Tryd.ntmps7
  go_wp2_with fail
  refine ((HN _).out).mono ?_
  rintro e W1 ⟨rfl, hs, hb⟩
  have HS := Lib.hid hs
  have Hb := Lib.hid hb
  clear hs hb HN
  go_wp2_with fail
  refine (made_nil W1).mono ?_
  rintro e W2 ⟨rfl, hb2⟩
  have HS2 := Lib.hid (HS.out.below hb2)
  have Hb2 := Lib.hid (Hb.out.trans (hb2.mono Hb.out.size))
  clear hb2
  have hbx : W2.heap[w.heap.size]? = some (.cells #[.pointer none] 26 (0, 0)) := (Hb2.out.block w.heap.size (by simp)).trans (heap_alloc_new w _)
  have hb0 : W2.cell? ⟨w.heap.size, 0, none⟩ = some (.pointer none) := by rw [cell_of_row _ _ _ _ _ _ hbx]; rfl
  have hf0 : W2.frozen? ⟨w.heap.size, 0, none⟩ = false := frozen_of_row _ _ _ _ _ hbx
  have hb1 : (W2.setCell ⟨w.heap.size, 0, none⟩ (.pointer (some ⟨w.heap.size + 1, 0, none⟩))).cell? ⟨w.heap.size, 0, none⟩ = some (.pointer (some ⟨w.heap.size + 1, 0, none⟩)) := World.cell?_setCell_same _ _ _ hb0
  clear hbx
  go_wp2_with fail
  refine bodyPost_ret (v := .tuple #[.agg #[.pointer (some ⟨w.heap.size + 1, 0, none⟩)], .int .i64 0]) (by simp [results, Tryd.results7, go_sem, hb1]) rfl ⟨w.heap.size + 1, rfl, ?_, ?_⟩
  · have h1 := HS2.out
    rw [World.size_alloc] at h1
    exact (h1.mono (by omega)).kept (Chg.setCell _ _ _ _) (by omega) (fun k hk => by cases hk)
  · have h1 := Hb2.out
    rw [World.size_alloc] at h1
    exact (((Below.refl _ w).alloc (Nat.le_refl _) _).trans (h1.mono (by omega))).setCell (Nat.le_refl _) _
theorem ErrH.chg {w w' : World} {S : Nat → Prop} (h : ErrH w) (hc : Chg w w' S) (hs : ¬ S 0) : ErrH w' := by
  have h1 := hc.block 0 (World.block_lt_of_cell? w _ h) hs
  exact (World.cell?_of_block h1).trans h
def PTakePost (w : World) (B R : Nat) (v : Value) (r : Nat) (ps : List Pc) (n tag : Nat) (e : Ending) (w' : World) : Prop :=
  match insF r n tag 0 ps with
  | none => e = .returned (.tuple #[.int .i64 0, .int .i64 8]) ∧ Below w.heap.size w w'
  | some (k, qs) => e = .returned (.tuple #[.int .i64 (k : Int), .int .i64 0]) ∧ ∃ v', Sp w' B R v' r qs ∧ Chg w w' (fun j => j = R ∨ rowOf v = some j) ∧ Lies w v v'
theorem Lies.base {w W : World} {v v' : Value} (h : Lies W v v') (hs : w.heap.size ≤ W.heap.size) : Lies w v v' := by
  rcases h with e | ⟨k, e, hk⟩
  · exact .inl e
  · exact .inr ⟨k, e, Nat.le_trans hs hk⟩
set_option maxHeartbeats 1000000 in
theorem pTake_calls (w : World) (B R : Nat) (v : Value) (r : Nat) (ps : List Pc) (n tag : Nat) (h : Sp w B R v r ps) (hB : B ≤ w.heap.size) (hn1 : 1 ≤ n) (hn : n ≤ 9223372036854775807) (ht : tag < 18446744073709551616) (hg : ErrH w) (hgB : 0 < B) :
    Calls Tryd.prog 8 #[.agg #[.pointer (some ⟨R, 0, none⟩)], .int .i64 (n : Int), .int .u64 (tag : Int)] w fun e w' => PTakePost w B R v r ps n tag e w' := by
  have h1 := h.below ((Below.refl _ _).alloc (Nat.le_refl _) (.cells #[.pointer (some ⟨R, 0, none⟩)] 26))
  have hq := take_calls _ B R v r ps n tag h1 (by simp; omega) hn1 hn ht
  have hsz : w.heap.size ≤ (w.alloc (.cells #[.pointer (some ⟨R, 0, none⟩)] 26)).heap.size := by simp
  have Hb0 := Lib.hid (show Below w.heap.size w (w.alloc (.cells #[.pointer (some ⟨R, 0, none⟩)] 26)) from (Below.refl _ _).alloc (Nat.le_refl _) _)
  have Hsz := Lib.hid hsz
  have Hown := Lib.hid (And.intro h hg)
  unfold TakePost at hq
  unfold PTakePost
  cases hT : insF r n tag 0 ps with
  | none =>
    rw [hT] at hq
    have Hq := Lib.hid hq
    clear hq hT h h1 hg
    go_enter Tryd.func8, Tryd.ntmps8
    go_wp2_with fail
    refine (Hq.out).mono ?_
    rintro e W1 ⟨rfl, hb⟩
    have Hb := Lib.hid (Hb0.out.trans (hb.mono Hsz.out))
    have hn8 := number_calls 8 W1 (Hown.out.2.below Hown.out.2.lt Hb.out)
    rw [show errV 8 = errE 8 from rfl] at hn8
    have Hn8 := Lib.hid hn8
    clear hn8 hb Hq
    unfold errE at *
    go_wp2_with fail
    refine (Hn8.out).mono ?_
    rintro e W2 ⟨rfl, hb2⟩
    have Hb2 := Lib.hid (Hb.out.trans (hb2.mono Hb.out.size))
    clear hb2
    go_wp2_with fail
    go_ret2
    exact ⟨rfl, Hb2.out⟩
  | some T =>
    obtain ⟨k, qs⟩ := T
    rw [hT] at hq
    have Hq := Lib.hid hq
    clear hq hT h h1 hg
    go_enter Tryd.func8, Tryd.ntmps8
    go_wp2_with fail
    refine (Hq.out).mono ?_
    rintro e W1 ⟨rfl, v', hs, hc, hl⟩
    have HS := Lib.hid hs
    have HC := Lib.hid ((Chg.ofBelow Hb0.out _).trans hc)
    have HL := Lib.hid (hl.base Hsz.out)
    clear hs hc hl Hq
    go_wp2_with fail
    refine (number_nil W1).mono ?_
    rintro e W2 ⟨rfl, hb2⟩
    have HS2 := Lib.hid (HS.out.below hb2)
    have HC2 := Lib.hid (HC.out.trans (Chg.ofBelow hb2 _))
    clear hb2
    go_wp2_with fail
    go_ret2
    exact ⟨rfl, v', HS2.out, HC2.out, HL.out⟩
end Go.Proofs.YtgkamdgegfioiaaDoor
