/- The walks of space.New, piece.end, (*Space).Take. -/
import Derived.Test.YtgkamdgegfioiaaDoorSpi
import Derived.Laws.Cover3
namespace Go.Proofs.YtgkamdgegfioiaaDoor
open Go.RowKit
set_option linter.unusedSimpArgs false
set_option linter.unusedVariables false
/-- nothing but the blocks S is another -/
structure Chg (w w' : World) (S : Nat → Prop) : Prop where
  os : w'.os = w.os
  tape : w'.tape = w.tape
  output : w'.output = w.output
  size : w.heap.size ≤ w'.heap.size
  block : ∀ k, k < w.heap.size → ¬ S k → w'.heap[k]? = w.heap[k]?
theorem Chg.refl (w : World) (S : Nat → Prop) : Chg w w S := ⟨rfl, rfl, rfl, Nat.le_refl _, fun _ _ _ => rfl⟩
theorem Chg.trans {a b c : World} {S : Nat → Prop} (h : Chg a b S) (k : Chg b c S) : Chg a c S :=
  ⟨k.os.trans h.os, k.tape.trans h.tape, k.output.trans h.output, Nat.le_trans h.size k.size, fun j hj hs => (k.block j (Nat.lt_of_lt_of_le hj h.size) hs).trans (h.block j hj hs)⟩
/-- .. where the second may besides turn what is new -/
theorem Chg.trans2 {a b c : World} {S T : Nat → Prop} (h : Chg a b S) (k : Chg b c T) (ht : ∀ j, j < a.heap.size → T j → S j) : Chg a c S :=
  ⟨k.os.trans h.os, k.tape.trans h.tape, k.output.trans h.output, Nat.le_trans h.size k.size, fun j hj hs => (k.block j (Nat.lt_of_lt_of_le hj h.size) (fun t => hs (ht j hj t))).trans (h.block j hj hs)⟩
theorem Chg.mono {a b : World} {S T : Nat → Prop} (h : Chg a b S) (hs : ∀ k, k < a.heap.size → S k → T k) : Chg a b T := ⟨h.os, h.tape, h.output, h.size, fun j hj ht => h.block j hj (fun s => ht (hs j hj s))⟩
theorem Chg.ofBelow {a b : World} (h : Below a.heap.size a b) (S : Nat → Prop) : Chg a b S := ⟨h.os, h.tape, h.output, h.size, fun j hj _ => h.block j hj⟩
theorem Chg.ofGrown {a b : World} {row : Option Nat} (h : a.grownBy b row) : Chg a b (fun k => row = some k) := ⟨h.os, h.tape, h.output, h.size, fun j hj hs => h.block j hj (fun e => hs e.symm)⟩
theorem Chg.below {w a b : World} {B : Nat} {S : Nat → Prop} (hb : Below B w a) (h : Chg a b S) (hs : ∀ k, S k → B ≤ k) (hB : B ≤ a.heap.size) : Below B w b :=
  ⟨h.os.trans hb.os, h.tape.trans hb.tape, h.output.trans hb.output, Nat.le_trans hb.size h.size, fun k hk => (h.block k (by omega) (fun s => by have := hs k s; omega)).trans (hb.block k hk)⟩
theorem Chg.toBelow {a b : World} (h : Chg a b (fun _ => False)) : Below a.heap.size a b := ⟨h.os, h.tape, h.output, h.size, fun k hk => h.block k hk (fun f => f)⟩
/-- block R is a space of r rows with these pieces; its slice is v -/
structure Sp (w : World) (B R : Nat) (v : Value) (r : Nat) (ps : List Pc) : Prop where
  hR : B ≤ R
  row : w.heap[R]? = some (.cells #[.int .i64 (r : Int), v] 88 (0, 0))
  own : OwnS w B v ps
  wf : Wf r 0 ps
  hr : r ≤ 1073741824
theorem Sp.len {w : World} {B R r : Nat} {v : Value} {ps : List Pc} (h : Sp w B R v r ps) : ps.length ≤ 1073741824 := by
  have h1 := h.wf.len
  have h2 := h.hr
  omega
theorem Sp.ne {w : World} {B R r : Nat} {v : Value} {ps : List Pc} (h : Sp w B R v r ps) : rowOf v ≠ some R := fun e => by
  obtain ⟨_, _, C, hC⟩ := h.own.row R e
  rw [h.row] at hC
  injection hC with hC
  injection hC with _ h2 _
  exact absurd h2 (by decide)
theorem Sp.kept {w w' : World} {B R r : Nat} {v : Value} {ps : List Pc} {S : Nat → Prop} (h : Sp w B R v r ps) (hc : Chg w w' S) (h1 : ¬ S R) (h2 : ∀ k, rowOf v = some k → ¬ S k) : Sp w' B R v r ps := by
  refine ⟨h.hR, (hc.block R (Array.getElem?_eq_some_iff.1 h.row).1 h1).trans h.row, ?_, h.wf, h.hr⟩
  obtain ⟨A, c, rfl, a1, a2, a3⟩ := h.own
  refine ⟨A, c, rfl, a1, a2, ?_⟩
  by_cases hc0 : c = 0
  · exact .inl hc0
  · rcases a3 with rfl | ⟨g, L, rfl, hB, hL, h5⟩
    · exact .inl rfl
    · exact .inr ⟨g, L, rfl, hB, (hc.block g (Array.getElem?_eq_some_iff.1 hL).1 (h2 g (by simp [rowOf, hc0]))).trans hL, h5⟩
theorem Sp.below {w w' : World} {B R r : Nat} {v : Value} {ps : List Pc} (h : Sp w B R v r ps) (hb : Below w.heap.size w w') : Sp w' B R v r ps := h.kept (Chg.ofBelow hb (fun _ => False)) (fun f => f) (fun _ _ f => f)
theorem Sp.cells {w : World} {B R r : Nat} {v : Value} {ps : List Pc} (h : Sp w B R v r ps) : w.cell? ⟨R, 0, none⟩ = some (.int .i64 (r : Int)) ∧ w.cell? ⟨R, 1, none⟩ = some v ∧ (∀ k, w.frozen? ⟨R, k, none⟩ = false) :=
  ⟨by rw [cell_of_row _ _ _ _ _ _ h.row]; rfl, by rw [cell_of_row _ _ _ _ _ _ h.row]; rfl, fun k => frozen_of_row _ _ _ _ _ h.row⟩
/-- the slice is another -/
theorem Sp.put {w W : World} {B R r : Nat} {v v' : Value} {ps qs : List Pc} (h : Sp w B R v r ps) (ho : OwnS W B v' qs) (hg : w.grownBy W (rowOf v)) (hl : Lies w v v') (hq : Wf r 0 qs) :
    Sp (W.setCell ⟨R, 1, none⟩ v') B R v' r qs ∧ Chg w (W.setCell ⟨R, 1, none⟩ v') (fun k => k = R ∨ rowOf v = some k) ∧ W.frozen? ⟨R, 1, none⟩ = false ∧ W.cell? ⟨R, 1, none⟩ = some v := by
  have hRl := (Array.getElem?_eq_some_iff.1 h.row).1
  have hrow : W.heap[R]? = some (.cells #[.int .i64 (r : Int), v] 88 (0, 0)) := (hg.block R hRl (fun e => h.ne e.symm)).trans h.row
  have hset : W.setCell ⟨R, 1, none⟩ v' = W.setRow R #[.int .i64 (r : Int), v'] := by
    rw [setCell_eq_setRow _ _ _ _ _ _ _ hrow]; rfl
  have hvR : rowOf v' ≠ some R := by
    rcases hl with e | ⟨k, e, hk⟩
    · rw [e]; exact h.ne
    · rw [e]; intro e2; cases e2; omega
  refine ⟨⟨h.hR, ?_, ?_, hq, h.hr⟩, ⟨hg.os, hg.tape, hg.output, by simpa using hg.size, fun k hk hs => ?_⟩, frozen_of_row _ _ _ _ _ hrow, by rw [cell_of_row _ _ _ _ _ _ hrow]; rfl⟩
  · rw [hset]; exact setRow_heap _ _ _ _ _ _ hrow
  · refine ho.kept (row := some R) ?_ (fun k hk e => hvR (by rw [hk]; exact e.symm))
    rw [hset]
    exact ⟨rfl, rfl, rfl, by simp, fun k hk hne => setRow_other _ _ _ _ (fun e => hne (by rw [e]))⟩
  · rw [hset, setRow_other _ _ _ _ (fun e => hs (.inl e))]
    exact hg.block k hk (fun e => hs (.inr e.symm))
def errE (c : Int) : Value := .iface 27 (.int .i64 c)
set_option maxHeartbeats 1000000 in
theorem new_bad (n : Int) (w : World) (h : n < 0 ∨ 1073741824 < n) : Calls Tryd.prog 21 #[.int .i64 n] w fun e w' => e = .returned (.tuple #[.pointer none, errE 5]) ∧ w = w' := by
  rcases h with h | h
  · go_enter Tryd.func21, Tryd.ntmps21
    go_wp2_with fail
    go_ret2
    exact ⟨rfl, rfl⟩
  · have h' : ¬ n < 0 := by omega
    go_enter Tryd.func21, Tryd.ntmps21
    go_wp2_with fail
    go_ret2
    exact ⟨rfl, rfl⟩
set_option maxHeartbeats 1000000 in
theorem new_calls (n : Nat) (w : World) (h : n ≤ 1073741824) : Calls Tryd.prog 21 #[.int .i64 (n : Int)] w fun e w' => e = .returned (.tuple #[.pointer (some ⟨w.heap.size, 0, none⟩), .nilIface]) ∧ Sp w' w.heap.size w.heap.size (.slice none 0 0) n [] ∧ Below w.heap.size w w' := by
  have h1 : ¬ (n : Int) < 0 := by omega
  have h2 : ¬ (1073741824 : Int) < (n : Int) := by omega
  go_enter Tryd.func21, Tryd.ntmps21
  go_wp2_with fail
  go_ret2
  exact ⟨rfl, ⟨Nat.le_refl _, heap_alloc_new w _, OwnS.nil _ _, Nat.zero_le _, h⟩, (Below.refl _ _).alloc (Nat.le_refl _) _⟩
set_option maxHeartbeats 1000000 in
theorem end_calls (p : Pc) (w : World) (h : p.fin ≤ 9223372036854775807) : Calls Tryd.prog 48 #[.agg #[.int .i64 (p.at_ : Int), .int .i64 (p.n : Int), .int .i64 (p.cnt : Int), .int .u64 (p.tag : Int), .bool p.old]] w fun e w' => e = .returned (.int .i64 (p.fin : Int)) ∧ w' = w.alloc (.cells (pcA p) 90) := by
  obtain ⟨a, n, c, t, o⟩ := p
  have h1 : (a : Int) + (n : Int) ≤ 9223372036854775807 := by
    have : a + n ≤ 9223372036854775807 := h
    omega
  go_enter Tryd.func48, Tryd.ntmps48
  go_wp2_with fail
  go_ret
  exact ⟨by go_num, rfl⟩
end Go.Proofs.YtgkamdgegfioiaaDoor
