/- The walks of the reference's grow, Grow, NewSpace, Copy. -/
import Derived.Test.YtgkamdgegfioiaaDoorRwt
namespace Go.Proofs.YtgkamdgegfioiaaDoor
open Go.RowKit
set_option linter.unusedSimpArgs false
set_option linter.unusedVariables false
/-- the rows are others, in another slice -/
theorem Rf.put {w W : World} {B Q : Nat} {u u' : Value} {L L' : List Rw} (h : Rf w B Q u L) (ho : OwnW W B u' L') (hg : w.grownBy W u.ownBlock) (hl : u'.ownBlock = u.ownBlock ∨ u'.ownBlock = some w.heap.size) (hn : L'.length ≤ 1073741824) :
    Rf (W.setCell ⟨Q, 0, none⟩ u') B Q u' L' ∧ Chg w (W.setCell ⟨Q, 0, none⟩ u') (RfS Q u) ∧ LiesW w u u' ∧ W.frozen? ⟨Q, 0, none⟩ = false ∧ W.cell? ⟨Q, 0, none⟩ = some u := by
  have hQl := (Array.getElem?_eq_some_iff.1 h.row).1
  have hrow : W.heap[Q]? = some (.cells #[u] 77 (0, 0)) := (hg.block Q hQl (fun e => h.ne e.symm)).trans h.row
  have hset : W.setCell ⟨Q, 0, none⟩ u' = W.setRow Q #[u'] := by rw [setCell_eq_setRow _ _ _ _ _ _ _ hrow]; rfl
  have hne : u'.ownBlock ≠ some Q := by
    rcases hl with e | e
    · rw [e]; exact h.ne
    · rw [e]; intro e2; cases e2; omega
  refine ⟨⟨h.hQ, ?_, ?_, hn⟩, ⟨hg.os, hg.tape, hg.output, by simpa using hg.size, fun k hk hs => ?_⟩, ?_, frozen_of_row _ _ _ _ _ hrow, by rw [cell_of_row _ _ _ _ _ _ hrow]; rfl⟩
  · rw [hset]; exact setRow_heap _ _ _ _ _ _ hrow
  · refine ho.chg (S := fun k => k = Q) ?_ (fun k hk e => hne (by rw [hk, e]))
    rw [hset]
    exact ⟨rfl, rfl, rfl, by simp, fun k _ hk => setRow_other _ _ _ _ (fun e => hk e)⟩
  · rw [hset, setRow_other _ _ _ _ (fun e => hs (.inl e))]
    exact hg.block k hk (fun e => hs (.inr e.symm))
  · rcases hl with e | e
    · exact .inl e
    · exact .inr ⟨_, e, Nat.le_refl _⟩
theorem LiesW.base {w W : World} {u u' : Value} (h : LiesW w u u') {v : Value} (h0 : LiesW W u' v) (hs : w.heap.size ≤ W.heap.size) : LiesW w u v := by
  rcases h0 with e | ⟨k, e, hk⟩
  · rcases h with e2 | ⟨k, e2, hk⟩
    · exact .inl (e.trans e2)
    · exact .inr ⟨k, e.trans e2, hk⟩
  · exact .inr ⟨k, e, Nat.le_trans hs hk⟩
theorem RfS.next {w W W' : World} {Q : Nat} {u u' : Value} (h1 : Chg w W (RfS Q u)) (hl : LiesW w u u') (h2 : Chg W W' (RfS Q u')) : Chg w W' (RfS Q u) :=
  h1.trans2 h2 (fun j hj e => by
    rcases e with e | e
    · exact .inl e
    · rcases hl with e2 | ⟨k, e2, hk⟩
      · exact .inr (e2.symm.trans e)
      · rw [e2] at e; cases e; omega)
set_option maxHeartbeats 4000000 in
set_option maxRecDepth 100000 in
theorem grow_calls (w : World) (B Q : Nat) (u : Value) (r m : Nat) (ps : List Pc) (h : Rf w B Q u (rows r ps)) (hw : Wf r 0 ps) (hB : B ≤ w.heap.size) (hm : r + m ≤ 1073741824) :
    Calls Tryd.prog 33 #[.pointer (some ⟨Q, 0, none⟩), .int .i64 (m : Int)] w fun e w' => RfPost w B Q u (rows (r + m) ps) (.tuple #[]) e w' := by
  have h0 := Lib.hid (show ∃ u', Rf w B Q u' (rows (r + (m - m)) ps) ∧ Chg w w (RfS Q u) ∧ LiesW w u u' from ⟨u, by rw [Nat.sub_self]; exact h, Chg.refl _ _, .inl rfl⟩)
  have Hm := Lib.hid (And.intro hm (And.intro hw hB))
  have hmb : m ≤ 1073741824 := by omega
  clear h hw hB hm
  go_enter Tryd.func33, Tryd.ntmps33
  go_wp2_with fail
  go_loopw [1] (fun t1 wr => ∃ q : Nat, t1 = .int .i64 (q : Int) ∧ q ≤ m ∧ Hid (∃ u', Rf wr B Q u' (rows (r + (m - q)) ps) ∧ Chg w wr (RfS Q u) ∧ LiesW w u u')) (fun t1 _ => (intOf t1).toNat)
  case atStart => exact ⟨m, rfl, by omega, h0⟩
  case round =>
    clear h0
    rename World => wr
    obtain ⟨q, rfl, hq, H⟩ := hrel
    obtain ⟨hm, hw, hB⟩ := Hm.out
    obtain ⟨u1, hR, hc, hl⟩ := H.out
    by_cases hq0 : 0 < q
    · have hqi : (0 : Int) < (q : Int) := by omega
      obtain ⟨W0, hW0⟩ : ∃ W0, wr.alloc (.cells #[.int .i64 (-1), .bool false, .int .i64 0, .int .i64 0, .int .u64 0, .bool false] 106) = W0 := ⟨_, rfl⟩
      obtain ⟨b, hb⟩ : ∃ b, wr.heap.size = b := ⟨_, rfl⟩
      have hx : Bx W0 b 106 (rwA frR) := by rw [← hW0, ← hb]; exact Bx.new _ _ _
      have hb0 : Below wr.heap.size wr W0 := by rw [← hW0]; exact (Below.refl _ _).alloc (Nat.le_refl _) _
      have hR0 := hR.below hb0
      have hBW : B ≤ W0.heap.size := Nat.le_trans (Nat.le_trans hB hc.size) hb0.size
      obtain ⟨v', W1, hrun, ho, hg, hlw⟩ := appendW W0 B u1 _ hR0.own hBW b frR hx hR0.len
      rw [← rows_grow (hw.more (by omega) : Wf (r + (m - q)) 0 ps), show r + (m - q) + 1 = r + (m - (q - 1)) by omega] at ho
      obtain ⟨p1, p2, p3, p4, p5⟩ := hR0.put ho hg hlw (by rw [rows_len]; omega)
      obtain ⟨A', c', hv', -⟩ := ho.at_
      rw [rows_len] at hv'
      obtain ⟨A1, c1, hu1, -, -, hrb, hQc, -, -⟩ := Rf.at_ (f := rowP ps) hR0
      obtain ⟨n1, hn1⟩ : ∃ n1, r + (m - q) = n1 := ⟨_, rfl⟩
      obtain ⟨n2, hn2⟩ : ∃ n2, r + (m - (q - 1)) = n2 := ⟨_, rfl⟩
      rw [hn1] at hu1 hQc
      rw [hn2] at hv'
      have HN := Lib.hid (show ∃ u', Rf (W1.setCell ⟨Q, 0, none⟩ v') B Q u' (rows (r + (m - (q - 1))) ps) ∧ Chg w (W1.setCell ⟨Q, 0, none⟩ v') (RfS Q u) ∧ LiesW w u u' from
        ⟨v', p1, RfS.next (hc.trans (Chg.ofBelow hb0 _)) hl p2, hl.base p3 (Nat.le_trans hc.size hb0.size)⟩)
      subst hv'
      subst hu1
      have hQw : wr.cell? ⟨Q, 0, none⟩ = some (.slice A1 n1 c1) := hR.cell.1
      have R := Lib.hid hrun
      have hqm : (q : Int) - 1 = ((q - 1 : Nat) : Int) := by omega
      obtain ⟨q1, hq1⟩ : ∃ q1, q - 1 = q1 := ⟨_, rfl⟩
      rw [hq1] at HN hqm
      have hqq : q1 < q := by omega
      clear hR hc hl H hR0 ho hg hlw p1 p2 p3 hrun hx hb0 hBW hn1 hn2 hq1 hm hw hB hrb
      go_wp2_with (at_builtin; go_must (refine wpList_append_run rfl (.tmp 12) (.tmp 14) 75 75 rfl rfl rfl R.out ?_))
      exact ⟨⟨q1, rfl, by omega, HN⟩, by simp [intOf]; omega⟩
    · obtain rfl : q = 0 := by omega
      have hqi : ¬ (0 : Int) < 0 := by omega
      have HP := Lib.hid (show RfPost w B Q u (rows (r + m) ps) (.tuple #[]) (.returned (.tuple #[])) wr from ⟨rfl, u1, hR, hc, hl⟩)
      clear H hR hc hl hm hw hB
      go_wp2_with fail
      refine bodyPost_ret (v := .tuple #[]) (by simp [results, Tryd.results33]) rfl ?_
      exact HP.out
def growOk (r : Nat) (k : Int) : Bool := decide (0 ≤ k) && decide (k ≤ 1073741824 - (r : Int))
set_option maxHeartbeats 4000000 in
set_option maxRecDepth 100000 in
theorem rGrow_calls (w : World) (B Q : Nat) (u : Value) (r : Nat) (k : Int) (ps : List Pc) (h : Rf w B Q u (rows r ps)) (hw : Wf r 0 ps) (hB : B ≤ w.heap.size) :
    Calls Tryd.prog 40 #[.pointer (some ⟨Q, 0, none⟩), .int .i64 k] w fun e w' => RfPost w B Q u (if growOk r k = true then rows (r + k.toNat) ps else rows r ps) (.int .i64 (if growOk r k = true then 0 else 5)) e w' := by
  obtain ⟨A, c, hu, -, -, hl, hQc, -, -⟩ := Rf.at_ (f := rowP ps) h
  by_cases h1 : 0 ≤ k
  · by_cases h2 : k ≤ 1073741824 - (r : Int)
    · have hg : growOk r k = true := by unfold growOk; simp [h1, h2]
      rw [if_pos hg, if_pos hg]
      obtain ⟨m, rfl⟩ : ∃ m : Nat, k = (m : Int) := ⟨k.toNat, by omega⟩
      rw [Int.toNat_natCast]
      have Hq := Lib.hid (grow_calls w B Q u r m ps h hw hB (by omega))
      have d1 : decide ((m : Int) < 0) = false := decide_eq_false (by omega)
      have d2 : decide (1073741824 - (r : Int) < (m : Int)) = false := decide_eq_false (by omega)
      have hmb : m ≤ 1073741824 := by omega
      subst hu
      clear h hw hB hg h1 h2
      go_enter Tryd.func40, Tryd.ntmps40
      go_wp2_with fail
      refine (Hq.out).mono ?_
      rintro e w' ⟨rfl, hp⟩
      have HP := Lib.hid hp
      clear hp Hq
      go_wp2_with fail
      go_ret
      exact ⟨rfl, HP.out⟩
    · have hg : ¬ growOk r k = true := by unfold growOk; simp [h1, h2]
      rw [if_neg hg, if_neg hg]
      have d1 : decide (k < 0) = false := decide_eq_false (by omega)
      have d2 : decide (1073741824 - (r : Int) < k) = true := decide_eq_true (by omega)
      have HP := Lib.hid (show RfPost w B Q u (rows r ps) (.int .i64 5) (.returned (.int .i64 5)) w from ⟨rfl, u, h, Chg.refl _ _, .inl rfl⟩)
      subst hu
      clear h hw hB hg h1 h2
      go_enter Tryd.func40, Tryd.ntmps40
      go_wp2_with fail
      go_ret
      exact HP.out
  · have hg : ¬ growOk r k = true := by unfold growOk; simp [h1]
    rw [if_neg hg, if_neg hg]
    have d1 : decide (k < 0) = true := decide_eq_true (by omega)
    have HP := Lib.hid (show RfPost w B Q u (rows r ps) (.int .i64 5) (.returned (.int .i64 5)) w from ⟨rfl, u, h, Chg.refl _ _, .inl rfl⟩)
    subst hu
    clear h hw hB hg h1
    go_enter Tryd.func40, Tryd.ntmps40
    go_wp2_with fail
    go_ret
    exact HP.out
set_option maxHeartbeats 4000000 in
set_option maxRecDepth 100000 in
theorem newSpace_calls (w : World) (m : Nat) (hm : m ≤ 1073741824) :
    Calls Tryd.prog 18 #[.int .i64 (m : Int)] w fun e w' => ∃ Q u, e = .returned (.pointer (some ⟨Q, 0, none⟩)) ∧ Rf w' w.heap.size Q u (rows m []) ∧ Below w.heap.size w w' := by
  obtain ⟨W0, hW0⟩ : ∃ W0, w.alloc (.cells #[.slice none 0 0] 77) = W0 := ⟨_, rfl⟩
  obtain ⟨Q, hQ⟩ : ∃ Q, w.heap.size = Q := ⟨_, rfl⟩
  have hR : Rf W0 w.heap.size Q (.slice none 0 0) (rows 0 []) := by
    rw [← hW0, ← hQ]
    exact ⟨Nat.le_refl _, heap_alloc_new w _, OwnW.nil _ _, by rw [rows_len]; omega⟩
  have hb0 : Below w.heap.size w W0 := by rw [← hW0]; exact (Below.refl _ _).alloc (Nat.le_refl _) _
  have hq := grow_calls W0 w.heap.size Q _ 0 m [] hR (Nat.le_refl _) hb0.size (by omega)
  rw [Nat.zero_add] at hq
  have Hq := Lib.hid hq
  have HB := Lib.hid (And.intro hb0 hQ)
  clear hR hb0 hq
  go_enter Tryd.func18, Tryd.ntmps18
  go_wp2_with fail
  try rw [hW0]
  try rw [hQ]
  refine (Hq.out).mono ?_
  rintro e w' ⟨rfl, u', hR, hc, -⟩
  have HP := Lib.hid (show Rf w' w.heap.size Q u' (rows m []) ∧ Below w.heap.size w w' from ⟨hR, Chg.below HB.out.1 hc (fun k e => by
    rcases e with e | e
    · rw [e, ← HB.out.2]; exact Nat.le_refl _
    · cases e) HB.out.1.size⟩)
  clear hR hc Hq hQ hW0
  go_wp2_with fail
  go_ret
  exact ⟨Q, u', rfl, HP.out.1, HP.out.2⟩
end Go.Proofs.YtgkamdgegfioiaaDoor
