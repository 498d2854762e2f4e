/- The walks of (*space.Space).Grow, Find, Copy with slices.Clone at pieces. -/
/- The walks of (*space.Space).Find, Copy, and of plain.Space's Grow, Copy, Find, Is. Condition: errors.errorType holds its handle. -/
/- The walks of plain.Space's Grow, Copy, Find, Is. Condition: errors.errorType holds its handle. -/
import Derived.Test.YtgkamdgegfioiaaDoorSpp
import Derived.Test.YtgkamdgegfioiaaDoorRwq
namespace Go.Proofs.YtgkamdgegfioiaaDoor
open Go.RowKit
set_option linter.unusedSimpArgs false
set_option linter.unusedVariables false
theorem eqlS_nil {P : Program} (w : World) (t e : TypeId) (a : Option Addr) (l c : Nat) (h : P.underlying t = some (.slice e)) : (binOp .eql t (.slice a l c) (.slice none 0 0)).run P w = .ok (.bool a.isNone) w := by
  simp only [binOp]
  simp [run_equal_slice_nil w t e a l c h]
/-- append of pieces onto an empty literal -/
theorem appendSL (w : World) (g0 : Nat) (hg0 : w.heap[g0]? = some (.cells #[] 90 (0, 0))) (A : Option Addr) (c : Nat) (ps : List Pc) (hr : RdS w A ps) (hn : ps.length ≤ 1073741824) :
    ∃ v' w', (Builtin.append_ #[86, 86] 86 #[.slice (some ⟨g0, 0, none⟩) 0 0, .slice A ps.length c]).run Tryd.prog w = .ok v' w' ∧ OwnS w' g0 v' ps ∧ Below g0 w w' := by
  obtain ⟨i5, hi, hz0, hz1, hz2⟩ := info_parts infoPc
  have hgl := (Array.getElem?_eq_some_iff.1 hg0).1
  cases ps with
  | nil =>
    refine ⟨.slice (some ⟨g0, 0, none⟩) 0 0, w, ?_, ⟨_, 0, rfl, Nat.le_refl _, Nat.zero_le _, .inl rfl⟩, Below.refl _ _⟩
    cases A <;> simp [Builtin.append_, run_underlying Tryd.underlying86, sizeOf, typeInfo, hi, Builtin.lenOf, Builtin.firstCells, storeCells, loadCells, loadCellsFrom]
  | cons x xs =>
    obtain ⟨g, rfl, -⟩ := hr 0 (by simp)
    have hown : w.ownsRow g0 90 5 (.slice (some ⟨g0, 0, none⟩) 0 0) 0 (pcL []) := ⟨rfl, .inr ⟨g0, 0, #[], rfl, Nat.le_refl _, hg0, Nat.le_refl _, Nat.zero_le _, rfl, rfl⟩⟩
    obtain ⟨v', w', h1, h2, h3, _, h5⟩ := run_append_own_at (P := Tryd.prog) w g0 86 86 90 i5 _ 5 40 Tryd.underlying86 hi hz0 hz1 hz2 rfl (by omega) _ 0 (pcL []) hown ⟨g, 0, none⟩ (x :: xs).length c (pcL (x :: xs)) (pcL_len _) (fun j u hj => by
      have hj2 := (List.getElem?_eq_some_iff.1 hj).1
      rw [pcL_len] at hj2
      have hd : j = (j / 5) * 5 + j % 5 := by omega
      obtain ⟨g2, hA, -, -, hc5⟩ := hr (j / 5) (by omega)
      cases hA
      rw [addr_add0]
      have := hc5 (j % 5) (by omega)
      rw [← hd] at this
      rw [this, ← pcL_at _ _ _ (by omega) (by omega), ← hd]
      exact hj) (pcL_cell _) (by unfold maxLen; omega) (by omega) (by omega)
    rw [Nat.zero_add] at h2
    refine ⟨v', w', h1, ?_, (Below.refl _ _).grown h3 (by omega) (fun k hk => by cases hk; exact Nat.le_refl _)⟩
    rcases h2.2 with ⟨rfl, hn2⟩ | ⟨g', cap, cur, rfl, hb, hg, hc, hm, hs, ht⟩
    · simp at hn2
    · exact ⟨_, cap, rfl, hc, hm, .inr ⟨g', cur.toList, rfl, hb, by simpa using hg, by simpa using hs, ht⟩⟩
set_option maxHeartbeats 2000000 in
set_option maxRecDepth 100000 in
theorem cloneS_calls (w : World) (B : Nat) (v : Value) (ps : List Pc) (h : OwnS w B v ps) (hn : ps.length ≤ 1073741824) :
    Calls Tryd.prog 74 #[v] w fun e w' => ∃ A' c', e = .returned (.slice A' ps.length c') ∧ OwnS w' w.heap.size (.slice A' ps.length c') ps ∧ Below w.heap.size w w' := by
  obtain ⟨i5, hi, hz0, hz1, hz2⟩ := info_parts infoPc
  obtain ⟨A, c, rfl, hc, hcm, hrd⟩ := h.rd
  obtain ⟨N, hN⟩ : ∃ N, ps.length = N := ⟨_, rfl⟩
  cases A with
  | none =>
    have hp : ps = [] := by
      cases ps with
      | nil => rfl
      | cons p r => obtain ⟨g, he, _⟩ := hrd 0 (by simp); cases he
    subst hp
    clear hrd hn h
    have heq := fun W l c => eqlS_nil (P := Tryd.prog) W 86 90 none l c Tryd.underlying86
    go_enter Tryd.func74, Tryd.ntmps74
    go_wp2_with fail
    all_goals
      go_ret
      exact ⟨none, 0, rfl, OwnS.nil _ _, Below.refl _ _⟩
  | some a =>
    have heq := fun W l c => eqlS_nil (P := Tryd.prog) W 86 90 (some a) l c Tryd.underlying86
    have hem := run_emptySlice (P := Tryd.prog) w 86 90 i5 Tryd.underlying86 hi
    have hba : Below w.heap.size w (w.alloc (.cells #[] 90)) := (Below.refl _ _).alloc (Nat.le_refl _) _
    obtain ⟨v', w', r1, r2, r3⟩ := appendSL (w.alloc (.cells #[] 90)) w.heap.size (heap_alloc_new w _) (some a) c ps (hrd.below' hba) hn
    obtain ⟨A', c', rfl, -⟩ : ∃ A' c', v' = .slice A' ps.length c' ∧ True := by
      obtain ⟨A', c', e, _⟩ := r2
      exact ⟨A', c', e, trivial⟩
    have HF := Lib.hid (show OwnS w' w.heap.size (.slice A' ps.length c') ps ∧ Below w.heap.size w w' from ⟨r2, hba.trans r3⟩)
    have R1 := Lib.hid r1
    clear r1 r2 r3 hba hrd h
    rw [hN] at R1 HF hc ⊢
    clear hN
    go_enter Tryd.func74, Tryd.ntmps74
    go_wp2_with (at_builtin; go_must (refine wpList_append_run rfl (.tmp 5) (.tmp 6) 86 86 rfl rfl rfl (by exact R1.out) ?_))
    go_ret
    exact ⟨A', c', rfl, HF.out.1, HF.out.2⟩
set_option maxHeartbeats 2000000 in
set_option maxRecDepth 100000 in
theorem sGrow_calls (w : World) (B R : Nat) (v : Value) (r : Nat) (ps : List Pc) (k : Int) (h : Sp w B R v r ps) :
    Calls Tryd.prog 60 #[.pointer (some ⟨R, 0, none⟩), .int .i64 k] w fun e w' => e = .returned (errO (if growOk r k = true then 0 else 5)) ∧ Sp w' B R v (if growOk r k = true then r + k.toNat else r) ps ∧ Chg w w' (fun j => j = R) := by
  obtain ⟨cR0, cR1, fR⟩ := h.cells
  have fR0 := fR 0
  have hr := h.hr
  by_cases h1 : 0 ≤ k
  · by_cases h2 : k ≤ 1073741824 - (r : Int)
    · have hg : growOk r k = true := by unfold growOk; simp [h1, h2]
      rw [if_pos hg, if_pos hg]
      obtain ⟨m, rfl⟩ : ∃ m : Nat, k = (m : Int) := ⟨k.toNat, by omega⟩
      rw [Int.toNat_natCast]
      have d1 : decide ((m : Int) < 0) = false := decide_eq_false (by omega)
      have d2 : decide (1073741824 - (r : Int) < (m : Int)) = false := decide_eq_false (by omega)
      have hmb : m ≤ 1073741824 := by omega
      have hset : w.setCell ⟨R, 0, none⟩ (.int .i64 ((r : Int) + (m : Int))) = w.setRow R #[.int .i64 ((r + m : Nat) : Int), v] := by
        rw [setCell_eq_setRow _ _ _ _ _ _ _ h.row]
        rfl
      have HP := Lib.hid (show Sp (w.setCell ⟨R, 0, none⟩ (.int .i64 ((r : Int) + (m : Int)))) B R v (r + m) ps ∧ Chg w (w.setCell ⟨R, 0, none⟩ (.int .i64 ((r : Int) + (m : Int)))) (fun j => j = R) from by
        have hc : Chg w (w.setCell ⟨R, 0, none⟩ (.int .i64 ((r : Int) + (m : Int)))) (fun j => j = R) := by
          rw [hset]
          exact ⟨rfl, rfl, rfl, by simp, fun k _ hk => setRow_other _ _ _ _ (fun e => hk e)⟩
        refine ⟨⟨h.hR, by rw [hset]; exact setRow_heap _ _ _ _ _ _ h.row, ?_, h.wf.more (by omega), by omega⟩, hc⟩
        refine h.own.kept (row := some R) ?_ (fun k hk e => h.ne (by rw [hk]; exact e.symm))
        exact ⟨hc.os, hc.tape, hc.output, hc.size, fun k hk hne => hc.block k hk (fun e => hne (by rw [e]))⟩)
      clear h hg h1 h2 hset fR cR1
      go_enter Tryd.func60, Tryd.ntmps60
      go_wp2_with fail
      go_ret
      exact ⟨rfl, HP.out.1, HP.out.2⟩
    · have hg : ¬ growOk r k = true := by unfold growOk; simp [h1, h2]
      rw [if_neg hg, if_neg hg]
      have d1 : decide (k < 0) = false := decide_eq_false (by omega)
      have d2 : decide (1073741824 - (r : Int) < k) = true := decide_eq_true (by omega)
      have HP := Lib.hid h
      clear h hg h1 h2 cR1
      go_enter Tryd.func60, Tryd.ntmps60
      go_wp2_with fail
      go_ret
      exact ⟨rfl, HP.out, Chg.refl _ _⟩
  · have hg : ¬ growOk r k = true := by unfold growOk; simp [h1]
    rw [if_neg hg, if_neg hg]
    have d1 : decide (k < 0) = true := decide_eq_true (by omega)
    have HP := Lib.hid h
    clear h hg h1 cR1
    go_enter Tryd.func60, Tryd.ntmps60
    go_wp2_with fail
    go_ret
    exact ⟨rfl, HP.out, Chg.refl _ _⟩
end Go.Proofs.YtgkamdgegfioiaaDoor

namespace Go.Proofs.YtgkamdgegfioiaaDoor
open Go.RowKit
set_option linter.unusedSimpArgs false
set_option linter.unusedVariables false
set_option maxHeartbeats 2000000 in
set_option maxRecDepth 100000 in
theorem sFind_calls (w : World) (B R : Nat) (v : Value) (r : Nat) (ps : List Pc) (k : Int) (h : Sp w B R v r ps) :
    Calls Tryd.prog 65 #[.pointer (some ⟨R, 0, none⟩), .int .i64 k] w fun e w' => e = .returned (.tuple #[runV k ps, errO (runE k ps)]) ∧ Below w.heap.size w w' := by
  obtain ⟨H, hH⟩ : ∃ H, w.heap.size = H := ⟨_, rfl⟩
  obtain ⟨W0, hW0⟩ : ∃ W0, w.alloc (.cells #[.int .i64 0, .int .i64 0, .int .i64 0, .int .u64 0] 47) = W0 := ⟨_, rfl⟩
  have hb0 : Below w.heap.size w W0 := by rw [← hW0]; exact (Below.refl _ _).alloc (Nat.le_refl _) _
  have hx0 : Bx W0 H 47 #[.int .i64 0, .int .i64 0, .int .i64 0, .int .u64 0] := by rw [← hW0, ← hH]; exact Bx.new _ _ _
  have hS0 := h.below hb0
  have Hq := Lib.hid (find_calls W0 B R v r ps k hS0)
  have HA := Lib.hid (And.intro hS0 (And.intro hb0 (And.intro hx0 hH)))
  clear h hS0 hb0 hx0
  go_enter Tryd.func65, Tryd.ntmps65
  go_wp2_with fail
  try rw [hW0]
  try rw [hH]
  refine (Hq.out).mono ?_
  rintro e W1 ⟨hp, hb1⟩
  obtain ⟨hS0, hb0, hx0, -⟩ := HA.out
  have hx1 := hx0.below hb1 hx0.lt
  have hS1 := hS0.below hb1
  have hbw := hb0.trans (hb1.mono hb0.size)
  rcases hp with ⟨hnone, rfl⟩ | ⟨i, g, c, hat, rfl, rfl⟩
  · obtain ⟨W2, hW2⟩ : ∃ W2, W1.setRow H #[.int .i64 0, .int .i64 0, .int .i64 0, .int .u64 0] = W2 := ⟨_, rfl⟩
    have HW := Lib.hid (show Bx W1 H 47 #[.int .i64 0, .int .i64 0, .int .i64 0, .int .u64 0] ∧ W1.setRow H #[.int .i64 0, .int .i64 0, .int .i64 0, .int .u64 0] = W2 from ⟨hx1, hW2⟩)
    have hx2 : Bx W2 H 47 #[.int .i64 0, .int .i64 0, .int .i64 0, .int .u64 0] := by rw [← hW2]; exact hx1.put
    have Hr := Lib.hid (show W2.cell? ⟨H, 0, none⟩ = some (.int .i64 0) ∧ W2.cell? ⟨H, 1, none⟩ = some (.int .i64 0) ∧ W2.cell? ⟨H, 2, none⟩ = some (.int .i64 0) ∧ W2.cell? ⟨H, 3, none⟩ = some (.int .u64 0) from ⟨hx2.cell 0, hx2.cell 1, hx2.cell 2, hx2.cell 3⟩)
    have HB := Lib.hid (show Below w.heap.size w W2 ∧ findS k ps = none from ⟨by rw [← hW2]; exact below_put hbw (by omega) _, (findS_none incP hnone).1⟩)
    clear hx1 hS1 hbw hb1 hS0 hb0 hx0 HA hnone Hq hW2 hx2 hH hW0
    go_wp2_with (refine wpList_store_box HW rfl 47 (.tmp 4) (.tmp 16) rfl rfl rfl (by kernel_rfl) rfl (rnA_one z5) ?_)
    obtain ⟨r0, r1, r2, r3⟩ := Hr.out
    refine bodyPost_ret (v := .tuple #[.agg #[.int .i64 0, .int .i64 0, .int .i64 0, .int .u64 0], errE 3]) (by unfold errE; simp [results, Tryd.results65, go_sem, r0, r1, r2, r3]) rfl ⟨by unfold runV runE; rw [HB.out.2]; rfl, HB.out.1⟩
  · have hi := hat.1
    have hpc := hS1.pc hi
    obtain ⟨p, hp⟩ : ∃ p, ps[i] = p := ⟨_, rfl⟩
    rw [hp] at hpc
    have c0 : W1.cell? ⟨g, i * 5, none⟩ = some (.int .i64 (p.at_ : Int)) := hpc 0 (by omega)
    have c1 : W1.cell? ⟨g, i * 5 + 1, none⟩ = some (.int .i64 (p.n : Int)) := hpc 1 (by omega)
    have c2 : W1.cell? ⟨g, i * 5 + 2, none⟩ = some (.int .i64 (p.cnt : Int)) := hpc 2 (by omega)
    have c3 : W1.cell? ⟨g, i * 5 + 3, none⟩ = some (.int .u64 (p.tag : Int)) := hpc 3 (by omega)
    obtain ⟨W2, hW2⟩ : ∃ W2, W1.setRow H #[.int .i64 (p.at_ : Int), .int .i64 (p.n : Int), .int .i64 (p.cnt : Int), .int .u64 (p.tag : Int)] = W2 := ⟨_, rfl⟩
    have HW := Lib.hid (show Bx W1 H 47 #[.int .i64 0, .int .i64 0, .int .i64 0, .int .u64 0] ∧ W1.setRow H #[.int .i64 (p.at_ : Int), .int .i64 (p.n : Int), .int .i64 (p.cnt : Int), .int .u64 (p.tag : Int)] = W2 from ⟨hx1, hW2⟩)
    have hx2 : Bx W2 H 47 #[.int .i64 (p.at_ : Int), .int .i64 (p.n : Int), .int .i64 (p.cnt : Int), .int .u64 (p.tag : Int)] := by rw [← hW2]; exact hx1.put
    have Hr := Lib.hid (show W2.cell? ⟨H, 0, none⟩ = some (.int .i64 (p.at_ : Int)) ∧ W2.cell? ⟨H, 1, none⟩ = some (.int .i64 (p.n : Int)) ∧ W2.cell? ⟨H, 2, none⟩ = some (.int .i64 (p.cnt : Int)) ∧ W2.cell? ⟨H, 3, none⟩ = some (.int .u64 (p.tag : Int)) from ⟨hx2.cell 0, hx2.cell 1, hx2.cell 2, hx2.cell 3⟩)
    have HB := Lib.hid (show Below w.heap.size w W2 ∧ findS k ps = some p from ⟨by rw [← hW2]; exact below_put hbw (by omega) _, by rw [← hp]; exact (findS_at incP hat).1⟩)
    clear hx1 hS1 hbw hb1 hS0 hb0 hx0 HA hat Hq hW2 hx2 hp hpc hH hW0
    go_wp2_with (refine wpList_store_box HW rfl 47 (.tmp 4) (.tmp 21) rfl rfl rfl (by kernel_rfl) rfl (rnA_one p) ?_)
    obtain ⟨r0, r1, r2, r3⟩ := Hr.out
    refine bodyPost_ret (v := .tuple #[.agg (rnA p), .nilIface]) (by unfold rnA; simp [results, Tryd.results65, go_sem, r0, r1, r2, r3]) rfl ⟨by unfold runV runE; rw [HB.out.2]; rfl, HB.out.1⟩
set_option maxHeartbeats 2000000 in
set_option maxRecDepth 100000 in
theorem sCopy_calls (w : World) (B R : Nat) (v : Value) (r : Nat) (ps : List Pc) (h : Sp w B R v r ps) :
    Calls Tryd.prog 61 #[.pointer (some ⟨R, 0, none⟩)] w fun e w' => ∃ R' v', e = .returned (.pointer (some ⟨R', 0, none⟩)) ∧ Sp w' w.heap.size R' v' r ps ∧ Below w.heap.size w w' := by
  obtain ⟨cR0, cR1, fR⟩ := h.cells
  have hd := h.below ((Below.refl _ w).drew)
  obtain ⟨A, c, rfl, -⟩ : ∃ A c, v = .slice A ps.length c ∧ True := by
    obtain ⟨A, c, e, _⟩ := h.own
    exact ⟨A, c, e, trivial⟩
  obtain ⟨N, hN⟩ : ∃ N, ps.length = N := ⟨_, rfl⟩
  have hcl := cloneS_calls w.drew B _ ps hd.own h.len
  rw [hN] at hcl cR1
  have Hc := Lib.hid hcl
  have HA := Lib.hid (And.intro h (And.intro hd hN))
  have q0 : w.drew.cell? ⟨R, 0, none⟩ = some (.int .i64 (r : Int)) := cR0
  have q1 : w.drew.cell? ⟨R, 1, none⟩ = some (.slice A N c) := cR1
  clear h hd hcl hN fR
  go_enter Tryd.func61, Tryd.ntmps61
  go_upto_region 1 with fail
  refine wp_region_held (S := fun X => X.cell? ⟨R, 0, none⟩ = some (.int .i64 (r : Int)) ∧ X.cell? ⟨R, 1, none⟩ = some (.slice A N c)) (by kernel_rfl) (show wpAnyH _ _ _ _ _ _ _ _ w.drew from ?_)
  have hHeld : (fun X => X.cell? ⟨R, 0, none⟩ = some (.int .i64 (r : Int)) ∧ X.cell? ⟨R, 1, none⟩ = some (.slice A N c)) w.drew := ⟨q0, q1⟩
  refine wpAnyH_take (i := 0) (v := ?_) rfl (by kernel_rfl) (by kernel_rfl) (by kernel_rfl) (fun _ _ _ h => h) (Or.inl ⟨by kernel_rfl, ?_⟩) (by assumption) ?_
  rotate_left
  · rintro w ⟨q0, q1⟩; go_simp; (try with_reducible rfl)
  try simp only [List.getElem_toArray, List.getElem_cons_succ, List.getElem_cons_zero]
  try simp only [Act.put, List.setIfInBounds_toArray, List.set_cons_zero, List.set_cons_succ]
  refine wpAnyH_take (i := 1) (v := ?_) rfl (by kernel_rfl) (by kernel_rfl) (by kernel_rfl) (fun _ _ _ h => h) (Or.inl ⟨by kernel_rfl, ?_⟩) (by assumption) ?_
  rotate_left
  · rintro w ⟨q0, q1⟩; go_simp; (try with_reducible rfl)
  try simp only [List.getElem_toArray, List.getElem_cons_succ, List.getElem_cons_zero]
  try simp only [Act.put, List.setIfInBounds_toArray, List.set_cons_zero, List.set_cons_succ]
  refine wpAnyH_take (i := 2) (v := ?_) rfl (by kernel_rfl) (by kernel_rfl) (by kernel_rfl) (fun _ _ _ h => h) (Or.inl ⟨by kernel_rfl, ?_⟩) (by assumption) ?_
  rotate_left
  · rintro w ⟨q0, q1⟩; go_simp; (try with_reducible rfl)
  try simp only [List.getElem_toArray, List.getElem_cons_succ, List.getElem_cons_zero]
  try simp only [Act.put, List.setIfInBounds_toArray, List.set_cons_zero, List.set_cons_succ]
  refine wpAnyH_take (i := 3) (v := ?_) rfl (by kernel_rfl) (by kernel_rfl) (by kernel_rfl) (fun _ _ _ h => h) (Or.inl ⟨by kernel_rfl, ?_⟩) (by assumption) ?_
  rotate_left
  · rintro w ⟨q0, q1⟩; go_simp; (try with_reducible rfl)
  try simp only [List.getElem_toArray, List.getElem_cons_succ, List.getElem_cons_zero]
  try simp only [Act.put, List.setIfInBounds_toArray, List.set_cons_zero, List.set_cons_succ]
  refine wpAnyH_take (i := 4) (v := ?_) rfl (by kernel_rfl) (by kernel_rfl) (by kernel_rfl) (fun _ _ _ h => h) (Or.inl ⟨by kernel_rfl, ?_⟩) (by assumption) ?_
  rotate_left
  · rintro w ⟨q0, q1⟩; go_simp; (try with_reducible rfl)
  try simp only [List.getElem_toArray, List.getElem_cons_succ, List.getElem_cons_zero]
  try simp only [Act.put, List.setIfInBounds_toArray, List.set_cons_zero, List.set_cons_succ]
  refine wpAnyH_take (i := 5) (v := ?_) rfl (by kernel_rfl) (by kernel_rfl) (by kernel_rfl) (fun _ _ _ h => h) (Or.inl ⟨by kernel_rfl, ?_⟩) (by assumption) ?_
  rotate_left
  · rintro w ⟨q0, q1⟩; go_simp; (try with_reducible rfl)
  try simp only [List.getElem_toArray, List.getElem_cons_succ, List.getElem_cons_zero]
  try simp only [Act.put, List.setIfInBounds_toArray, List.set_cons_zero, List.set_cons_succ]
  refine wpAnyH_take (i := 6) (v := ?_) rfl (by kernel_rfl) (by kernel_rfl) (by kernel_rfl) (fun _ _ _ h => h) (Or.inl ⟨by kernel_rfl, ?_⟩) (by assumption) ?_
  rotate_left
  · rintro w ⟨q0, q1⟩; go_simp; (try with_reducible rfl)
  try simp only [List.getElem_toArray, List.getElem_cons_succ, List.getElem_cons_zero]
  try simp only [Act.put, List.setIfInBounds_toArray, List.set_cons_zero, List.set_cons_succ]
  refine wpAnyH_take (i := 7) (v := ?_) rfl (by kernel_rfl) (by kernel_rfl) (by kernel_rfl) (fun _ _ _ h => h) (Or.inl ⟨by kernel_rfl, ?_⟩) (by assumption) ?_
  rotate_left
  · rintro w ⟨q0, q1⟩; go_simp; (try with_reducible rfl)
  try simp only [List.getElem_toArray, List.getElem_cons_succ, List.getElem_cons_zero]
  try simp only [Act.put, List.setIfInBounds_toArray, List.set_cons_zero, List.set_cons_succ]
  refine wpAnyH_ready (rs := [8]) (by kernel_rfl) (by simp) ?_
  refine AllReadyH.cons rfl (fun K hK => ?_) AllReadyH.nil
  go_simp
  refine (Hc.out).mono ?_
  rintro e W1 ⟨A', c', rfl, ho, hb⟩
  have hS1 := HA.out.2.1.below hb
  refine hK.out _ _ ⟨hS1.cells.1, by rw [hS1.cells.2.1, HA.out.2.2]⟩ (fun hHeld2 => ?_)
  clear hK K
  try simp only [List.getElem_toArray, List.getElem_cons_succ, List.getElem_cons_zero]
  try simp only [Act.put, List.setIfInBounds_toArray, List.set_cons_zero, List.set_cons_succ]
  refine wpAnyH_take (i := 9) (v := ?_) rfl (by kernel_rfl) (by kernel_rfl) (by kernel_rfl) (fun _ _ _ h => h) (Or.inl ⟨by kernel_rfl, ?_⟩) (by assumption) ?_
  rotate_left
  · rintro w ⟨q0, q1⟩; go_simp; (try with_reducible rfl)
  try simp only [List.getElem_toArray, List.getElem_cons_succ, List.getElem_cons_zero]
  try simp only [Act.put, List.setIfInBounds_toArray, List.set_cons_zero, List.set_cons_succ]
  refine wpAnyH_ready (rs := [10]) (by kernel_rfl) (by simp) ?_
  refine AllReadyH.cons rfl (fun K hK => ?_) AllReadyH.nil
  go_simp
  obtain ⟨R', hR'⟩ : ∃ R', W1.heap.size = R' := ⟨_, rfl⟩
  obtain ⟨W2, hW2⟩ : ∃ W2, W1.alloc (.cells #[.int .i64 (r : Int), .slice A' N c'] 88) = W2 := ⟨_, rfl⟩
  have hS2 : Sp W2 B R (.slice A ps.length c) r ps := by rw [← hW2]; exact hS1.below ((Below.refl _ _).alloc (Nat.le_refl _) _)
  have HP := Lib.hid (show Sp W2 w.heap.size R' (.slice A' N c') r ps ∧ Below w.heap.size w W2 from by
    have hbw : Below w.heap.size w W1 := ((Below.refl w.heap.size w).drew).trans hb
    have h := HA.out.1
    refine ⟨⟨by rw [← hR']; exact hbw.size, by rw [← hW2, ← hR']; exact heap_alloc_new W1 _, ?_, h.wf, h.hr⟩, by rw [← hW2]; exact hbw.alloc hbw.size _⟩
    rw [← hW2]
    exact OwnS.below ho ((Below.refl _ _).alloc (Nat.le_refl _) _))
  have hS2c : W2.cell? ⟨R, 0, none⟩ = some (.int .i64 (r : Int)) ∧ W2.cell? ⟨R, 1, none⟩ = some (.slice A N c) := ⟨hS2.cells.1, by rw [hS2.cells.2.1, HA.out.2.2]⟩
  try rw [hR', hW2]
  refine hK.out _ _ hS2c (fun hHeld3 => ?_)
  clear hK K hHeld hHeld2
  try simp only [List.getElem_toArray, List.getElem_cons_succ, List.getElem_cons_zero]
  try simp only [Act.put, List.setIfInBounds_toArray, List.set_cons_zero, List.set_cons_succ]
  refine wpAnyH_take (i := 11) (v := ?_) rfl (by kernel_rfl) (by kernel_rfl) (by kernel_rfl) (fun _ _ _ h => h) (Or.inl ⟨by kernel_rfl, ?_⟩) (by assumption) ?_
  rotate_left
  · rintro w ⟨q0, q1⟩; go_simp; (try with_reducible rfl)
  try simp only [List.getElem_toArray, List.getElem_cons_succ, List.getElem_cons_zero]
  try simp only [Act.put, List.setIfInBounds_toArray, List.set_cons_zero, List.set_cons_succ]
  refine wpAnyH_done (by kernel_rfl) ?_ _
  clear hHeld3 hS2c hS2 hS1 ho hb HA Hc q0 q1 cR0 cR1 hW2 hR'
  go_wp2_with fail
  go_ret
  exact ⟨R', .slice A' N c', rfl, HP.out.1, HP.out.2⟩
end Go.Proofs.YtgkamdgegfioiaaDoor

namespace Go.Proofs.YtgkamdgegfioiaaDoor
open Go.RowKit
set_option linter.unusedSimpArgs false
set_option linter.unusedVariables false
set_option maxHeartbeats 1000000 in
theorem pGrow_calls (w : World) (B R : Nat) (v : Value) (r : Nat) (ps : List Pc) (k : Int) (h : Sp w B R v r ps) (hg : ErrH w) (hgB : 0 < B) :
    Calls Tryd.prog 39 #[.agg #[.pointer (some ⟨R, 0, none⟩)], .int .i64 k] w fun e w' => e = .returned (.int .i64 (if growOk r k = true then 0 else 5)) ∧ Sp w' B R v (if growOk r k = true then r + k.toNat else r) ps ∧ Chg w w' (fun j => j = R) := by
  have hb0 : Below w.heap.size w (w.alloc (.cells #[.pointer (some ⟨R, 0, none⟩)] 26)) := (Below.refl _ _).alloc (Nat.le_refl _) _
  have Hq := Lib.hid (sGrow_calls _ B R v r ps k (h.below hb0))
  have HA := Lib.hid (And.intro h (And.intro hg hb0))
  obtain ⟨x, hx⟩ : ∃ x : Int, (if growOk r k = true then (0 : Int) else 5) = x := ⟨_, rfl⟩
  obtain ⟨r', hr'⟩ : ∃ r', (if growOk r k = true then r + k.toNat else r) = r' := ⟨_, rfl⟩
  rw [hx, hr'] at Hq ⊢
  clear h hg hb0 hx hr'
  go_enter Tryd.func39, Tryd.ntmps39
  go_wp2_with fail
  refine (Hq.out).mono ?_
  rintro e W1 ⟨rfl, hs, hc⟩
  obtain ⟨h, hg, hb0⟩ := HA.out
  have hc1 := (Chg.ofBelow hb0 (fun j => j = R)).trans hc
  have Hn := Lib.hid (number_calls x W1 (hg.chg hc1 (fun e => by have := h.hR; omega)))
  have HP := Lib.hid (And.intro hs hc1)
  rw [errO_V]
  obtain ⟨y, hy⟩ : ∃ y, errV x = y := ⟨_, rfl⟩
  rw [hy] at Hn ⊢
  clear h hg hb0 hs hc hc1 HA Hq hy
  go_wp2_with fail
  refine (Hn.out).mono ?_
  rintro e W2 ⟨rfl, hb2⟩
  have HP2 := Lib.hid (show Sp W2 B R v r' ps ∧ Chg w W2 (fun j => j = R) from ⟨HP.out.1.below hb2, HP.out.2.trans (Chg.ofBelow hb2 _)⟩)
  clear HP Hn hb2
  go_wp2_with fail
  go_ret
  exact ⟨rfl, HP2.out.1, HP2.out.2⟩
set_option maxHeartbeats 1000000 in
theorem pIs_calls (w : World) (R : Nat) :
    Calls Tryd.prog 43 #[.agg #[.pointer (some ⟨R, 0, none⟩)]] w fun e w' => e = .returned (.bool true) ∧ Below w.heap.size w w' := by
  have HP := Lib.hid (show Below w.heap.size w (w.alloc (.cells #[.pointer (some ⟨R, 0, none⟩)] 26)) from (Below.refl _ _).alloc (Nat.le_refl _) _)
  go_enter Tryd.func43, Tryd.ntmps43
  go_wp2_with fail
  go_ret
  exact ⟨rfl, HP.out⟩
set_option maxHeartbeats 2000000 in
theorem pCopy_calls (w : World) (B R : Nat) (v : Value) (r : Nat) (ps : List Pc) (h : Sp w B R v r ps) :
    Calls Tryd.prog 41 #[.agg #[.pointer (some ⟨R, 0, none⟩)]] w fun e w' => ∃ R' v', e = .returned (.agg #[.pointer (some ⟨R', 0, none⟩)]) ∧ Sp w' w.heap.size R' v' r ps ∧ Below w.heap.size w w' := by
  obtain ⟨W0, hW0⟩ : ∃ W0, w.alloc (.cells #[.pointer (some ⟨R, 0, none⟩)] 26) = W0 := ⟨_, rfl⟩
  obtain ⟨H, hH⟩ : ∃ H, w.heap.size = H := ⟨_, rfl⟩
  have hx0 : Bx W0 H 26 #[.pointer (some ⟨R, 0, none⟩)] := by rw [← hW0, ← hH]; exact Bx.new _ _ _
  have hb0 : Below w.heap.size w W0 := by rw [← hW0]; exact (Below.refl _ _).alloc (Nat.le_refl _) _
  obtain ⟨H2, hH2⟩ : ∃ H2, W0.heap.size = H2 := ⟨_, rfl⟩
  obtain ⟨W1, hW1⟩ : ∃ W1, W0.alloc (.cells #[.pointer none] 26) = W1 := ⟨_, rfl⟩
  have hx1 : Bx W1 H 26 #[.pointer (some ⟨R, 0, none⟩)] := by rw [← hW1]; exact hx0.alloc _
  have hy1 : Bx W1 H2 26 #[.pointer none] := by rw [← hW1, ← hH2]; exact Bx.new _ _ _
  have hb1 : Below w.heap.size w W1 := by rw [← hW1]; exact hb0.alloc hb0.size _
  have e0 : W1.cell? ⟨H, 0, none⟩ = some (.pointer (some ⟨R, 0, none⟩)) := hx1.cell 0
  have Hq := Lib.hid (sCopy_calls W1 B R v r ps (h.below hb1))
  have HA := Lib.hid (And.intro hy1 (And.intro hb1 (show w.heap.size ≤ H2 from by rw [← hH2]; exact hb0.size)))
  clear h hx0 hb0 hx1 hy1 hb1
  go_enter Tryd.func41, Tryd.ntmps41
  go_wp2_with fail
  try rw [hW0]
  try rw [hH]
  try rw [hW1]
  try rw [hH2]
  go_wp2_with fail
  refine (Hq.out).mono ?_
  rintro e W2 ⟨R', v', rfl, hs, hb2⟩
  have hy2 := HA.out.1.below hb2 HA.out.1.lt
  have f0 : W2.cell? ⟨H2, 0, none⟩ = some (.pointer none) := hy2.cell 0
  have f1 : W2.frozen? ⟨H2, 0, none⟩ = false := hy2.frozen 0
  have f2 : (W2.setCell ⟨H2, 0, none⟩ (.pointer (some ⟨R', 0, none⟩))).cell? ⟨H2, 0, none⟩ = some (.pointer (some ⟨R', 0, none⟩)) := World.cell?_setCell_same _ _ _ f0
  have HP := Lib.hid (show Sp (W2.setCell ⟨H2, 0, none⟩ (.pointer (some ⟨R', 0, none⟩))) w.heap.size R' v' r ps ∧ Below w.heap.size w (W2.setCell ⟨H2, 0, none⟩ (.pointer (some ⟨R', 0, none⟩))) from by
    have hlt := HA.out.1.lt
    refine ⟨(hs.kept (Chg.setCell _ _ _ _) (by have := hs.hR; omega) (fun k hk e => by have := (hs.own.row k hk).1; omega)).mono HA.out.2.1.size, (HA.out.2.1.trans (hb2.mono HA.out.2.1.size)).setCell HA.out.2.2 _⟩)
  clear hs hb2 hy2 HA Hq
  go_wp2_with fail
  refine bodyPost_ret (v := .agg #[.pointer (some ⟨R', 0, none⟩)]) (by simp [results, Tryd.results41, go_sem, f2]) rfl ⟨R', v', rfl, HP.out.1, HP.out.2⟩
theorem runV_rn (k : Int) (ps : List Pc) : ∃ p : Pc, runV k ps = .agg (rnA p) := by
  unfold runV
  split
  · exact ⟨_, rfl⟩
  · exact ⟨z5, rfl⟩
set_option maxHeartbeats 4000000 in
set_option maxRecDepth 100000 in
theorem pFind_calls (w : World) (B R : Nat) (v : Value) (r : Nat) (ps : List Pc) (k : Int) (h : Sp w B R v r ps) (hg : ErrH w) :
    Calls Tryd.prog 46 #[.agg #[.pointer (some ⟨R, 0, none⟩)], .int .i64 k] w fun e w' => e = .returned (.tuple #[runV k ps, .int .i64 (runE k ps)]) ∧ Below w.heap.size w w' := by
  obtain ⟨W0, hW0⟩ : ∃ W0, w.alloc (.cells #[.pointer (some ⟨R, 0, none⟩)] 26) = W0 := ⟨_, rfl⟩
  obtain ⟨H, hH⟩ : ∃ H, w.heap.size = H := ⟨_, rfl⟩
  have hx0 : Bx W0 H 26 #[.pointer (some ⟨R, 0, none⟩)] := by rw [← hW0, ← hH]; exact Bx.new _ _ _
  have hb0 : Below w.heap.size w W0 := by rw [← hW0]; exact (Below.refl _ _).alloc (Nat.le_refl _) _
  obtain ⟨H2, hH2⟩ : ∃ H2, W0.heap.size = H2 := ⟨_, rfl⟩
  obtain ⟨W1, hW1⟩ : ∃ W1, W0.alloc (.cells #[.int .i64 0, .int .i64 0, .int .i64 0, .int .u64 0] 47) = W1 := ⟨_, rfl⟩
  have hx1 : Bx W1 H 26 #[.pointer (some ⟨R, 0, none⟩)] := by rw [← hW1]; exact hx0.alloc _
  have hy1 : Bx W1 H2 47 #[.int .i64 0, .int .i64 0, .int .i64 0, .int .u64 0] := by rw [← hW1, ← hH2]; exact Bx.new _ _ _
  have hb1 : Below w.heap.size w W1 := by rw [← hW1]; exact hb0.alloc hb0.size _
  have e0 : W1.cell? ⟨H, 0, none⟩ = some (.pointer (some ⟨R, 0, none⟩)) := hx1.cell 0
  have hq := sFind_calls W1 B R v r ps k (h.below hb1)
  obtain ⟨p, hp⟩ := runV_rn k ps
  obtain ⟨x, hx⟩ : ∃ x, runE k ps = x := ⟨_, rfl⟩
  obtain ⟨⟨pa, pn, pc, pt, po⟩, hpp⟩ : ∃ q : Pc, p = q := ⟨p, rfl⟩
  subst hpp
  rw [hp, hx] at hq ⊢
  rw [errO_V] at hq
  obtain ⟨y, hy⟩ : ∃ y, errV x = y := ⟨_, rfl⟩
  rw [hy] at hq
  have Hq := Lib.hid (show Calls Tryd.prog 65 #[.pointer (some ⟨R, 0, none⟩), .int .i64 k] W1 fun e w' => e = .returned (.tuple #[.agg #[.int .i64 (pa : Int), .int .i64 (pn : Int), .int .i64 (pc : Int), .int .u64 (pt : Int)], y]) ∧ Below W1.heap.size W1 w' from hq)
  have HA := Lib.hid (And.intro hy1 (And.intro hb1 (And.intro (show w.heap.size ≤ H2 from by rw [← hH2]; exact hb0.size) (And.intro hg hy))))
  clear h hx0 hb0 hx1 hy1 hb1 hp hx hy hq hg
  show Calls _ _ _ _ fun e w' => e = .returned (.tuple #[.agg #[.int .i64 (pa : Int), .int .i64 (pn : Int), .int .i64 (pc : Int), .int .u64 (pt : Int)], .int .i64 x]) ∧ Below w.heap.size w w'
  go_enter Tryd.func46, Tryd.ntmps46
  go_wp2_with fail
  try rw [hW0]
  try rw [hH]
  try rw [hW1]
  try rw [hH2]
  go_wp2_with fail
  refine (Hq.out).mono ?_
  rintro e W2 ⟨rfl, hb2⟩
  obtain ⟨hy1, hb1, hle, hg, hy⟩ := HA.out
  obtain ⟨H6, hH6⟩ : ∃ H6, W2.heap.size = H6 := ⟨_, rfl⟩
  obtain ⟨W3, hW3⟩ : ∃ W3, W2.alloc (.cells #[.int .i64 (pa : Int), .int .i64 (pn : Int), .int .i64 (pc : Int), .int .u64 (pt : Int)] 47) = W3 := ⟨_, rfl⟩
  have hx3 : Bx W3 H6 47 #[.int .i64 (pa : Int), .int .i64 (pn : Int), .int .i64 (pc : Int), .int .u64 (pt : Int)] := by rw [← hW3, ← hH6]; exact Bx.new _ _ _
  have hy3 : Bx W3 H2 47 #[.int .i64 0, .int .i64 0, .int .i64 0, .int .u64 0] := by rw [← hW3]; exact (hy1.below hb2 hy1.lt).alloc _
  have hb3 : Below w.heap.size w W3 := by rw [← hW3]; exact (hb1.trans (hb2.mono hb1.size)).alloc (Nat.le_trans hb1.size hb2.size) _
  have h26 : H6 ≠ H2 := by
    have := (hy1.below hb2 hy1.lt).lt
    omega
  have Hn := number_calls x W3.drew (hg.below hg.lt hb3.drew)
  rw [hy] at Hn
  have Hn := Lib.hid Hn
  have q0 : W3.drew.cell? ⟨H6, 0, none⟩ = some (.int .i64 (pa : Int)) := hx3.cell 0
  have q1 : W3.drew.cell? ⟨H6, 1, none⟩ = some (.int .i64 (pn : Int)) := hx3.cell 1
  have q2 : W3.drew.cell? ⟨H6, 2, none⟩ = some (.int .i64 (pc : Int)) := hx3.cell 2
  have q3 : W3.drew.cell? ⟨H6, 3, none⟩ = some (.int .u64 (pt : Int)) := hx3.cell 3
  have HX := Lib.hid (And.intro hx3 (And.intro hy3 (And.intro hb3 (And.intro hle h26))))
  clear hy1 hb1 hle hg hy hx3 hy3 hb3 h26 HA hb2 Hq
  go_upto_region 2 with fail
  try rw [hH6, hW3]
  refine wp_region_held (S := fun X => X.cell? ⟨H6, 0, none⟩ = some (.int .i64 (pa : Int)) ∧ X.cell? ⟨H6, 1, none⟩ = some (.int .i64 (pn : Int)) ∧ X.cell? ⟨H6, 2, none⟩ = some (.int .i64 (pc : Int)) ∧ X.cell? ⟨H6, 3, none⟩ = some (.int .u64 (pt : Int))) (by kernel_rfl) (show wpAnyH _ _ _ _ _ _ _ _ W3.drew from ?_)
  have hHeld : (fun X => X.cell? ⟨H6, 0, none⟩ = some (.int .i64 (pa : Int)) ∧ X.cell? ⟨H6, 1, none⟩ = some (.int .i64 (pn : Int)) ∧ X.cell? ⟨H6, 2, none⟩ = some (.int .i64 (pc : Int)) ∧ X.cell? ⟨H6, 3, none⟩ = some (.int .u64 (pt : Int))) W3.drew := ⟨q0, q1, q2, q3⟩
  refine wpAnyH_take (i := 0) (v := ?_) rfl (by kernel_rfl) (by kernel_rfl) (by kernel_rfl) (fun _ _ _ h => h) (Or.inl ⟨by kernel_rfl, ?_⟩) (by assumption) ?_
  rotate_left
  · rintro w ⟨q0, q1, q2, q3⟩; go_simp; (try with_reducible rfl)
  try simp only [List.getElem_toArray, List.getElem_cons_succ, List.getElem_cons_zero]
  try simp only [Act.put, List.setIfInBounds_toArray, List.set_cons_zero, List.set_cons_succ]
  refine wpAnyH_take (i := 1) (v := ?_) rfl (by kernel_rfl) (by kernel_rfl) (by kernel_rfl) (fun _ _ _ h => h) (Or.inl ⟨by kernel_rfl, ?_⟩) (by assumption) ?_
  rotate_left
  · rintro w ⟨q0, q1, q2, q3⟩; go_simp; (try with_reducible rfl)
  try simp only [List.getElem_toArray, List.getElem_cons_succ, List.getElem_cons_zero]
  try simp only [Act.put, List.setIfInBounds_toArray, List.set_cons_zero, List.set_cons_succ]
  refine wpAnyH_ready (rs := [2]) (by kernel_rfl) (by simp) ?_
  refine AllReadyH.cons rfl (fun K hK => ?_) AllReadyH.nil
  go_simp
  refine (Hn.out).mono ?_
  rintro e W4 ⟨rfl, hb4⟩
  obtain ⟨hx3, hy3, hb3, hle, h26⟩ := HX.out
  have hx3d : Bx W3.drew H6 47 #[.int .i64 (pa : Int), .int .i64 (pn : Int), .int .i64 (pc : Int), .int .u64 (pt : Int)] := hx3
  have hy3d : Bx W3.drew H2 47 #[.int .i64 0, .int .i64 0, .int .i64 0, .int .u64 0] := hy3
  have hx4 := hx3d.below hb4 hx3d.lt
  have hy4 := hy3d.below hb4 hy3d.lt
  have hb5 : Below w.heap.size w W4 := hb3.drew.trans (hb4.mono hb3.size)
  refine hK.out _ _ ⟨hx4.cell 0, hx4.cell 1, hx4.cell 2, hx4.cell 3⟩ (fun hHeld2 => ?_)
  clear hK K
  try simp only [List.getElem_toArray, List.getElem_cons_succ, List.getElem_cons_zero]
  try simp only [Act.put, List.setIfInBounds_toArray, List.set_cons_zero, List.set_cons_succ]
  refine wpAnyH_ready (rs := [3]) (by kernel_rfl) (by simp) ?_
  refine AllReadyH.cons rfl (fun K hK => ?_) AllReadyH.nil
  obtain ⟨W5, hW5⟩ : ∃ W5, W4.setCells H2 0 [.int .i64 (pa : Int), .int .i64 (pn : Int), .int .i64 (pc : Int), .int .u64 (pt : Int)] = W5 := ⟨_, rfl⟩
  have hset : W4.setCells H2 0 [.int .i64 (pa : Int), .int .i64 (pn : Int), .int .i64 (pc : Int), .int .u64 (pt : Int)] = W4.setRow H2 #[.int .i64 (pa : Int), .int .i64 (pn : Int), .int .i64 (pc : Int), .int .u64 (pt : Int)] := setCells_spV _ _ [.int .i64 0, .int .i64 0, .int .i64 0, .int .u64 0] W4 hy4 (by simp)
  have HW := Lib.hid (show W4.there H2 0 (#[.int .i64 (pa : Int), .int .i64 (pn : Int), .int .i64 (pc : Int), .int .u64 (pt : Int)] : Array Value).size ∧ W4.setCells H2 0 (#[.int .i64 (pa : Int), .int .i64 (pn : Int), .int .i64 (pc : Int), .int .u64 (pt : Int)] : Array Value).toList = W5 from ⟨fun k hk => by
    have hk4 : k < 4 := hk
    refine ⟨?_, hy4.frozen _⟩
    rw [Nat.zero_add, hy4.cell]
    have hh : k = 0 ∨ k = 1 ∨ k = 2 ∨ k = 3 := by omega
    rcases hh with rfl | rfl | rfl | rfl <;> rfl, hW5⟩)
  have hx5 : Bx W5 H6 47 #[.int .i64 (pa : Int), .int .i64 (pn : Int), .int .i64 (pc : Int), .int .u64 (pt : Int)] := by rw [← hW5, hset]; exact (setRow_other _ _ _ _ h26).trans hx4
  have hy5 : Bx W5 H2 47 #[.int .i64 (pa : Int), .int .i64 (pn : Int), .int .i64 (pc : Int), .int .u64 (pt : Int)] := by rw [← hW5, hset]; exact hy4.put
  have HP := Lib.hid (show Below w.heap.size w W5 from by rw [← hW5, hset]; exact below_put hb5 hle _)
  have r0 : W5.cell? ⟨H2, 0, none⟩ = some (.int .i64 (pa : Int)) := hy5.cell 0
  have r1 : W5.cell? ⟨H2, 1, none⟩ = some (.int .i64 (pn : Int)) := hy5.cell 1
  have r2 : W5.cell? ⟨H2, 2, none⟩ = some (.int .i64 (pc : Int)) := hy5.cell 2
  have r3 : W5.cell? ⟨H2, 3, none⟩ = some (.int .u64 (pt : Int)) := hy5.cell 3
  have hS5 : W5.cell? ⟨H6, 0, none⟩ = some (.int .i64 (pa : Int)) ∧ W5.cell? ⟨H6, 1, none⟩ = some (.int .i64 (pn : Int)) ∧ W5.cell? ⟨H6, 2, none⟩ = some (.int .i64 (pc : Int)) ∧ W5.cell? ⟨H6, 3, none⟩ = some (.int .u64 (pt : Int)) := ⟨hx5.cell 0, hx5.cell 1, hx5.cell 2, hx5.cell 3⟩
  clear hx3 hy3 hb3 hle h26 hx3d hy3d hx4 hy4 hb5 hx5 hy5 hset hW5 hb4 hHeld
  refine step_store_rw HW rfl 47 (.tmp 4) (.tmp 15) rfl rfl rfl (by kernel_rfl) (rnA_one ⟨pa, pn, pc, pt, false⟩) ?_
  refine hK.out _ _ hS5 (fun hHeld3 => ?_)
  clear hK K hHeld2
  try simp only [List.getElem_toArray, List.getElem_cons_succ, List.getElem_cons_zero]
  try simp only [Act.put, List.setIfInBounds_toArray, List.set_cons_zero, List.set_cons_succ]
  refine wpAnyH_take (i := 4) (v := ?_) rfl (by kernel_rfl) (by kernel_rfl) (by kernel_rfl) (fun _ _ _ h => h) (Or.inl ⟨by kernel_rfl, ?_⟩) (by assumption) ?_
  rotate_left
  · rintro w ⟨q0, q1, q2, q3⟩; go_simp; (try with_reducible rfl)
  try simp only [List.getElem_toArray, List.getElem_cons_succ, List.getElem_cons_zero]
  try simp only [Act.put, List.setIfInBounds_toArray, List.set_cons_zero, List.set_cons_succ]
  refine wpAnyH_done (by kernel_rfl) ?_ _
  clear hHeld3 hS5 HX Hn q0 q1 q2 q3 HW
  go_wp2_with fail
  refine bodyPost_ret (v := .tuple #[.agg #[.int .i64 (pa : Int), .int .i64 (pn : Int), .int .i64 (pc : Int), .int .u64 (pt : Int)], .int .i64 x]) (by simp [results, Tryd.results46, go_sem, r0, r1, r2, r3]) rfl ⟨rfl, HP.out⟩
end Go.Proofs.YtgkamdgegfioiaaDoor
