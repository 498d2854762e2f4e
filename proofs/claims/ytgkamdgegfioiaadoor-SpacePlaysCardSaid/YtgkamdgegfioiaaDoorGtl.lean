/- The walk of the law's tells. Condition: errors.errorType holds its handle. -/
import Derived.Test.YtgkamdgegfioiaaDoorGmq
import Derived.Test.YtgkamdgegfioiaaDoorSpq
import Derived.Laws.StructEq
import Derived.BigQuiet
namespace Go.Proofs.YtgkamdgegfioiaaDoor
open Go.RowKit
set_option linter.unusedSimpArgs false
set_option linter.unusedVariables false
@[local go_sem] theorem neqRun (W : World) (a b c d : Int) : (binOp BinOp.neq 47 (.agg #[.int .i64 a, .int .i64 b, .int .i64 c, .int .u64 d]) (.agg #[.int .i64 a, .int .i64 b, .int .i64 c, .int .u64 d])).run Tryd.prog W = .ok (.bool false) W := by
  have hS : Tryd.prog.underlying 47 = some (.struct (Tryd.prog.fieldsOf 47)) := by kernel_rfl
  have hp : Tryd.prog.stoodInHeld 47 = false := by kernel_rfl
  rw [run_neq_struct, show (10000 : Nat) = 9999 + 1 from rfl, run_equalIn_agg W 9999 47 _ _ hS hp]
  simp only [Program.fieldsOf, Tryd.underlying47]
  go_simp
@[local go_sem] theorem neqRows (W : World) (a b c : Int) : (binOp BinOp.neq 36 (.agg #[.int .i64 a, .int .i64 b, .int .i64 c]) (.agg #[.int .i64 a, .int .i64 b, .int .i64 c])).run Tryd.prog W = .ok (.bool false) W := by
  have hS : Tryd.prog.underlying 36 = some (.struct (Tryd.prog.fieldsOf 36)) := by kernel_rfl
  have hp : Tryd.prog.stoodInHeld 36 = false := by kernel_rfl
  rw [run_neq_struct, show (10000 : Nat) = 9999 + 1 from rfl, run_equalIn_agg W 9999 36 _ _ hS hp]
  simp only [Program.fieldsOf, Tryd.underlying36]
  go_simp
theorem runV_agg (k : Int) (ps : List Pc) : ∃ a b c d : Int, runV k ps = .agg #[.int .i64 a, .int .i64 b, .int .i64 c, .int .u64 d] := by
  unfold runV
  split
  · exact ⟨_, _, _, _, rfl⟩
  · exact ⟨_, _, _, _, rfl⟩
/-- what tells looks at -/
structure Tw (W : World) (B P R Q : Nat) (v u vk : Value) (n : Nat) (ps : List Pc) : Prop where
  box : Bx W P 56 #[.pointer (some ⟨R, 0, none⟩), .pointer (some ⟨Q, 0, none⟩), vk]
  sp : Sp W B R v n ps
  rf : Rf W B Q u (rows n ps)
  err : ErrH W
theorem step_store_bx {P : Program} {ops : Array Oper} {o : Oper} {a : Act} {K : Act → World → Prop} {Q : Exit → Act → World → Prop} {E : Prop} {w W' : World} {g : Nat} {t : TypeId} {old cells : Array Value} (HW : Hid (Bx w g t old ∧ w.setRow g cells = W')) (hgd : o.guard = none) (ty : TypeId) (x y : Operand) (ho : o.op = .store ty x y)
    (hx : a.eval x = .pointer (some ⟨g, 0, none⟩)) (hy : a.eval y = .agg cells) (hi : (P.info? ty).map (·.size) = some cells.size) (hold : old.size = cells.size) (h1 : cells.all (·.oneCell') = true) (h : K (a.put o.dst undef) W') :
    if Region.wanted o (yielded ops a.tmps) = true then Oper.wp P o a w K Q else E := by
  have hw : Region.wanted o (yielded ops a.tmps) = true := by simp [Region.wanted, hgd]
  rw [if_pos hw]
  obtain ⟨h2, h3⟩ := HW.out
  subst h3
  exact wp_store_row ty x y ho g cells hx hy t old h2 hi hold h1 h
theorem findS_in {r : Nat} {ps : List Pc} (hw : Wf r 0 ps) {p : Pc} (hp : p ∈ live ps) : findS (p.at_ : Int) ps = some p := by
  unfold live at hp
  obtain ⟨h1, h2⟩ := List.mem_filter.1 hp
  exact findS_uniq hw h1 ⟨rfl, of_decide_eq_true h2⟩
set_option maxHeartbeats 8000000 in
set_option maxRecDepth 100000 in
theorem tells_calls (w wr : World) (P : Nat) (cur : Gm) (kept : List Gm) (vk : Value) (h : St w wr P cur kept vk) (hg : ErrH w) :
    Calls Tryd.prog 20 #[.pointer (some ⟨P, 0, none⟩)] wr fun e w' => e = .returned (.bool true) ∧ Below wr.heap.size wr w' := by
  obtain ⟨ps, v, n, u, R, Q, hT⟩ : ∃ ps v n u R Q, ∀ W, Below wr.heap.size wr W → Tw W w.heap.size P R Q v u vk n ps := by
    have hgr := hg.below hg.lt h.below
    exact ⟨cur.ps, cur.v, cur.n, cur.u, cur.R, cur.Q, fun W hb => by
      have h1 := h.kb hb
      exact ⟨h1.box, h1.one.1, h1.one.2, hgr.below hgr.lt hb⟩⟩
  clear h hg
  have HT := Lib.hid hT
  have hwf := (hT wr (Below.refl _ _)).sp.wf
  have hxr := (hT wr (Below.refl _ _)).box
  have p1 : wr.cell? ⟨P, 1, none⟩ = some (.pointer (some ⟨Q, 0, none⟩)) := hxr.cell 1
  have hq := Lib.hid (rRuns_calls wr _ Q u n ps (hT wr (Below.refl _ _)).rf hwf)
  have HW := Lib.hid hwf
  clear hT hxr hwf
  go_enter Tryd.func20, Tryd.ntmps20
  go_wp2_with fail
  refine (hq.out).mono ?_
  rintro e W1 ⟨v3, rfl, ho3, hb1⟩
  obtain ⟨A3, c3, rfl, hc31, hc32, hrd3⟩ := ho3.rd
  obtain ⟨xs, hxs⟩ : ∃ xs, live ps = xs := ⟨_, rfl⟩
  have hq2 := Lib.hid (show Calls Tryd.prog 13 #[.agg #[.pointer (some ⟨R, 0, none⟩)], .int .i64 2] W1 fun e w' => LsPost W1 ps 2 e w' from pRuns_calls W1 _ R n 2 v ps (HT.out W1 hb1).sp (by omega))
  have hx1 := (HT.out W1 hb1).box
  have p0 : W1.cell? ⟨P, 0, none⟩ = some (.pointer (some ⟨R, 0, none⟩)) := hx1.cell 0
  have HB1 := Lib.hid (And.intro hb1 (And.intro hrd3 hxs))
  have HXS := Lib.hid hxs
  rw [hxs] at hc31 ⊢
  clear ho3 hb1 hrd3 hx1 hq hxs p1
  obtain ⟨M, hM⟩ : ∃ M, xs.length = M := ⟨_, rfl⟩
  have HM := Lib.hid hM
  rw [hM] at hc31 ⊢
  clear hM
  go_wp2_with fail
  refine (hq2.out).mono ?_
  rintro e W2 ⟨v4, v5, rfl, ho4, ho5, hb2⟩
  obtain ⟨hb1, hrd3, hxs⟩ := HB1.out
  obtain ⟨A4, c4, rfl, hc41, hc42, hrd4⟩ := ho4.rd
  obtain ⟨A5, c5, rfl, hc51, hc52, hrd5⟩ := ho5.rd
  rw [hxs] at hc41 hc51 hrd4 hrd5 ⊢
  rw [List.length_take] at hc41 ⊢
  rw [HM.out] at hc41 hc51 ⊢
  have hMb : M ≤ 1073741824 := by
    have a1 := (live_wf HW.out).len
    have a3 := (HT.out W1 hb1).sp.hr
    rw [hxs, HM.out] at a1
    omega
  obtain ⟨K, hK⟩ : ∃ K, min 2 M = K := ⟨_, rfl⟩
  rw [hK] at hc41 ⊢
  have hKi : ((K : Int) != if (M : Int) < 2 then (M : Int) else 2) = false := by
    have : (if (M : Int) < 2 then (M : Int) else 2) = (K : Int) := by split <;> omega
    rw [this]
    simp
  have hb02 : Below wr.heap.size wr W2 := hb1.trans (hb2.mono hb1.size)
  have hK2 : K = 2 ∨ K = M := by omega
  have hKM : K ≤ M ∧ K ≤ 2 := by omega
  have HL := Lib.hid (show Below wr.heap.size wr W2 ∧ RdR W2 A3 xs ∧ RdR W2 A4 (xs.take 2) ∧ RdR W2 A5 xs from ⟨hb02, by rw [← hxs]; exact hrd3.below' hb2, hrd4, hrd5⟩)
  have hR := Lib.hid (show ∀ W, Below wr.heap.size wr W → Calls Tryd.prog 11 #[.agg #[.pointer (some ⟨R, 0, none⟩)]] W fun e w' => e = .returned (.agg #[.int .i64 (usedS ps : Int), .int .i64 (heldS ps : Int), .int .i64 ((n - usedS ps - heldS ps : Nat) : Int)]) ∧ Below W.heap.size W w' from fun W hb => pRows_calls W _ R v n ps (HT.out W hb).sp)
  have hC := Lib.hid (show ∀ W, Below wr.heap.size wr W → Calls Tryd.prog 45 #[.pointer (some ⟨Q, 0, none⟩)] W fun e w' => e = .returned (.agg #[.int .i64 (usedS ps : Int), .int .i64 (heldS ps : Int), .int .i64 ((n - usedS ps - heldS ps : Nat) : Int)]) ∧ Below W.heap.size W w' from fun W hb => count_calls W _ Q u n ps (HT.out W hb).rf HW.out)
  obtain ⟨U1, hU1⟩ : ∃ U : Int, (usedS ps : Int) = U := ⟨_, rfl⟩
  obtain ⟨U2, hU2⟩ : ∃ U : Int, (heldS ps : Int) = U := ⟨_, rfl⟩
  obtain ⟨U3, hU3⟩ : ∃ U : Int, ((n - usedS ps - heldS ps : Nat) : Int) = U := ⟨_, rfl⟩
  rw [hU3, hU1, hU2] at hR hC
  have hbx2 := (HT.out W2 hb02).box
  have HP := Lib.hid (show ∀ W, Below wr.heap.size wr W → W.cell? ⟨P, 0, none⟩ = some (.pointer (some ⟨R, 0, none⟩)) ∧ W.cell? ⟨P, 1, none⟩ = some (.pointer (some ⟨Q, 0, none⟩)) from fun W hb => ⟨(HT.out W hb).box.cell 0, (HT.out W hb).box.cell 1⟩)
  have f0 : W2.drew.cell? ⟨P, 0, none⟩ = some (.pointer (some ⟨R, 0, none⟩)) ∧ W2.drew.cell? ⟨P, 1, none⟩ = some (.pointer (some ⟨Q, 0, none⟩)) := HP.out W2 hb02
  have hc33 : c3 ≤ 9223372036854775807 := by unfold maxLen at hc32; omega
  have hc43 : c4 ≤ 9223372036854775807 := by unfold maxLen at hc42; omega
  have hc53 : c5 ≤ 9223372036854775807 := by unfold maxLen at hc52; omega
  clear hc32 hc42 hc52 hU1 hU2 hU3 ho4 ho5 hrd4 hrd5 hrd3 hb1 hb2 hxs HB1 hq2 p0 hbx2
  go_upto_region 3 with fail
  refine wp_region_held (S := fun X => X.cell? ⟨P, 0, none⟩ = some (.pointer (some ⟨R, 0, none⟩)) ∧ X.cell? ⟨P, 1, none⟩ = some (.pointer (some ⟨Q, 0, none⟩))) (by kernel_rfl) (show wpAnyH _ _ _ _ _ _ _ _ W2.drew from ?_)
  have hHeld : (fun X => X.cell? ⟨P, 0, none⟩ = some (.pointer (some ⟨R, 0, none⟩)) ∧ X.cell? ⟨P, 1, none⟩ = some (.pointer (some ⟨Q, 0, none⟩))) W2.drew := f0
  refine wpAnyH_take (i := 0) (v := ?_) rfl (by kernel_rfl) (by kernel_rfl) (by kernel_rfl) (fun _ _ _ h => h) (Or.inl ⟨by kernel_rfl, ?_⟩) (by assumption) ?_
  rotate_left
  · rintro w ⟨q1, q2⟩; go_simp; (try with_reducible rfl)
  try simp only [List.getElem_toArray, List.getElem_cons_succ, List.getElem_cons_zero]
  try simp only [Act.put, List.setIfInBounds_toArray, List.set_cons_zero, List.set_cons_succ]
  refine wpAnyH_take (i := 1) (v := ?_) rfl (by kernel_rfl) (by kernel_rfl) (by kernel_rfl) (fun _ _ _ h => h) (Or.inl ⟨by kernel_rfl, ?_⟩) (by assumption) ?_
  rotate_left
  · rintro w ⟨q1, q2⟩; go_simp; (try with_reducible rfl)
  try simp only [List.getElem_toArray, List.getElem_cons_succ, List.getElem_cons_zero]
  try simp only [Act.put, List.setIfInBounds_toArray, List.set_cons_zero, List.set_cons_succ]
  refine wpAnyH_take (i := 2) (v := ?_) rfl (by kernel_rfl) (by kernel_rfl) (by kernel_rfl) (fun _ _ _ h => h) (Or.inl ⟨by kernel_rfl, ?_⟩) (by assumption) ?_
  rotate_left
  · rintro w ⟨q1, q2⟩; go_simp; (try with_reducible rfl)
  try simp only [List.getElem_toArray, List.getElem_cons_succ, List.getElem_cons_zero]
  try simp only [Act.put, List.setIfInBounds_toArray, List.set_cons_zero, List.set_cons_succ]
  refine wpAnyH_take (i := 3) (v := ?_) rfl (by kernel_rfl) (by kernel_rfl) (by kernel_rfl) (fun _ _ _ h => h) (Or.inl ⟨by kernel_rfl, ?_⟩) (by assumption) ?_
  rotate_left
  · rintro w ⟨q1, q2⟩; go_simp; (try with_reducible rfl)
  try simp only [List.getElem_toArray, List.getElem_cons_succ, List.getElem_cons_zero]
  try simp only [Act.put, List.setIfInBounds_toArray, List.set_cons_zero, List.set_cons_succ]
  refine wpAnyH_take (i := 5) (v := ?_) rfl (by kernel_rfl) (by kernel_rfl) (by kernel_rfl) (fun _ _ _ h => h) (Or.inl ⟨by kernel_rfl, ?_⟩) (by assumption) ?_
  rotate_left
  · rintro w ⟨q1, q2⟩; go_simp; (try with_reducible rfl)
  try simp only [List.getElem_toArray, List.getElem_cons_succ, List.getElem_cons_zero]
  try simp only [Act.put, List.setIfInBounds_toArray, List.set_cons_zero, List.set_cons_succ]
  refine wpAnyH_take (i := 6) (v := ?_) rfl (by kernel_rfl) (by kernel_rfl) (by kernel_rfl) (fun _ _ _ h => h) (Or.inl ⟨by kernel_rfl, ?_⟩) (by assumption) ?_
  rotate_left
  · rintro w ⟨q1, q2⟩; go_simp; (try with_reducible rfl)
  try simp only [List.getElem_toArray, List.getElem_cons_succ, List.getElem_cons_zero]
  try simp only [Act.put, List.setIfInBounds_toArray, List.set_cons_zero, List.set_cons_succ]
  refine wpAnyH_take (i := 7) (v := ?_) rfl (by kernel_rfl) (by kernel_rfl) (by kernel_rfl) (fun _ _ _ h => h) (Or.inl ⟨by kernel_rfl, ?_⟩) (by assumption) ?_
  rotate_left
  · rintro w ⟨q1, q2⟩; go_simp; (try with_reducible rfl)
  try simp only [List.getElem_toArray, List.getElem_cons_succ, List.getElem_cons_zero]
  try simp only [Act.put, List.setIfInBounds_toArray, List.set_cons_zero, List.set_cons_succ]
  refine wpAnyH_take (i := 8) (v := ?_) rfl (by kernel_rfl) (by kernel_rfl) (by kernel_rfl) (fun _ _ _ h => h) (Or.inl ⟨by kernel_rfl, ?_⟩) (by assumption) ?_
  rotate_left
  · rintro w ⟨q1, q2⟩; go_simp; (try with_reducible rfl)
  try simp only [List.getElem_toArray, List.getElem_cons_succ, List.getElem_cons_zero]
  try simp only [Act.put, List.setIfInBounds_toArray, List.set_cons_zero, List.set_cons_succ]
  refine wpAnyH_ready (rs := [4]) (by kernel_rfl) (by simp) ?_
  refine AllReadyH.cons rfl (fun K hK => ?_) AllReadyH.nil
  go_simp
  refine (hR.out W2.drew (HL.out.1.drew)).mono ?_
  rintro e W3 ⟨rfl, hb3⟩
  have hb23 := hb3
  have hb3 : Below wr.heap.size wr W3 := HL.out.1.drew.trans (hb3.mono HL.out.1.drew.size)
  refine hK.out _ _ (HP.out W3 hb3) (fun hHeld2 => ?_)
  clear hK K
  try simp only [List.getElem_toArray, List.getElem_cons_succ, List.getElem_cons_zero]
  try simp only [Act.put, List.setIfInBounds_toArray, List.set_cons_zero, List.set_cons_succ]
  refine wpAnyH_ready (rs := [9]) (by kernel_rfl) (by simp) ?_
  refine AllReadyH.cons rfl (fun K hK => ?_) AllReadyH.nil
  go_simp
  refine (hC.out W3 hb3).mono ?_
  rintro e W4 ⟨rfl, hb4⟩
  have hb24 : Below W2.heap.size W2 W4 := (Below.refl _ W2).drew.trans (hb23.trans (hb4.mono hb23.size))
  have hb4 : Below wr.heap.size wr W4 := hb3.trans (hb4.mono hb3.size)
  refine hK.out _ _ (HP.out W4 hb4) (fun hHeld3 => ?_)
  clear hK K
  try simp only [List.getElem_toArray, List.getElem_cons_succ, List.getElem_cons_zero]
  try simp only [Act.put, List.setIfInBounds_toArray, List.set_cons_zero, List.set_cons_succ]
  refine wpAnyH_take (i := 10) (v := ?_) rfl (by kernel_rfl) (by kernel_rfl) (by kernel_rfl) (fun _ _ _ h => h) (Or.inl ⟨by kernel_rfl, ?_⟩) (by assumption) ?_
  rotate_left
  · rintro w ⟨q1, q2⟩; go_simp; (try with_reducible rfl)
  try simp only [List.getElem_toArray, List.getElem_cons_succ, List.getElem_cons_zero]
  try simp only [Act.put, List.setIfInBounds_toArray, List.set_cons_zero, List.set_cons_succ]
  refine wpAnyH_take (i := 11) (v := ?_) rfl (by kernel_rfl) (by kernel_rfl) (by kernel_rfl) (fun _ _ _ h => h) (Or.inl ⟨by kernel_rfl, ?_⟩) (by assumption) ?_
  rotate_left
  · rintro w ⟨q1, q2⟩; go_simp; (try with_reducible rfl)
  try simp only [List.getElem_toArray, List.getElem_cons_succ, List.getElem_cons_zero]
  try simp only [Act.put, List.setIfInBounds_toArray, List.set_cons_zero, List.set_cons_succ]
  refine wpAnyH_take (i := 12) (v := ?_) rfl (by kernel_rfl) (by kernel_rfl) (by kernel_rfl) (fun _ _ _ h => h) (Or.inl ⟨by kernel_rfl, ?_⟩) (by assumption) ?_
  rotate_left
  · rintro w ⟨q1, q2⟩; go_simp; (try with_reducible rfl)
  try simp only [List.getElem_toArray, List.getElem_cons_succ, List.getElem_cons_zero]
  try simp only [Act.put, List.setIfInBounds_toArray, List.set_cons_zero, List.set_cons_succ]
  refine wpAnyH_take (i := 13) (v := ?_) rfl (by kernel_rfl) (by kernel_rfl) (by kernel_rfl) (fun _ _ _ h => h) (Or.inl ⟨by kernel_rfl, ?_⟩) (by assumption) ?_
  rotate_left
  · rintro w ⟨q1, q2⟩; go_simp; (try with_reducible rfl)
  try simp only [List.getElem_toArray, List.getElem_cons_succ, List.getElem_cons_zero]
  try simp only [Act.put, List.setIfInBounds_toArray, List.set_cons_zero, List.set_cons_succ]
  refine wpAnyH_take (i := 14) (v := ?_) rfl (by kernel_rfl) (by kernel_rfl) (by kernel_rfl) (fun _ _ _ h => h) (Or.inl ⟨by kernel_rfl, ?_⟩) (by assumption) ?_
  rotate_left
  · rintro w ⟨q1, q2⟩; go_simp; (try with_reducible rfl)
  try simp only [List.getElem_toArray, List.getElem_cons_succ, List.getElem_cons_zero]
  try simp only [Act.put, List.setIfInBounds_toArray, List.set_cons_zero, List.set_cons_succ]
  refine wpAnyH_take (i := 15) (v := ?_) rfl (by kernel_rfl) (by kernel_rfl) (by kernel_rfl) (fun _ _ _ h => h) (Or.inl ⟨by kernel_rfl, ?_⟩) (by assumption) ?_
  rotate_left
  · rintro w ⟨q1, q2⟩; go_simp; (try with_reducible rfl)
  try simp only [List.getElem_toArray, List.getElem_cons_succ, List.getElem_cons_zero]
  try simp only [Act.put, List.setIfInBounds_toArray, List.set_cons_zero, List.set_cons_succ]
  refine wpAnyH_take (i := 16) (v := ?_) rfl (by kernel_rfl) (by kernel_rfl) (by kernel_rfl) (fun _ _ _ h => h) (Or.inl ⟨by kernel_rfl, ?_⟩) (by assumption) ?_
  rotate_left
  · rintro w ⟨q1, q2⟩; go_simp; (try with_reducible rfl)
  try simp only [List.getElem_toArray, List.getElem_cons_succ, List.getElem_cons_zero]
  try simp only [Act.put, List.setIfInBounds_toArray, List.set_cons_zero, List.set_cons_succ]
  refine wpAnyH_take (i := 17) (v := ?_) rfl (by kernel_rfl) (by kernel_rfl) (by kernel_rfl) (fun _ _ _ h => h) (Or.inl ⟨by kernel_rfl, ?_⟩) (by assumption) ?_
  rotate_left
  · rintro w ⟨q1, q2⟩; go_simp; (try with_reducible rfl)
  try simp only [List.getElem_toArray, List.getElem_cons_succ, List.getElem_cons_zero]
  try simp only [Act.put, List.setIfInBounds_toArray, List.set_cons_zero, List.set_cons_succ]
  refine wpAnyH_take (i := 18) (v := ?_) rfl (by kernel_rfl) (by kernel_rfl) (by kernel_rfl) (fun _ _ _ h => h) (Or.inl ⟨by kernel_rfl, ?_⟩) (by assumption) ?_
  rotate_left
  · rintro w ⟨q1, q2⟩; go_simp; (try with_reducible rfl)
  try simp only [List.getElem_toArray, List.getElem_cons_succ, List.getElem_cons_zero]
  try simp only [Act.put, List.setIfInBounds_toArray, List.set_cons_zero, List.set_cons_succ]
  refine wpAnyH_take (i := 19) (v := ?_) rfl (by kernel_rfl) (by kernel_rfl) (by kernel_rfl) (fun _ _ _ h => h) (Or.inl ⟨by kernel_rfl, ?_⟩) (by assumption) ?_
  rotate_left
  · rintro w ⟨q1, q2⟩; go_simp; (try with_reducible rfl)
  try simp only [List.getElem_toArray, List.getElem_cons_succ, List.getElem_cons_zero]
  try simp only [Act.put, List.setIfInBounds_toArray, List.set_cons_zero, List.set_cons_succ]
  refine wpAnyH_take (i := 20) (v := ?_) rfl (by kernel_rfl) (by kernel_rfl) (by kernel_rfl) (fun _ _ _ h => h) (Or.inl ⟨by kernel_rfl, ?_⟩) (by assumption) ?_
  rotate_left
  · rintro w ⟨q1, q2⟩; go_simp; (try with_reducible rfl)
  try simp only [List.getElem_toArray, List.getElem_cons_succ, List.getElem_cons_zero]
  try simp only [Act.put, List.setIfInBounds_toArray, List.set_cons_zero, List.set_cons_succ]
  refine wpAnyH_take (i := 21) (v := ?_) rfl (by kernel_rfl) (by kernel_rfl) (by kernel_rfl) (fun _ _ _ h => h) (Or.inl ⟨by kernel_rfl, ?_⟩) (by assumption) ?_
  rotate_left
  · rintro w ⟨q1, q2⟩; go_simp; (try with_reducible rfl)
  try simp only [List.getElem_toArray, List.getElem_cons_succ, List.getElem_cons_zero]
  try simp only [Act.put, List.setIfInBounds_toArray, List.set_cons_zero, List.set_cons_succ]
  refine wpAnyH_take (i := 22) (v := ?_) rfl (by kernel_rfl) (by kernel_rfl) (by kernel_rfl) (fun _ _ _ h => h) (Or.inl ⟨by kernel_rfl, ?_⟩) (by assumption) ?_
  rotate_left
  · rintro w ⟨q1, q2⟩; go_simp; (try with_reducible rfl)
  try simp only [List.getElem_toArray, List.getElem_cons_succ, List.getElem_cons_zero]
  try simp only [Act.put, List.setIfInBounds_toArray, List.set_cons_zero, List.set_cons_succ]
  refine wpAnyH_take (i := 23) (v := ?_) rfl (by kernel_rfl) (by kernel_rfl) (by kernel_rfl) (fun _ _ _ h => h) (Or.inl ⟨by kernel_rfl, ?_⟩) (by assumption) ?_
  rotate_left
  · rintro w ⟨q1, q2⟩; go_simp; (try with_reducible rfl)
  try simp only [List.getElem_toArray, List.getElem_cons_succ, List.getElem_cons_zero]
  try simp only [Act.put, List.setIfInBounds_toArray, List.set_cons_zero, List.set_cons_succ]
  refine wpAnyH_take (i := 24) (v := ?_) rfl (by kernel_rfl) (by kernel_rfl) (by kernel_rfl) (fun _ _ _ h => h) (Or.inl ⟨by kernel_rfl, ?_⟩) (by assumption) ?_
  rotate_left
  · rintro w ⟨q1, q2⟩; go_simp; (try with_reducible rfl)
  try simp only [List.getElem_toArray, List.getElem_cons_succ, List.getElem_cons_zero]
  try simp only [Act.put, List.setIfInBounds_toArray, List.set_cons_zero, List.set_cons_succ]
  refine wpAnyH_take (i := 25) (v := ?_) rfl (by kernel_rfl) (by kernel_rfl) (by kernel_rfl) (fun _ _ _ h => h) (Or.inl ⟨by kernel_rfl, ?_⟩) (by assumption) ?_
  rotate_left
  · rintro w ⟨q1, q2⟩; go_simp; (try with_reducible rfl)
  try simp only [List.getElem_toArray, List.getElem_cons_succ, List.getElem_cons_zero]
  try simp only [Act.put, List.setIfInBounds_toArray, List.set_cons_zero, List.set_cons_succ]
  refine wpAnyH_done (by kernel_rfl) ?_ _
  clear hHeld hHeld2 hHeld3 f0 hR hC
  have HF := Lib.hid (show ∀ W, Below W4.heap.size W4 W → (W.cell? ⟨P, 0, none⟩ = some (.pointer (some ⟨R, 0, none⟩)) ∧ W.cell? ⟨P, 1, none⟩ = some (.pointer (some ⟨Q, 0, none⟩))) ∧ RdR W A3 xs ∧ RdR W A4 (xs.take 2) ∧ RdR W A5 xs ∧ Below wr.heap.size wr W from fun W hb => by
    have hb2 : Below W2.heap.size W2 W := hb24.trans (hb.mono hb24.size)
    have hbr : Below wr.heap.size wr W := hb4.trans (hb.mono hb4.size)
    exact ⟨HP.out W hbr, HL.out.2.1.below' hb2, HL.out.2.2.1.below' hb2, HL.out.2.2.2.below' hb2, hbr⟩)
  have HFi := Lib.hid (show ∀ W, Below W4.heap.size W4 W → ∀ i (hi : i < xs.length), Calls Tryd.prog 46 #[.agg #[.pointer (some ⟨R, 0, none⟩)], .int .i64 ((xs[i].at_ : Nat) : Int)] W fun e w' => e = .returned (.tuple #[.agg (rnA xs[i]), .int .i64 0]) ∧ Below W.heap.size W w' from fun W hb i hi => by
    have hbr : Below wr.heap.size wr W := hb4.trans (hb.mono hb4.size)
    have hq := pFind_calls W _ R v n ps ((xs[i].at_ : Nat) : Int) (HT.out W hbr).sp (HT.out W hbr).err
    have hf : findS ((xs[i].at_ : Nat) : Int) ps = some xs[i] := findS_in HW.out (by rw [HXS.out]; exact List.getElem_mem hi)
    unfold runV runE at hq
    rw [hf] at hq
    exact hq)
  have HFz := Lib.hid (show ∀ W, Below W4.heap.size W4 W → ∀ z : Int, (Calls Tryd.prog 46 #[.agg #[.pointer (some ⟨R, 0, none⟩)], .int .i64 z] W fun e w' => e = .returned (.tuple #[runV z ps, .int .i64 (runE z ps)]) ∧ Below W.heap.size W w') ∧ (Calls Tryd.prog 47 #[.pointer (some ⟨Q, 0, none⟩), .int .i64 z] W fun e w' => e = .returned (.tuple #[runV z ps, .int .i64 (runE z ps)]) ∧ Below W.heap.size W w') from fun W hb z => by
    have hbr : Below wr.heap.size wr W := hb4.trans (hb.mono hb4.size)
    exact ⟨pFind_calls W _ R v n ps z (HT.out W hbr).sp (HT.out W hbr).err, rFind_calls W _ Q u n ps z (HT.out W hbr).rf HW.out⟩)
  have h0 := Lib.hid (Below.refl W4.heap.size W4)
  clear HP HL HT HW HXS hb3 hb4 hb23 hb24 hb02 hK
  generalize (if (M : Int) < 2 then (M : Int) else 2) = mm at *
  clear hKi
  go_wp2_with fail
  go_loopw [6] (fun t6 wl => ∃ i : Nat, t6 = .int .i64 (i : Int) ∧ i ≤ M ∧ Hid (Below W4.heap.size W4 wl)) (fun t6 _ => M - (intOf t6).toNat)
  case atStart => exact ⟨0, rfl, by omega, h0⟩
  case round =>
    clear h0
    rename World => wl
    obtain ⟨i, rfl, hi, H⟩ := hrel
    by_cases hlt : i < M
    · have hlti : (i : Int) < (M : Int) := by omega
      have hil : i < xs.length := by have := HM.out; omega
      obtain ⟨-, h3, h4, h5, -⟩ := HF.out wl H.out
      obtain ⟨g3, hA3, hg3, -⟩ := h3 i hil
      subst hA3
      obtain ⟨g5, hA5, hg5, -⟩ := h5 i hil
      subst hA5
      obtain ⟨a, ha⟩ : ∃ a, xs[i].at_ = a := ⟨_, rfl⟩
      obtain ⟨k, hk⟩ : ∃ k, xs[i].n = k := ⟨_, rfl⟩
      obtain ⟨c, hc⟩ : ∃ c, xs[i].cnt = c := ⟨_, rfl⟩
      obtain ⟨d, hd⟩ : ∃ d, xs[i].tag = d := ⟨_, rfl⟩
      have hrn : rnA xs[i] = #[.int .i64 (a : Int), .int .i64 (k : Int), .int .i64 (c : Int), .int .u64 (d : Int)] := by unfold rnA; rw [ha, hk, hc, hd]
      have hFi := Lib.hid (show ∀ W, Below W4.heap.size W4 W → Calls Tryd.prog 46 #[.agg #[.pointer (some ⟨R, 0, none⟩)], .int .i64 (a : Int)] W fun e w' => e = .returned (.tuple #[.agg #[.int .i64 (a : Int), .int .i64 (k : Int), .int .i64 (c : Int), .int .u64 (d : Int)], .int .i64 0]) ∧ Below W.heap.size W w' from fun W hb => by
        have := HFi.out W hb i hil
        rw [ha, hrn] at this
        exact this)
      have hcl := Lib.hid (show ∀ W, Below W4.heap.size W4 W → W.cell? ⟨P, 0, none⟩ = some (.pointer (some ⟨R, 0, none⟩)) ∧ (∀ j, j < 4 → W.cell? ⟨g3, i * 4 + j, none⟩ = (#[.int .i64 (a : Int), .int .i64 (k : Int), .int .i64 (c : Int), .int .u64 (d : Int)] : Array Value)[j]?) ∧ (∀ j, j < 4 → W.cell? ⟨g5, i * 4 + j, none⟩ = (#[.int .i64 (a : Int), .int .i64 (k : Int), .int .i64 (c : Int), .int .u64 (d : Int)] : Array Value)[j]?) ∧ (i < 2 → ∃ g4, A4 = some ⟨g4, 0, none⟩ ∧ ∀ j, j < 4 → W.cell? ⟨g4, i * 4 + j, none⟩ = (#[.int .i64 (a : Int), .int .i64 (k : Int), .int .i64 (c : Int), .int .u64 (d : Int)] : Array Value)[j]?) from fun W hb => by
        obtain ⟨hP, h3, h4, h5, -⟩ := HF.out W hb
        obtain ⟨g3', e3, -, c3⟩ := h3 i hil
        cases e3
        obtain ⟨g5', e5, -, c5⟩ := h5 i hil
        cases e5
        rw [hrn] at c3 c5
        refine ⟨hP.1, c3, c5, fun h2 => ?_⟩
        obtain ⟨g4, e4, -, c4⟩ := h4 i (by rw [List.length_take]; omega)
        refine ⟨g4, e4, ?_⟩
        rw [List.getElem_take, hrn] at c4
        exact c4)
      have hbl := H.out
      have HBL := Lib.hid hbl
      have f8 : wl.drew.cell? ⟨P, 0, none⟩ = some (.pointer (some ⟨R, 0, none⟩)) ∧ wl.drew.cell? ⟨g3, i * 4, none⟩ = some (.int .i64 (a : Int)) := ⟨(hcl.out wl hbl).1, (hcl.out wl hbl).2.1 0 (by omega)⟩
      clear h3 h4 h5 hg3 hg5 ha hk hc hd hrn hbl H hil
      go_upto_region 8 with fail
      refine wp_region_held (S := fun X => X.cell? ⟨P, 0, none⟩ = some (.pointer (some ⟨R, 0, none⟩)) ∧ X.cell? ⟨g3, i * 4, none⟩ = some (.int .i64 (a : Int))) (by kernel_rfl) (show wpAnyH _ _ _ _ _ _ _ _ wl.drew from ?_)
      have hHeld : (fun X => X.cell? ⟨P, 0, none⟩ = some (.pointer (some ⟨R, 0, none⟩)) ∧ X.cell? ⟨g3, i * 4, none⟩ = some (.int .i64 (a : Int))) wl.drew := f8
      refine wpAnyH_take (i := 0) (v := ?_) rfl (by kernel_rfl) (by kernel_rfl) (by kernel_rfl) (fun _ _ _ h => h) (Or.inl ⟨by kernel_rfl, ?_⟩) (by assumption) ?_
      rotate_left
      · rintro w ⟨q1, q2⟩; go_simp; (try with_reducible rfl)
      try simp only [List.getElem_toArray, List.getElem_cons_succ, List.getElem_cons_zero]
      try simp only [Act.put, List.setIfInBounds_toArray, List.set_cons_zero, List.set_cons_succ]
      refine wpAnyH_take (i := 1) (v := ?_) rfl (by kernel_rfl) (by kernel_rfl) (by kernel_rfl) (fun _ _ _ h => h) (Or.inl ⟨by kernel_rfl, ?_⟩) (by assumption) ?_
      rotate_left
      · rintro w ⟨q1, q2⟩; go_simp; (try with_reducible rfl)
      try simp only [List.getElem_toArray, List.getElem_cons_succ, List.getElem_cons_zero]
      try simp only [Act.put, List.setIfInBounds_toArray, List.set_cons_zero, List.set_cons_succ]
      refine wpAnyH_take (i := 2) (v := ?_) rfl (by kernel_rfl) (by kernel_rfl) (by kernel_rfl) (fun _ _ _ h => h) (Or.inl ⟨by kernel_rfl, ?_⟩) (by assumption) ?_
      rotate_left
      · rintro w ⟨q1, q2⟩; go_simp; (try with_reducible rfl)
      try simp only [List.getElem_toArray, List.getElem_cons_succ, List.getElem_cons_zero]
      try simp only [Act.put, List.setIfInBounds_toArray, List.set_cons_zero, List.set_cons_succ]
      refine wpAnyH_take (i := 3) (v := ?_) rfl (by kernel_rfl) (by kernel_rfl) (by kernel_rfl) (fun _ _ _ h => h) (Or.inl ⟨by kernel_rfl, ?_⟩) (by assumption) ?_
      rotate_left
      · rintro w ⟨q1, q2⟩; go_simp; (try with_reducible rfl)
      try simp only [List.getElem_toArray, List.getElem_cons_succ, List.getElem_cons_zero]
      try simp only [Act.put, List.setIfInBounds_toArray, List.set_cons_zero, List.set_cons_succ]
      refine wpAnyH_take (i := 4) (v := ?_) rfl (by kernel_rfl) (by kernel_rfl) (by kernel_rfl) (fun _ _ _ h => h) (Or.inl ⟨by kernel_rfl, ?_⟩) (by assumption) ?_
      rotate_left
      · rintro w ⟨q1, q2⟩; go_simp; (try with_reducible rfl)
      try simp only [List.getElem_toArray, List.getElem_cons_succ, List.getElem_cons_zero]
      try simp only [Act.put, List.setIfInBounds_toArray, List.set_cons_zero, List.set_cons_succ]
      refine wpAnyH_take (i := 5) (v := ?_) rfl (by kernel_rfl) (by kernel_rfl) (by kernel_rfl) (fun _ _ _ h => h) (Or.inl ⟨by kernel_rfl, ?_⟩) (by assumption) ?_
      rotate_left
      · rintro w ⟨q1, q2⟩; go_simp; (try with_reducible rfl)
      try simp only [List.getElem_toArray, List.getElem_cons_succ, List.getElem_cons_zero]
      try simp only [Act.put, List.setIfInBounds_toArray, List.set_cons_zero, List.set_cons_succ]
      refine wpAnyH_take (i := 6) (v := ?_) rfl (by kernel_rfl) (by kernel_rfl) (by kernel_rfl) (fun _ _ _ h => h) (Or.inl ⟨by kernel_rfl, ?_⟩) (by assumption) ?_
      rotate_left
      · rintro w ⟨q1, q2⟩; go_simp; (try with_reducible rfl)
      try simp only [List.getElem_toArray, List.getElem_cons_succ, List.getElem_cons_zero]
      try simp only [Act.put, List.setIfInBounds_toArray, List.set_cons_zero, List.set_cons_succ]
      refine wpAnyH_take (i := 7) (v := ?_) rfl (by kernel_rfl) (by kernel_rfl) (by kernel_rfl) (fun _ _ _ h => h) (Or.inl ⟨by kernel_rfl, ?_⟩) (by assumption) ?_
      rotate_left
      · rintro w ⟨q1, q2⟩; go_simp; (try with_reducible rfl)
      try simp only [List.getElem_toArray, List.getElem_cons_succ, List.getElem_cons_zero]
      try simp only [Act.put, List.setIfInBounds_toArray, List.set_cons_zero, List.set_cons_succ]
      refine wpAnyH_take (i := 8) (v := ?_) rfl (by kernel_rfl) (by kernel_rfl) (by kernel_rfl) (fun _ _ _ h => h) (Or.inl ⟨by kernel_rfl, ?_⟩) (by assumption) ?_
      rotate_left
      · rintro w ⟨q1, q2⟩; go_simp; (try with_reducible rfl)
      try simp only [List.getElem_toArray, List.getElem_cons_succ, List.getElem_cons_zero]
      try simp only [Act.put, List.setIfInBounds_toArray, List.set_cons_zero, List.set_cons_succ]
      refine wpAnyH_ready (rs := [9, 13]) (by kernel_rfl) (by simp) ?_
      refine AllReadyH.cons rfl (fun K hK => ?_) (AllReadyH.cons rfl (fun K hK => ?_) AllReadyH.nil)
      · go_simp
        refine (hFi.out wl.drew HBL.out.drew).mono ?_
        rintro e W5 ⟨rfl, hb5⟩
        have hb5 : Below W4.heap.size W4 W5 := HBL.out.drew.trans (hb5.mono HBL.out.drew.size)
        have f5 : W5.cell? ⟨P, 0, none⟩ = some (.pointer (some ⟨R, 0, none⟩)) ∧ W5.cell? ⟨g3, i * 4, none⟩ = some (.int .i64 (a : Int)) := ⟨(hcl.out W5 hb5).1, (hcl.out W5 hb5).2.1 0 (by omega)⟩
        refine hK.out _ _ f5 (fun hHeld2 => ?_)
        clear hK K
        try simp only [List.getElem_toArray, List.getElem_cons_succ, List.getElem_cons_zero]
        try simp only [Act.put, List.setIfInBounds_toArray, List.set_cons_zero, List.set_cons_succ]
        refine wpAnyH_take (i := 10) (v := ?_) rfl (by kernel_rfl) (by kernel_rfl) (by kernel_rfl) (fun _ _ _ h => h) (Or.inl ⟨by kernel_rfl, ?_⟩) (by assumption) ?_
        rotate_left
        · rintro w ⟨q1, q2⟩; go_simp; (try with_reducible rfl)
        try simp only [List.getElem_toArray, List.getElem_cons_succ, List.getElem_cons_zero]
        try simp only [Act.put, List.setIfInBounds_toArray, List.set_cons_zero, List.set_cons_succ]
        refine wpAnyH_take (i := 11) (v := ?_) rfl (by kernel_rfl) (by kernel_rfl) (by kernel_rfl) (fun _ _ _ h => h) (Or.inl ⟨by kernel_rfl, ?_⟩) (by assumption) ?_
        rotate_left
        · rintro w ⟨q1, q2⟩; go_simp; (try with_reducible rfl)
        try simp only [List.getElem_toArray, List.getElem_cons_succ, List.getElem_cons_zero]
        try simp only [Act.put, List.setIfInBounds_toArray, List.set_cons_zero, List.set_cons_succ]
        refine wpAnyH_take (i := 12) (v := ?_) rfl (by kernel_rfl) (by kernel_rfl) (by kernel_rfl) (fun _ _ _ h => h) (Or.inl ⟨by kernel_rfl, ?_⟩) (by assumption) ?_
        rotate_left
        · rintro w ⟨q1, q2⟩; go_simp; (try with_reducible rfl)
        try simp only [List.getElem_toArray, List.getElem_cons_succ, List.getElem_cons_zero]
        try simp only [Act.put, List.setIfInBounds_toArray, List.set_cons_zero, List.set_cons_succ]
        refine wpAnyH_ready (rs := [13]) (by kernel_rfl) (by simp) ?_
        refine AllReadyH.cons rfl (fun K hK => ?_) AllReadyH.nil
        go_simp
        obtain ⟨b7, hb7⟩ : ∃ b7, W5.heap.size = b7 := ⟨_, rfl⟩
        obtain ⟨W6, hW6⟩ : ∃ W6, W5.alloc (.cells #[.int .i64 0, .int .i64 0, .int .i64 0, .int .u64 0] 47) = W6 := ⟨_, rfl⟩
        obtain ⟨W7, hW7⟩ : ∃ W7, W6.setRow b7 #[.int .i64 (a : Int), .int .i64 (k : Int), .int .i64 (c : Int), .int .u64 (d : Int)] = W7 := ⟨_, rfl⟩
        have hx6 : Bx W6 b7 47 #[.int .i64 0, .int .i64 0, .int .i64 0, .int .u64 0] := by rw [← hW6, ← hb7]; exact Bx.new _ _ _
        have hx7 : Bx W7 b7 47 #[.int .i64 (a : Int), .int .i64 (k : Int), .int .i64 (c : Int), .int .u64 (d : Int)] := by rw [← hW7]; exact hx6.put
        have hb6 : Below W4.heap.size W4 W6 := by rw [← hW6]; exact hb5.alloc hb5.size _
        have hb47 : Below W4.heap.size W4 W7 := by rw [← hW7]; exact below_put hb6 (by rw [← hb7]; exact hb5.size) _
        have HW7 := Lib.hid (And.intro hx6 hW7)
        have f6 : W6.cell? ⟨P, 0, none⟩ = some (.pointer (some ⟨R, 0, none⟩)) ∧ W6.cell? ⟨g3, i * 4, none⟩ = some (.int .i64 (a : Int)) := ⟨(hcl.out W6 hb6).1, (hcl.out W6 hb6).2.1 0 (by omega)⟩
        have f7 : W7.cell? ⟨P, 0, none⟩ = some (.pointer (some ⟨R, 0, none⟩)) ∧ W7.cell? ⟨g3, i * 4, none⟩ = some (.int .i64 (a : Int)) := ⟨(hcl.out W7 hb47).1, (hcl.out W7 hb47).2.1 0 (by omega)⟩
        try rw [hb7, hW6]
        clear hx6 hW7 hW6 hb7 hb6
        refine hK.out _ _ f6 (fun hHeld3 => ?_)
        clear hK K
        try simp only [List.getElem_toArray, List.getElem_cons_succ, List.getElem_cons_zero]
        try simp only [Act.put, List.setIfInBounds_toArray, List.set_cons_zero, List.set_cons_succ]
        refine wpAnyH_ready (rs := [14]) (by kernel_rfl) (by simp) ?_
        refine AllReadyH.cons rfl (fun K hK => ?_) AllReadyH.nil
        refine step_store_bx HW7 rfl 47 (.tmp 7) (.tmp 70) rfl rfl rfl (by kernel_rfl) rfl (rnA_one ⟨a, k, c, d, false⟩) ?_
        refine hK.out _ _ f7 (fun hHeld4 => ?_)
        clear hK K
        try simp only [List.getElem_toArray, List.getElem_cons_succ, List.getElem_cons_zero]
        try simp only [Act.put, List.setIfInBounds_toArray, List.set_cons_zero, List.set_cons_succ]
        refine wpAnyH_take (i := 15) (v := ?_) rfl (by kernel_rfl) (by kernel_rfl) (by kernel_rfl) (fun _ _ _ h => h) (Or.inl ⟨by kernel_rfl, ?_⟩) (by assumption) ?_
        rotate_left
        · rintro w ⟨q1, q2⟩; go_simp; (try with_reducible rfl)
        try simp only [List.getElem_toArray, List.getElem_cons_succ, List.getElem_cons_zero]
        try simp only [Act.put, List.setIfInBounds_toArray, List.set_cons_zero, List.set_cons_succ]
        refine wpAnyH_done (by kernel_rfl) ?_ _
        clear hHeld hHeld2 hHeld3 hHeld4 f5 f6 f7 f8 HW7 hFi
        obtain ⟨-, k3, k5, k44⟩ := hcl.out W7 hb47
        have HN := Lib.hid hb47
        clear hb47 hb5 hcl HBL
        have y0 : W7.cell? ⟨b7, 0, none⟩ = some (.int .i64 (a : Int)) := hx7.cell 0
        have y1 : W7.cell? ⟨b7, 1, none⟩ = some (.int .i64 (k : Int)) := hx7.cell 1
        have y2 : W7.cell? ⟨b7, 2, none⟩ = some (.int .i64 (c : Int)) := hx7.cell 2
        have y3 : W7.cell? ⟨b7, 3, none⟩ = some (.int .u64 (d : Int)) := hx7.cell 3
        have u0 : W7.cell? ⟨g3, i * 4, none⟩ = some (.int .i64 (a : Int)) := k3 0 (by omega)
        have u1 : W7.cell? ⟨g3, i * 4 + 1, none⟩ = some (.int .i64 (k : Int)) := k3 1 (by omega)
        have u2 : W7.cell? ⟨g3, i * 4 + 2, none⟩ = some (.int .i64 (c : Int)) := k3 2 (by omega)
        have u3 : W7.cell? ⟨g3, i * 4 + 3, none⟩ = some (.int .u64 (d : Int)) := k3 3 (by omega)
        have x0 : W7.cell? ⟨g5, i * 4, none⟩ = some (.int .i64 (a : Int)) := k5 0 (by omega)
        have x1 : W7.cell? ⟨g5, i * 4 + 1, none⟩ = some (.int .i64 (k : Int)) := k5 1 (by omega)
        have x2 : W7.cell? ⟨g5, i * 4 + 2, none⟩ = some (.int .i64 (c : Int)) := k5 2 (by omega)
        have x3 : W7.cell? ⟨g5, i * 4 + 3, none⟩ = some (.int .u64 (d : Int)) := k5 3 (by omega)
        clear hx7 k3 k5
        by_cases hi2 : i < 2
        · obtain ⟨g4, hA4, k4⟩ := k44 hi2
          subst hA4
          have hi2d : decide (i < 2) = true := decide_eq_true hi2
          have hi2e : decide ((i : Int) < 2) = true := decide_eq_true (by omega)
          have hi2K : (i : Int) < (K : Int) := by omega
          have z0 : W7.cell? ⟨g4, i * 4, none⟩ = some (.int .i64 (a : Int)) := k4 0 (by omega)
          have z1 : W7.cell? ⟨g4, i * 4 + 1, none⟩ = some (.int .i64 (k : Int)) := k4 1 (by omega)
          have z2 : W7.cell? ⟨g4, i * 4 + 2, none⟩ = some (.int .i64 (c : Int)) := k4 2 (by omega)
          have z3 : W7.cell? ⟨g4, i * 4 + 3, none⟩ = some (.int .u64 (d : Int)) := k4 3 (by omega)
          clear k4 k44
          go_wp2_with fail
          go_quiet (fail)
          go_wp2_with fail
          exact ⟨⟨i + 1, by go_num, by omega, Lib.hid (HN.out.trans ⟨rfl, rfl, rfl, Nat.le_refl _, fun _ _ => rfl⟩)⟩, by simp [intOf]; omega⟩
        · have hi2d : decide (i < 2) = false := decide_eq_false hi2
          have hi2e : decide ((i : Int) < 2) = false := decide_eq_false (by omega)
          clear k44
          go_wp2_with fail
          go_quiet (fail)
          go_wp2_with fail
          exact ⟨⟨i + 1, by go_num, by omega, Lib.hid (HN.out.trans ⟨rfl, rfl, rfl, Nat.le_refl _, fun _ _ => rfl⟩)⟩, by simp [intOf]; omega⟩
      · go_simp
        obtain ⟨b7, hb7⟩ : ∃ b7, wl.heap.size = b7 := ⟨_, rfl⟩
        obtain ⟨W5, hW5⟩ : ∃ W5, (wl.alloc (.cells #[.int .i64 0, .int .i64 0, .int .i64 0, .int .u64 0] 47)).drew = W5 := ⟨_, rfl⟩
        have hx5 : Bx W5 b7 47 #[.int .i64 0, .int .i64 0, .int .i64 0, .int .u64 0] := by rw [← hW5, ← hb7]; exact Bx.new _ _ _
        have hb5 : Below W4.heap.size W4 W5 := by rw [← hW5]; exact (HBL.out.alloc HBL.out.size _).drew
        have f5 : W5.cell? ⟨P, 0, none⟩ = some (.pointer (some ⟨R, 0, none⟩)) ∧ W5.cell? ⟨g3, i * 4, none⟩ = some (.int .i64 (a : Int)) := ⟨(hcl.out W5 hb5).1, (hcl.out W5 hb5).2.1 0 (by omega)⟩
        try rw [hW5]
        try rw [hb7]
        have hlb := Lib.hid (show W4.heap.size ≤ b7 from by rw [← hb7]; exact HBL.out.size)
        clear hW5 hb7
        refine hK.out _ _ f5 (fun hHeld2 => ?_)
        clear hK K
        try simp only [List.getElem_toArray, List.getElem_cons_succ, List.getElem_cons_zero]
        try simp only [Act.put, List.setIfInBounds_toArray, List.set_cons_zero, List.set_cons_succ]
        refine wpAnyH_ready (rs := [9]) (by kernel_rfl) (by simp) ?_
        refine AllReadyH.cons rfl (fun K hK => ?_) AllReadyH.nil
        go_simp
        refine (hFi.out W5 hb5).mono ?_
        rintro e W6 ⟨rfl, hb56⟩
        have hx6 : Bx W6 b7 47 #[.int .i64 0, .int .i64 0, .int .i64 0, .int .u64 0] := hx5.below hb56 hx5.lt
        have hb6 : Below W4.heap.size W4 W6 := hb5.trans (hb56.mono hb5.size)
        obtain ⟨W7, hW7⟩ : ∃ W7, W6.setRow b7 #[.int .i64 (a : Int), .int .i64 (k : Int), .int .i64 (c : Int), .int .u64 (d : Int)] = W7 := ⟨_, rfl⟩
        have hx7 : Bx W7 b7 47 #[.int .i64 (a : Int), .int .i64 (k : Int), .int .i64 (c : Int), .int .u64 (d : Int)] := by rw [← hW7]; exact hx6.put
        have hb47 : Below W4.heap.size W4 W7 := by rw [← hW7]; exact below_put hb6 hlb.out _
        have HW7 := Lib.hid (And.intro hx6 hW7)
        have f6 : W6.cell? ⟨P, 0, none⟩ = some (.pointer (some ⟨R, 0, none⟩)) ∧ W6.cell? ⟨g3, i * 4, none⟩ = some (.int .i64 (a : Int)) := ⟨(hcl.out W6 hb6).1, (hcl.out W6 hb6).2.1 0 (by omega)⟩
        have f7 : W7.cell? ⟨P, 0, none⟩ = some (.pointer (some ⟨R, 0, none⟩)) ∧ W7.cell? ⟨g3, i * 4, none⟩ = some (.int .i64 (a : Int)) := ⟨(hcl.out W7 hb47).1, (hcl.out W7 hb47).2.1 0 (by omega)⟩
        clear hx6 hx5 hb56 hW7 hb6
        refine hK.out _ _ f6 (fun hHeld3 => ?_)
        clear hK K
        try simp only [List.getElem_toArray, List.getElem_cons_succ, List.getElem_cons_zero]
        try simp only [Act.put, List.setIfInBounds_toArray, List.set_cons_zero, List.set_cons_succ]
        refine wpAnyH_take (i := 10) (v := ?_) rfl (by kernel_rfl) (by kernel_rfl) (by kernel_rfl) (fun _ _ _ h => h) (Or.inl ⟨by kernel_rfl, ?_⟩) (by assumption) ?_
        rotate_left
        · rintro w ⟨q1, q2⟩; go_simp; (try with_reducible rfl)
        try simp only [List.getElem_toArray, List.getElem_cons_succ, List.getElem_cons_zero]
        try simp only [Act.put, List.setIfInBounds_toArray, List.set_cons_zero, List.set_cons_succ]
        refine wpAnyH_take (i := 11) (v := ?_) rfl (by kernel_rfl) (by kernel_rfl) (by kernel_rfl) (fun _ _ _ h => h) (Or.inl ⟨by kernel_rfl, ?_⟩) (by assumption) ?_
        rotate_left
        · rintro w ⟨q1, q2⟩; go_simp; (try with_reducible rfl)
        try simp only [List.getElem_toArray, List.getElem_cons_succ, List.getElem_cons_zero]
        try simp only [Act.put, List.setIfInBounds_toArray, List.set_cons_zero, List.set_cons_succ]
        refine wpAnyH_take (i := 12) (v := ?_) rfl (by kernel_rfl) (by kernel_rfl) (by kernel_rfl) (fun _ _ _ h => h) (Or.inl ⟨by kernel_rfl, ?_⟩) (by assumption) ?_
        rotate_left
        · rintro w ⟨q1, q2⟩; go_simp; (try with_reducible rfl)
        try simp only [List.getElem_toArray, List.getElem_cons_succ, List.getElem_cons_zero]
        try simp only [Act.put, List.setIfInBounds_toArray, List.set_cons_zero, List.set_cons_succ]
        refine wpAnyH_ready (rs := [14]) (by kernel_rfl) (by simp) ?_
        refine AllReadyH.cons rfl (fun K hK => ?_) AllReadyH.nil
        refine step_store_bx HW7 rfl 47 (.tmp 7) (.tmp 70) rfl rfl rfl (by kernel_rfl) rfl (rnA_one ⟨a, k, c, d, false⟩) ?_
        refine hK.out _ _ f7 (fun hHeld4 => ?_)
        clear hK K
        try simp only [List.getElem_toArray, List.getElem_cons_succ, List.getElem_cons_zero]
        try simp only [Act.put, List.setIfInBounds_toArray, List.set_cons_zero, List.set_cons_succ]
        refine wpAnyH_take (i := 15) (v := ?_) rfl (by kernel_rfl) (by kernel_rfl) (by kernel_rfl) (fun _ _ _ h => h) (Or.inl ⟨by kernel_rfl, ?_⟩) (by assumption) ?_
        rotate_left
        · rintro w ⟨q1, q2⟩; go_simp; (try with_reducible rfl)
        try simp only [List.getElem_toArray, List.getElem_cons_succ, List.getElem_cons_zero]
        try simp only [Act.put, List.setIfInBounds_toArray, List.set_cons_zero, List.set_cons_succ]
        refine wpAnyH_done (by kernel_rfl) ?_ _
        clear hHeld hHeld2 hHeld3 hHeld4 f5 f6 f7 f8 HW7 hFi
        obtain ⟨-, k3, k5, k44⟩ := hcl.out W7 hb47
        have HN := Lib.hid hb47
        clear hb47 hb5 hcl HBL
        have y0 : W7.cell? ⟨b7, 0, none⟩ = some (.int .i64 (a : Int)) := hx7.cell 0
        have y1 : W7.cell? ⟨b7, 1, none⟩ = some (.int .i64 (k : Int)) := hx7.cell 1
        have y2 : W7.cell? ⟨b7, 2, none⟩ = some (.int .i64 (c : Int)) := hx7.cell 2
        have y3 : W7.cell? ⟨b7, 3, none⟩ = some (.int .u64 (d : Int)) := hx7.cell 3
        have u0 : W7.cell? ⟨g3, i * 4, none⟩ = some (.int .i64 (a : Int)) := k3 0 (by omega)
        have u1 : W7.cell? ⟨g3, i * 4 + 1, none⟩ = some (.int .i64 (k : Int)) := k3 1 (by omega)
        have u2 : W7.cell? ⟨g3, i * 4 + 2, none⟩ = some (.int .i64 (c : Int)) := k3 2 (by omega)
        have u3 : W7.cell? ⟨g3, i * 4 + 3, none⟩ = some (.int .u64 (d : Int)) := k3 3 (by omega)
        have x0 : W7.cell? ⟨g5, i * 4, none⟩ = some (.int .i64 (a : Int)) := k5 0 (by omega)
        have x1 : W7.cell? ⟨g5, i * 4 + 1, none⟩ = some (.int .i64 (k : Int)) := k5 1 (by omega)
        have x2 : W7.cell? ⟨g5, i * 4 + 2, none⟩ = some (.int .i64 (c : Int)) := k5 2 (by omega)
        have x3 : W7.cell? ⟨g5, i * 4 + 3, none⟩ = some (.int .u64 (d : Int)) := k5 3 (by omega)
        clear hx7 k3 k5
        by_cases hi2 : i < 2
        · obtain ⟨g4, hA4, k4⟩ := k44 hi2
          subst hA4
          have hi2d : decide (i < 2) = true := decide_eq_true hi2
          have hi2e : decide ((i : Int) < 2) = true := decide_eq_true (by omega)
          have hi2K : (i : Int) < (K : Int) := by omega
          have z0 : W7.cell? ⟨g4, i * 4, none⟩ = some (.int .i64 (a : Int)) := k4 0 (by omega)
          have z1 : W7.cell? ⟨g4, i * 4 + 1, none⟩ = some (.int .i64 (k : Int)) := k4 1 (by omega)
          have z2 : W7.cell? ⟨g4, i * 4 + 2, none⟩ = some (.int .i64 (c : Int)) := k4 2 (by omega)
          have z3 : W7.cell? ⟨g4, i * 4 + 3, none⟩ = some (.int .u64 (d : Int)) := k4 3 (by omega)
          clear k4 k44
          go_wp2_with fail
          go_quiet (fail)
          go_wp2_with fail
          exact ⟨⟨i + 1, by go_num, by omega, Lib.hid (HN.out.trans ⟨rfl, rfl, rfl, Nat.le_refl _, fun _ _ => rfl⟩)⟩, by simp [intOf]; omega⟩
        · have hi2d : decide (i < 2) = false := decide_eq_false hi2
          have hi2e : decide ((i : Int) < 2) = false := decide_eq_false (by omega)
          clear k44
          go_wp2_with fail
          go_quiet (fail)
          go_wp2_with fail
          exact ⟨⟨i + 1, by go_num, by omega, Lib.hid (HN.out.trans ⟨rfl, rfl, rfl, Nat.le_refl _, fun _ _ => rfl⟩)⟩, by simp [intOf]; omega⟩
    · obtain rfl : i = M := by omega
      have hlti : ¬ (i : Int) < (i : Int) := by omega
      have h0 := H
      clear HFi H hlt
      go_wp2_with fail
      go_loopw [9] (fun t9 wl => ∃ z : Int, t9 = .int .i64 z ∧ (-1 ≤ z ∧ z ≤ 4) ∧ Hid (Below W4.heap.size W4 wl)) (fun t9 _ => (4 - intOf t9).toNat)
      case atStart => exact ⟨-1, rfl, by omega, h0⟩
      case round =>
        clear h0
        rename World => wm
        obtain ⟨z, rfl, hz, H⟩ := hrel
        obtain ⟨⟨p0, p1⟩, -⟩ := HF.out wm H.out
        by_cases hz4 : z < 4
        · have hq1 := Lib.hid (HFz.out wm H.out z).1
          have hq2 := Lib.hid (fun W h => (HFz.out W h z).2)
          obtain ⟨a, b, c, d, hv⟩ := runV_agg z ps
          obtain ⟨E, hE⟩ : ∃ E, runE z ps = E := ⟨_, rfl⟩
          rw [hv, hE] at hq1 hq2
          have HB := Lib.hid H.out
          clear hv hE H
          go_wp2_with fail
          refine (hq1.out).mono ?_
          rintro e W5 ⟨rfl, hb5⟩
          obtain ⟨b10, hb10⟩ : ∃ b10, W5.heap.size = b10 := ⟨_, rfl⟩
          obtain ⟨W6, hW6⟩ : ∃ W6, W5.alloc (.cells #[.int .i64 a, .int .i64 b, .int .i64 c, .int .u64 d] 47) = W6 := ⟨_, rfl⟩
          have hb5 : Below W4.heap.size W4 W5 := HB.out.trans (hb5.mono HB.out.size)
          have hb6 : Below W4.heap.size W4 W6 := by rw [← hW6]; exact hb5.alloc hb5.size _
          have hx6 : Bx W6 b10 47 #[.int .i64 a, .int .i64 b, .int .i64 c, .int .u64 d] := by rw [← hW6, ← hb10]; exact Bx.new _ _ _
          have hq3 := Lib.hid (hq2.out W6 hb6)
          have p1' : W6.cell? ⟨P, 1, none⟩ = some (.pointer (some ⟨Q, 0, none⟩)) := (HF.out W6 hb6).1.2
          have HX := Lib.hid (And.intro hx6 hb6)
          clear hx6 hb6 hb5 HB hq1 hq2 p0 p1
          go_wp2_with fail
          try rw [hW6]
          try rw [hb10]
          refine (hq3.out).mono ?_
          rintro e W7 ⟨rfl, hb7⟩
          obtain ⟨b12, hb12⟩ : ∃ b12, W7.heap.size = b12 := ⟨_, rfl⟩
          obtain ⟨W8, hW8⟩ : ∃ W8, W7.alloc (.cells #[.int .i64 a, .int .i64 b, .int .i64 c, .int .u64 d] 47) = W8 := ⟨_, rfl⟩
          have hb68 : Below W6.heap.size W6 W8 := by rw [← hW8]; exact hb7.alloc hb7.size _
          have hx8 : Bx W8 b12 47 #[.int .i64 a, .int .i64 b, .int .i64 c, .int .u64 d] := by rw [← hW8, ← hb12]; exact Bx.new _ _ _
          have hy8 : Bx W8 b10 47 #[.int .i64 a, .int .i64 b, .int .i64 c, .int .u64 d] := HX.out.1.below hb68 HX.out.1.lt
          have HN := Lib.hid (show Below W4.heap.size W4 W8 from HX.out.2.trans (hb68.mono HX.out.2.size))
          have y0 : W8.cell? ⟨b10, 0, none⟩ = some (.int .i64 a) := hy8.cell 0
          have y1 : W8.cell? ⟨b10, 1, none⟩ = some (.int .i64 b) := hy8.cell 1
          have y2 : W8.cell? ⟨b10, 2, none⟩ = some (.int .i64 c) := hy8.cell 2
          have y3 : W8.cell? ⟨b10, 3, none⟩ = some (.int .u64 d) := hy8.cell 3
          have x0 : W8.cell? ⟨b12, 0, none⟩ = some (.int .i64 a) := hx8.cell 0
          have x1 : W8.cell? ⟨b12, 1, none⟩ = some (.int .i64 b) := hx8.cell 1
          have x2 : W8.cell? ⟨b12, 2, none⟩ = some (.int .i64 c) := hx8.cell 2
          have x3 : W8.cell? ⟨b12, 3, none⟩ = some (.int .u64 d) := hx8.cell 3
          clear hx8 hy8 hb68 hb7 HX hq3 p1'
          go_upto_region 16 with fail
          try rw [hW8]
          try rw [hb12]
          go_wp2_with fail
          exact ⟨⟨z + 1, by go_num, by omega, HN⟩, by simp [intOf]; omega⟩
        · obtain rfl : z = 4 := by omega
          have HE := Lib.hid (HF.out wm H.out).2.2.2.2
          clear H p0 p1 hz4
          go_wp2_with fail
          go_ret
          exact ⟨rfl, HE.out⟩
end Go.Proofs.YtgkamdgegfioiaaDoor
