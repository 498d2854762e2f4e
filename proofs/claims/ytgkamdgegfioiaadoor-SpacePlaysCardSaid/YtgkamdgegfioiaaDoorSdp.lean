/- The walks of slices.Delete at pieces (one piece deleted), and what clear and append do there. -/
import Derived.Test.YtgkamdgegfioiaaDoorSpi
namespace Go.Proofs.YtgkamdgegfioiaaDoor
open Go.RowKit
set_option linter.unusedSimpArgs false
set_option linter.unusedVariables false
def z5 : Pc := ⟨0, 0, 0, 0, false⟩
theorem ps_mid (g n c lo hi : Nat) (h1 : lo ≤ hi) (h2 : hi ≤ c) (h3 : lo < c) (W : World) : (Instr.sliceAt 86 (.slice (some ⟨g, 0, none⟩) n c) (some (.int .i64 (lo : Int))) (some (.int .i64 (hi : Int))) none).run Tryd.prog W = .ok (.slice (some ⟨g, lo * 5, none⟩) (hi - lo) (c - lo)) W := by
  obtain ⟨i5, hi5, hz0, hz1, hz2⟩ := info_parts infoPc
  have b1 : (0 : Int) ≤ lo ∧ (lo : Int) ≤ (hi : Int) := by omega
  have b2 : (0 : Int) ≤ hi ∧ (hi : Int) ≤ (c : Int) := by omega
  have b3 : ¬ c = lo := by omega
  have hadd : (⟨g, 0, none⟩ : Addr).add (lo * 5) = ⟨g, lo * 5, none⟩ := by unfold Addr.add; split <;> simp_all
  simp [Instr.sliceAt, Instr.slice, run_underlying Tryd.underlying86, Instr.sliceBounds, Instr.sliceBound, asIntOf, b1, b2, b3, h1, h2, sizeOf, typeInfo, hi5, hz1, hadd]
theorem ps_mid_any (A : Option Addr) (n c lo hi : Nat) (h1 : lo ≤ hi) (h2 : hi ≤ c) : ∃ X, ∀ W : World, (Instr.sliceAt 86 (.slice A n c) (some (.int .i64 (lo : Int))) (some (.int .i64 (hi : Int))) none).run Tryd.prog W = .ok (.slice X (hi - lo) (c - lo)) W := by
  obtain ⟨i5, hi5, hz0, hz1, hz2⟩ := info_parts infoPc
  have b1 : (0 : Int) ≤ lo ∧ (lo : Int) ≤ (hi : Int) := by omega
  have b2 : (0 : Int) ≤ hi ∧ (hi : Int) ≤ (c : Int) := by omega
  refine ⟨if c = lo then A else A.map (·.add (lo * 5)), fun W => ?_⟩
  simp [Instr.sliceAt, Instr.slice, run_underlying Tryd.underlying86, Instr.sliceBounds, Instr.sliceBound, asIntOf, b1, b2, h1, h2, sizeOf, typeInfo, hi5, hz1]
theorem ps_three (A : Option Addr) (n c lo hi mx : Nat) (h1 : lo ≤ hi) (h2 : hi ≤ mx) (h3 : mx ≤ c) : ∃ X, ∀ W : World, (Instr.sliceAt 86 (.slice A n c) (some (.int .i64 (lo : Int))) (some (.int .i64 (hi : Int))) (some (.int .i64 (mx : Int)))).run Tryd.prog W = .ok X W := by
  obtain ⟨i5, hi5, hz0, hz1, hz2⟩ := info_parts infoPc
  have b1 : (0 : Int) ≤ lo ∧ (lo : Int) ≤ (hi : Int) := by omega
  have b2 : (0 : Int) ≤ hi ∧ (hi : Int) ≤ (mx : Int) := by omega
  have b3 : (0 : Int) ≤ mx ∧ (mx : Int) ≤ (c : Int) := by omega
  refine ⟨.slice (if mx = lo then A else A.map (·.add (lo * 5))) (hi - lo) (mx - lo), fun W => ?_⟩
  simp [Instr.sliceAt, Instr.slice, run_underlying Tryd.underlying86, Instr.sliceBounds, Instr.sliceBound, asIntOf, b1, b2, b3, h1, h2, h3, sizeOf, typeInfo, hi5, hz1]
/-- from place p on, wherever the slice lies -/
theorem ps_tail (A : Option Addr) (n c p : Nat) (hp : p ≤ n) (hc : n ≤ c) : ∃ X, ∀ W : World, (Instr.sliceAt 86 (.slice A n c) (some (.int .i64 (p : Int))) none none).run Tryd.prog W = .ok (.slice X (n - p) (c - p)) W := by
  obtain ⟨i5, hi5, hz0, hz1, hz2⟩ := info_parts infoPc
  have b1 : (0 : Int) ≤ p ∧ (p : Int) ≤ (n : Int) := by omega
  have b2 : ¬ n < p := by omega
  refine ⟨if c = p then A else A.map (·.add (p * 5)), fun W => ?_⟩
  simp [Instr.sliceAt, Instr.slice, run_underlying Tryd.underlying86, Instr.sliceBounds, Instr.sliceBound, asIntOf, b1, b2, sizeOf, typeInfo, hi5, hz1]
theorem run_clear0 (w : World) (ty : TypeId) (A : Option Addr) (c : Nat) : (Builtin.clear_ #[86] ty #[.slice A 0 c]).run Tryd.prog w = .ok (.tuple #[]) w := by
  cases A <;> simp [Builtin.clear_, run_underlying Tryd.underlying86]
theorem run_clearS (w : World) (ty : TypeId) (g o k c : Nat) (L : List Value) (hL : w.heap[g]? = some (.cells L.toArray 90 (0, 0))) (hk : 0 < k) (hfit : o + k * 5 ≤ L.length) :
    (Builtin.clear_ #[86] ty #[.slice (some ⟨g, o, none⟩) k c]).run Tryd.prog w = .ok (.tuple #[]) (w.setRow g (spV L o (pcL (List.replicate k z5))).toArray) := by
  obtain ⟨i5, hi5, hz0, hz1, hz2⟩ := info_parts infoPc
  obtain ⟨j, rfl⟩ : ∃ j, k = j + 1 := ⟨k - 1, by omega⟩
  have hz := zero_cells (j + 1)
  have hlen : (pcL (List.replicate (j + 1) z5)).length = (j + 1) * 5 := by rw [pcL_len, List.length_replicate]
  have hst := run_storeCells_cells (P := Tryd.prog) g o (pcL (List.replicate (j + 1) z5)) 0 w (fun i hi => by rw [cell_of_row _ _ _ _ _ _ hL]; simp; omega) (fun i hi => frozen_of_row _ _ _ _ _ hL) (pcL_cell _)
  rw [Nat.add_zero, setCells_spV _ _ L w hL (by rw [hlen]; omega)] at hst
  simp [Builtin.clear_, run_underlying Tryd.underlying86, zeroValue, typeInfo, hi5, hz0]
  rw [show (Builtin.zeroCells (Value.agg #[.int .i64 0, .int .i64 0, .int .i64 0, .int .u64 0, .bool false]).cells (j + 1)).toList = pcL (List.replicate (j + 1) z5) from hz, hst]
  rfl
/-- the tail moves one piece down -/
theorem append_del (w : World) (g n c i : Nat) (ps : List Pc) (L : List Value) (X : Option Addr) (hL : w.heap[g]? = some (.cells L.toArray 90 (0, 0))) (h5 : L.length = c * 5) (h6 : L.take (ps.length * 5) = pcL ps) (hn : ps.length = n) (hi : i < n) (hc : n ≤ c)
    (hX : i + 1 < n → X = some ⟨g, (i + 1) * 5, none⟩) (c' : Nat) (ty : TypeId) :
    ∃ L' : List Value, (Builtin.append_ #[86, 86] ty #[.slice (some ⟨g, 0, none⟩) i c, .slice X (n - (i + 1)) c']).run Tryd.prog w = .ok (.slice (some ⟨g, 0, none⟩) (n - 1) c) (w.setRow g L'.toArray) ∧ L'.length = c * 5 ∧ L'.take ((n - 1) * 5) = pcL (ps.eraseIdx i) := by
  obtain ⟨i5, hi5, hz0, hz1, hz2⟩ := info_parts infoPc
  have her : ps.eraseIdx i = ps.take i ++ ps.drop (i + 1) := List.eraseIdx_eq_take_drop_succ ..
  have e3 : L.take (i * 5) = pcL (ps.take i) := by
    rw [← pcL_take, ← h6, List.take_take, Nat.min_eq_left (by omega)]
  rcases Nat.lt_or_ge (i + 1) n with hlt | hge
  · rw [hX hlt]
    have hdl : (pcL (ps.drop (i + 1))).length = (n - (i + 1)) * 5 := by rw [pcL_len, List.length_drop, hn]
    have hrun := run_append_room_cells (P := Tryd.prog) w 86 ty 90 i5 Tryd.underlying86 hi5 g 0 i c ⟨g, (i + 1) * 5, none⟩ (n - (i + 1)) c' (pcL (ps.drop (i + 1))) (by rw [hz1]; exact hdl) (fun j u hj => by
        have hj2 := (List.getElem?_eq_some_iff.1 hj).1
        rw [hdl] at hj2
        have hadd : (⟨g, (i + 1) * 5, none⟩ : Addr).add j = ⟨g, (i + 1) * 5 + j, none⟩ := by unfold Addr.add; split <;> simp_all
        rw [hadd, cell_of_row _ _ _ _ _ _ hL, ← hj, ← pcL_drop, ← h6, List.getElem?_drop, List.getElem?_take_of_lt (by omega)]
        simp) (pcL_cell _) (by omega)
      (fun j hj => by
        rw [hz1, cell_of_row _ _ _ _ _ _ hL]
        rw [hdl] at hj
        simp; omega) (fun j hj => frozen_of_row _ _ _ _ _ hL)
    rw [hz1, setCells_spV _ _ L w hL (by rw [hdl]; omega), show i + (n - (i + 1)) = n - 1 by omega, Nat.zero_add] at hrun
    refine ⟨_, hrun, ?_, ?_⟩
    · rw [spV_len (by rw [hdl]; omega)]; exact h5
    · have := spV_take (L := L) (o := i * 5) (vs := pcL (ps.drop (i + 1))) (by omega)
      rw [hdl, show i * 5 + (n - (i + 1)) * 5 = (n - 1) * 5 by omega] at this
      rw [this, e3, her, pcL_append]
  · obtain rfl : n = i + 1 := by omega
    refine ⟨L, ?_, h5, ?_⟩
    · rw [setRow_self w g L.toArray _ _ hL]
      have hle : i ≤ c := by omega
      cases X <;> simp [Builtin.append_, run_underlying Tryd.underlying86, sizeOf, typeInfo, hi5, Builtin.lenOf, hle, Builtin.firstCells, storeCells, loadCells, loadCellsFrom]
    · rw [her, List.drop_of_length_le (by omega), List.append_nil]
      exact e3
section
variable {P : Program}
theorem step_append_runD {ops : Array Oper} {o : Oper} {a : Act} {K : Act → World → Prop} {Q : Exit → Act → World → Prop} {E : Prop} (hgd : o.guard = none) (s x : Operand) (t t' : TypeId)
    (ho : o.op = .call { callee := .builtin .append, args := #[s, x], argTypes := #[t, t'] }) {vs vx v : Value} {w w' : World} (hs : a.eval s = vs) (hx : a.eval x = vx)
    (hr : (Builtin.append_ #[t, t'] o.type #[vs, vx]).run P w = .ok v w') (h : K (a.put o.dst v) w') :
    if Region.wanted o (yielded ops a.tmps) = true then Oper.wp P o a w K Q else E := by
  have hw : Region.wanted o (yielded ops a.tmps) = true := by simp [Region.wanted, hgd]
  rw [if_pos hw]
  unfold Oper.wp execOp
  simp only [ho, resolve, invoke, builtin, Sem.run_bind, Sem.run_pure, Result.andThen_ok, List.map_toArray, List.map_cons, List.map_nil, hs, hx, hr]
  exact h
end
set_option maxHeartbeats 4000000 in
set_option maxRecDepth 100000 in
theorem delete_calls (w : World) (B : Nat) (v : Value) (ps : List Pc) (i : Nat) (h : OwnS w B v ps) (hi : i < ps.length) (hn : ps.length ≤ 1073741824) :
    Calls Tryd.prog 56 #[v, .int .i64 (i : Int), .int .i64 ((i : Int) + 1)] w fun e w' => InsPost w B v (ps.eraseIdx i) e w' := by
  obtain ⟨A, c, rfl, h1, h2, h3⟩ := h
  obtain ⟨g, L, rfl, hBg, hL, h5, h6⟩ : ∃ (g' : Nat) (L : List Value), A = some ⟨g', 0, none⟩ ∧ B ≤ g' ∧ w.heap[g']? = some (.cells L.toArray 90 (0, 0)) ∧ L.length = c * 5 ∧ L.take (ps.length * 5) = pcL ps := by
    rcases h3 with rfl | h3
    · omega
    · exact h3
  obtain ⟨n, hnn⟩ : ∃ n, ps.length = n := ⟨_, rfl⟩
  obtain ⟨r, hr⟩ : ∃ r, i + 1 = r := ⟨_, rfl⟩
  obtain ⟨q, hq⟩ : ∃ q, n - 1 = q := ⟨_, rfl⟩
  have hqi : (q : Int) ≤ (n : Int) := by omega
  have hri : (i : Int) + 1 = (r : Int) := by omega
  have hlen : (ps.eraseIdx i).length = q := by rw [List.length_eraseIdx]; rw [if_pos hi]; omega
  rw [hnn] at h1 hi hn ⊢
  obtain ⟨X3, hX3⟩ := ps_three (some ⟨g, 0, none⟩) n c i r n (by omega) (by omega) h1
  have hu := fun W => ps_upto (some ⟨g, 0, none⟩) n c i (by omega) W
  obtain ⟨X, hXr, hXa⟩ : ∃ X, (∀ W : World, (Instr.sliceAt 86 (.slice (some ⟨g, 0, none⟩) n c) (some (.int .i64 (r : Int))) none none).run Tryd.prog W = .ok (.slice X (n - r) (c - r)) W) ∧ (i + 1 < n → X = some ⟨g, (i + 1) * 5, none⟩) := by
    rcases Nat.lt_or_ge r c with hlt | hge
    · exact ⟨_, fun W => ps_from g n c r (by omega) h1 hlt W, fun _ => by rw [hr]⟩
    · obtain ⟨X, hX⟩ := ps_tail (some ⟨g, 0, none⟩) n c r (by omega) h1
      exact ⟨X, hX, fun h => absurd h (by omega)⟩
  obtain ⟨L', hrun, hl1, hl2⟩ := append_del w.drew g n c i ps L X hL h5 h6 hnn hi h1 hXa (c - r) 86
  rw [hr, hq] at hrun
  rw [hq] at hl2
  obtain ⟨W1, hW1⟩ : ∃ W1, w.drew.setRow g L'.toArray = W1 := ⟨_, rfl⟩
  rw [hW1] at hrun
  have hL1 : W1.heap[g]? = some (.cells L'.toArray 90 (0, 0)) := by rw [← hW1]; exact setRow_heap _ _ _ _ _ _ (show w.drew.heap[g]? = _ from hL)
  have hcl := run_clearS W1 0 g (q * 5) 1 (c - q) L' hL1 (by omega) (by omega)
  have hmid := fun W => ps_mid g q c q n (by omega) h1 (by omega) W
  rw [show n - q = 1 by omega] at hmid
  have HP := Lib.hid (show InsPost w B (.slice (some ⟨g, 0, none⟩) n c) (ps.eraseIdx i) (.returned (.slice (some ⟨g, 0, none⟩) q c)) (W1.setRow g (spV L' (q * 5) (pcL (List.replicate 1 z5))).toArray) from by
    have hc0 : c ≠ 0 := by omega
    refine ⟨_, rfl, ⟨_, c, by rw [hlen], by rw [hlen]; omega, h2, .inr ⟨g, _, rfl, hBg, setRow_heap _ _ _ _ _ _ hL1, ?_, ?_⟩⟩, ?_, .inl ?_⟩
    · rw [spV_len (by rw [pcL_len, List.length_replicate]; omega)]; exact hl1
    · rw [hlen, ← hl2]
      unfold spV
      rw [List.append_assoc, List.take_left' (by rw [List.length_take]; omega)]
    · simp only [rowOf, hc0, if_false]
      rw [← hW1]
      exact ⟨rfl, rfl, rfl, by simp, fun k hk hne => (setRow_other _ _ _ _ (fun e => hne (by rw [e]))).trans (setRow_other _ _ _ _ (fun e => hne (by rw [e])))⟩
    · simp [rowOf, hc0])
  have R0 := Lib.hid hrun
  have RC := Lib.hid hcl
  have hne : ¬ (i : Int) = (r : Int) := by omega
  have hcm : c ≤ 9223372036854775807 := by unfold maxLen at h2; omega
  clear hrun hcl hL1 hl1 hl2 hW1 h6 h5 hL hBg h3 hnn hlen hXa hr hq h2
  go_enter Tryd.func56, Tryd.ntmps56
  go_wp2_with fail
  go_region_law (refine step_append_runD rfl (.tmp 22) (.tmp 25) 86 86 rfl (by rfl) (by rfl) (by exact R0.out) ?_)
  all_goals
    go_wp2_with fail
    rw [RC.out]
    go_wp2_with fail
    go_ret
    exact HP.out
end Go.Proofs.YtgkamdgegfioiaaDoor
