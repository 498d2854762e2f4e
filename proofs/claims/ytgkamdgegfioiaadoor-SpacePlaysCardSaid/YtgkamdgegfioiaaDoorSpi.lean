/- The walk of slices.Insert at pieces, one piece inserted. -/
import Derived.Test.YtgkamdgegfioiaaDoorSpm
import Derived.Deep.RegionLaw
import Derived.Lib.Overlaps
import Derived.Laws.Externs
import Derived.WalkKit
import Derived.IntWalk
import Derived.Lib.Hide
namespace Go.Proofs.YtgkamdgegfioiaaDoor
open Go.RowKit
set_option linter.unusedSimpArgs false
set_option linter.unusedVariables false
section
variable {P : Program}
theorem wpList_copy_runO {ops : Array Oper} {rest : List Oper} {o : Oper} {a : Act} {w : World} {Q : Exit → Act → World → Prop} (hgd : o.guard = none) (d s : Operand) (t t' : TypeId)
    (ho : o.op = .call { callee := .builtin .copy, args := #[d, s], argTypes := #[t, t'] }) {v u : Value} (hd : a.eval d = v) (hs : a.eval s = u) {v' : Value} {w' : World}
    (hr : (Builtin.copy_ #[t, t'] o.type #[v, u]).run P w = .ok v' w') (h : wpList P ops Q rest (a.put o.dst v') w') : wpList P ops Q (o :: rest) a w :=
  wpList_plain hgd fun _ hK => by
    unfold Oper.wp execOp
    simp only [ho, resolve, invoke, builtin, Sem.run_bind, Sem.run_pure, Result.andThen_ok, List.map_toArray, List.map_cons, List.map_nil, hd, hs, hr]
    exact hK _ _ h
theorem step_copy_runO {ops : Array Oper} {o : Oper} {a : Act} {w : World} {K : Act → World → Prop} {Q : Exit → Act → World → Prop} {E : Prop}
    (hg : o.guard = none) (d x : Operand) (dT sT : TypeId) (hop : o.op = Op.call { callee := Callee.builtin Builtin.copy, args := #[d, x], argTypes := #[dT, sT] })
    {v u : Value} (hd : a.eval d = v) (hx : a.eval x = u) {v' : Value} {w' : World} (hr : (Builtin.copy_ #[dT, sT] o.type #[v, u]).run P w = .ok v' w') (hK : K (a.put o.dst v') w') :
    if Region.wanted o (yielded ops a.tmps) = true then Oper.wp P o a w K Q else E := by
  have hw : Region.wanted o (yielded ops a.tmps) = true := by simp [Region.wanted, hg]
  rw [if_pos hw]
  unfold Oper.wp
  simp [execOp, hop, resolve, invoke, builtin, hd, hx, hr, Result.andThen]
  exact hK
end
theorem run_copyS (w : World) (ty : TypeId) (g o dLen dCap : Nat) (a : Addr) (sLen sCap k : Nat) (cs L : List Value) (hL : w.heap[g]? = some (.cells L.toArray 90 (0, 0))) (hk : Nat.min sLen dLen = k) (hn : cs.length = k * 5)
    (hsrc : ∀ j v, cs[j]? = some v → w.cell? (a.add j) = some v) (hfit : o + cs.length ≤ L.length) (h1 : ∀ v ∈ cs, v.oneCell' = true) :
    (Builtin.copy_ #[86, 86] ty #[.slice (some ⟨g, o, none⟩) dLen dCap, .slice (some a) sLen sCap]).run Tryd.prog w = .ok (goInt k) (w.setRow g (spV L o cs).toArray) := by
  obtain ⟨i5, hi, hz0, hz1, hz2⟩ := info_parts infoPc
  have hl := run_loadCells_list (P := Tryd.prog) w a cs hsrc
  have hst := run_storeCells_cells (P := Tryd.prog) g o cs 0 w (fun j hj => by rw [cell_of_row _ _ _ _ _ _ hL]; simp; omega) (fun j hj => frozen_of_row _ _ _ _ _ hL) h1
  rw [Nat.add_zero, setCells_spV _ _ L w hL hfit] at hst
  subst hk
  simp [Builtin.copy_, run_underlying Tryd.underlying86, Builtin.lenOf, Builtin.firstCells, sizeOf, typeInfo, hi, hz1, ← hn, hl, hst]
theorem spV_take {L : List Value} {o : Nat} {vs : List Value} (h : o ≤ L.length) : (spV L o vs).take (o + vs.length) = L.take o ++ vs := by
  unfold spV
  exact List.take_left' (by rw [List.length_append, List.length_take]; omega)
theorem spV_two {L vs ws : List Value} {o : Nat} (h : o + vs.length + ws.length ≤ L.length) : (spV (spV L o vs) (o + vs.length) ws).take (o + vs.length + ws.length) = L.take o ++ vs ++ ws := by
  rw [spV_take (by rw [spV_len (by omega)]; omega), spV_take (by omega)]
theorem spV_two' {L vs ws : List Value} {o : Nat} (h : o + vs.length + ws.length ≤ L.length) : (spV (spV L (o + vs.length) ws) o vs).take (o + vs.length + ws.length) = L.take o ++ vs ++ ws := by
  have e : spV (spV L (o + vs.length) ws) o vs = L.take o ++ vs ++ ws ++ L.drop (o + vs.length + ws.length) := by
    unfold spV
    have h1 : (L.take (o + vs.length) ++ ws ++ L.drop (o + vs.length + ws.length)).take o = L.take o := by
      rw [List.append_assoc, List.take_append_of_le_length (by rw [List.length_take]; omega), List.take_take, Nat.min_eq_left (by omega)]
    have h2 : (L.take (o + vs.length) ++ ws ++ L.drop (o + vs.length + ws.length)).drop (o + vs.length) = ws ++ L.drop (o + vs.length + ws.length) := by
      rw [List.append_assoc]
      exact List.drop_left' (by rw [List.length_take]; omega)
    rw [h1, h2]
    simp
  rw [e]
  exact List.take_left' (by simp only [List.length_append, List.length_take]; omega)
/-- a slice from place p on, within the capacity -/
theorem ps_from (g n c p : Nat) (hp : p ≤ n) (hc : n ≤ c) (hpc : p < c) (W : World) : (Instr.sliceAt 86 (.slice (some ⟨g, 0, none⟩) n c) (some (.int .i64 (p : Int))) none none).run Tryd.prog W = .ok (.slice (some ⟨g, p * 5, none⟩) (n - p) (c - p)) W := by
  obtain ⟨i5, hi5, hz0, hz1, hz2⟩ := info_parts infoPc
  have b1 : (0 : Int) ≤ p ∧ (p : Int) ≤ (n : Int) := by omega
  have b2 : ¬ n < p := by omega
  have b3 : ¬ c = p := by omega
  have hadd : (⟨g, 0, none⟩ : Addr).add (p * 5) = ⟨g, p * 5, none⟩ := by unfold Addr.add; split <;> simp_all
  simp [Instr.sliceAt, Instr.slice, run_underlying Tryd.underlying86, Instr.sliceBounds, Instr.sliceBound, asIntOf, b1, b2, b3, sizeOf, typeInfo, hi5, hz1, hadd]
theorem ps_any (A : Option Addr) (n c p : Nat) (hp : p ≤ n) (hc : n ≤ c) : ∃ X, ∀ W : World, (Instr.sliceAt 86 (.slice A n c) (some (.int .i64 (p : Int))) none none).run Tryd.prog W = .ok X W := by
  obtain ⟨i5, hi5, hz0, hz1, hz2⟩ := info_parts infoPc
  have b1 : (0 : Int) ≤ p ∧ (p : Int) ≤ (n : Int) := by omega
  have b2 : ¬ n < p := by omega
  by_cases hcp : c = p
  · cases A with
    | none => exact ⟨.slice none (n - p) (c - p), fun W => by simp [Instr.sliceAt, Instr.slice, run_underlying Tryd.underlying86, Instr.sliceBounds, Instr.sliceBound, asIntOf, b1, b2, hcp, sizeOf, typeInfo, hi5, hz1]⟩
    | some a => exact ⟨.slice (some a) (n - p) (c - p), fun W => by simp [Instr.sliceAt, Instr.slice, run_underlying Tryd.underlying86, Instr.sliceBounds, Instr.sliceBound, asIntOf, b1, b2, hcp, sizeOf, typeInfo, hi5, hz1]⟩
  · cases A with
    | none => exact ⟨.slice none (n - p) (c - p), fun W => by simp [Instr.sliceAt, Instr.slice, run_underlying Tryd.underlying86, Instr.sliceBounds, Instr.sliceBound, asIntOf, b1, b2, hcp, sizeOf, typeInfo, hi5, hz1]⟩
    | some a => exact ⟨.slice (some (a.add (p * 5))) (n - p) (c - p), fun W => by simp [Instr.sliceAt, Instr.slice, run_underlying Tryd.underlying86, Instr.sliceBounds, Instr.sliceBound, asIntOf, b1, b2, hcp, sizeOf, typeInfo, hi5, hz1]⟩
theorem ps_upto (A : Option Addr) (n c p : Nat) (hc : p ≤ c) (W : World) : (Instr.sliceAt 86 (.slice A n c) none (some (.int .i64 (p : Int))) none).run Tryd.prog W = .ok (.slice A p c) W := by
  obtain ⟨i5, hi5, hz0, hz1, hz2⟩ := info_parts infoPc
  have b1 : (0 : Int) ≤ p ∧ (p : Int) ≤ (c : Int) := by omega
  have hadd : ∀ a : Addr, a.add 0 = a := fun a => rfl
  cases A <;> simp [Instr.sliceAt, Instr.slice, run_underlying Tryd.underlying86, Instr.sliceBounds, Instr.sliceBound, asIntOf, b1, sizeOf, typeInfo, hi5, hadd, hc]
/-- what an insertion leaves -/
def InsPost (w : World) (B : Nat) (v : Value) (qs : List Pc) (e : Ending) (w' : World) : Prop := ∃ v', e = .returned v' ∧ OwnS w' B v' qs ∧ w.grownBy w' (rowOf v) ∧ Lies w v v'
set_option maxHeartbeats 4000000 in
set_option maxRecDepth 100000 in
theorem insert_end (w : World) (B : Nat) (v : Value) (ps : List Pc) (p : Pc) (vb n : Nat) (h : OwnS w B v ps) (hB : B ≤ w.heap.size) (hn : ps.length ≤ 1073741824) (hv : w.heap[vb]? = some (.cells (pcA p) 90 (0, 0))) (hnn : ps.length = n) :
    Calls Tryd.prog 49 #[v, .int .i64 (n : Int), .slice (some ⟨vb, 0, none⟩) 1 1] w fun e w' => InsPost w B v (ps ++ [p]) e w' := by
  have hs : ∀ j u, (pcL [p])[j]? = some u → w.cell? ((⟨vb, 0, none⟩ : Addr).add j) = some u := fun j u hj => by
    rw [addr_add0, cell_of_row _ _ _ _ _ _ hv, ← hj]
    rw [pcL_one]
    simp
  obtain ⟨v', w', hr, ho, hg, hl⟩ := appendS w B v ps h hB ⟨vb, 0, none⟩ 1 p hs hn 86
  have R := Lib.hid hr
  have HP := Lib.hid (show InsPost w B v (ps ++ [p]) (.returned v') w' from ⟨v', rfl, ho, hg, hl⟩)
  obtain ⟨A, c, rfl, h1, h2, h3⟩ := h
  rw [hnn] at h1 R HP ⊢
  obtain ⟨X, hX⟩ := ps_any A n c n (Nat.le_refl _) h1
  rw [hnn] at hn
  clear hs hr ho hg hl h3 hv h1 hnn
  go_enter Tryd.func49, Tryd.ntmps49
  go_wp2_with (at_builtin; go_must (refine wpList_append_run rfl (.tmp 23) (.tmp 24) 86 86 rfl rfl rfl R.out ?_))
  go_ret
  exact HP.out
set_option maxHeartbeats 4000000 in
set_option maxRecDepth 100000 in
theorem insert_shift (w : World) (B g n c i : Nat) (ps : List Pc) (p : Pc) (vb : Nat) (h : OwnS w B (.slice (some ⟨g, 0, none⟩) n c) ps) (hnl : ps.length = n) (hn : n ≤ 1073741824) (hi : i < n) (hc : n + 1 ≤ c) (hv : w.heap[vb]? = some (.cells (pcA p) 90 (0, 0))) (hne : vb ≠ g) :
    Calls Tryd.prog 49 #[.slice (some ⟨g, 0, none⟩) n c, .int .i64 (i : Int), .slice (some ⟨vb, 0, none⟩) 1 1] w fun e w' => InsPost w B (.slice (some ⟨g, 0, none⟩) n c) (ps.take i ++ p :: ps.drop i) e w' := by
  obtain ⟨A, c2, e0, h1, h2, h3⟩ := h
  injection e0 with eA en ec
  subst eA
  subst ec
  rw [hnl] at h1
  obtain ⟨g', L, e1, hBg, hL, h5, h6⟩ : ∃ (g' : Nat) (L : List Value), (some ⟨g, 0, none⟩ : Option Addr) = some ⟨g', 0, none⟩ ∧ B ≤ g' ∧ w.heap[g']? = some (.cells L.toArray 90 (0, 0)) ∧ L.length = c * 5 ∧ L.take (ps.length * 5) = pcL ps := by
    rcases h3 with rfl | h3
    · omega
    · exact h3
  cases e1
  have hcm : c ≤ 9223372036854775807 := by unfold maxLen at h2; omega
  have hdl : (pcL (ps.drop i)).length = (n - i) * 5 := by rw [pcL_len, List.length_drop, hnl]
  have hpl : (pcL [p]).length = 5 := rfl
  obtain ⟨q, hq⟩ : ∃ q, n + 1 = q := ⟨_, rfl⟩
  obtain ⟨r, hr⟩ : ∃ r, i + 1 = r := ⟨_, rfl⟩
  have hqi : (n : Int) + 1 = (q : Int) := by omega
  have hri : (i : Int) + 1 = (r : Int) := by omega
  obtain ⟨X, hX⟩ := ps_any (some ⟨g, 0, none⟩) n c i (by omega) (by omega)
  have hu := fun W => ps_upto (some ⟨g, 0, none⟩) n c q (by omega) W
  have hf1 := fun W => ps_from g q c r (by omega) (by omega) (by omega) W
  have hf2 := fun W => ps_from g q c i (by omega) (by omega) (by omega) W
  have hz : ∀ w, (Go.sizeOf 90).run Tryd.prog w = .ok 5 w := by
    intro w
    obtain ⟨i5, hi5, hz0, hz1, hz2⟩ := info_parts infoPc
    simp [sizeOf, typeInfo, hi5, hz1]
  have hov : (callFunc 66 #[.slice (some ⟨vb, 0, none⟩) 1 1, .slice (some ⟨g, r * 5, none⟩) (q - r) (c - r)]).run Tryd.prog w = .ok (.value (.bool false)) w := by
    rw [run_callFunc_extern Tryd.func66 (by kernel_rfl) (by kernel_rfl) (by kernel_rfl) (e := Extern.SlicesOverlaps.overlaps #[86, 86] #[4]) (by kernel_rfl),
      Lib.run_overlaps_apart w 86 4 90 Tryd.underlying86 5 hz ⟨vb, 0, none⟩ ⟨g, r * 5, none⟩ 1 1 (q - r) (c - r) hne 90 90 5 (c * 5) (by unfold World.shape?; simp only [hv]; rfl) (by unfold World.shape?; simp only [hL]; simp [h5]) (by omega) (frozen_of_row _ _ _ _ _ hv) (frozen_of_row _ _ _ _ _ hv)]
    rfl
  have hc1 := run_copyS w.drew 3 g (r * 5) (q - r) (c - r) ⟨g, i * 5, none⟩ (q - i) (c - i) (n - i) (pcL (ps.drop i)) L hL (by show min _ _ = _; omega) hdl (fun j u hj => by
      have hj2 := (List.getElem?_eq_some_iff.1 hj).1
      rw [hdl] at hj2
      have hadd : (⟨g, i * 5, none⟩ : Addr).add j = ⟨g, i * 5 + j, none⟩ := by unfold Addr.add; split <;> simp_all
      rw [hadd]
      show w.cell? _ = _
      rw [cell_of_row _ _ _ _ _ _ hL, ← hj, ← pcL_drop, ← h6, List.getElem?_drop, List.getElem?_take_of_lt (by omega)]
      simp) (by rw [hdl]; omega) (pcL_cell _)
  have hL1 : (w.drew.setRow g (spV L (r * 5) (pcL (ps.drop i))).toArray).heap[g]? = some (.cells (spV L (r * 5) (pcL (ps.drop i))).toArray 90 (0, 0)) := setRow_heap _ _ _ _ _ _ (show w.drew.heap[g]? = _ from hL)
  have hc2 := run_copyS (w.drew.setRow g (spV L (r * 5) (pcL (ps.drop i))).toArray) 3 g (i * 5) (q - i) (c - i) ⟨vb, 0, none⟩ 1 1 1 (pcL [p]) _ hL1 (by show min _ _ = _; omega) rfl (fun j u hj => by
      rw [addr_add0, cell_of_row _ _ _ _ _ _ ((setRow_other _ _ _ _ hne).trans (show w.drew.heap[vb]? = _ from hv)), ← hj, pcL_one]
      simp) (by rw [spV_len (by rw [hdl]; omega)]; omega) (pcL_cell _)
  rw [setRow_twice _ _ _ _ _ _ _ (show w.drew.heap[g]? = _ from hL)] at hc2
  have HP := Lib.hid (show InsPost w B (.slice (some ⟨g, 0, none⟩) n c) (ps.take i ++ p :: ps.drop i) (.returned (.slice (some ⟨g, 0, none⟩) q c)) (w.drew.setRow g (spV (spV L (r * 5) (pcL (ps.drop i))) (i * 5) (pcL [p])).toArray) from by
    have hc0 : c ≠ 0 := by omega
    refine ⟨_, rfl, ⟨_, c, by simp only [List.length_append, List.length_take, List.length_cons, List.length_drop]; congr 1; omega, by simp only [List.length_append, List.length_take, List.length_cons, List.length_drop]; omega, h2, .inr ⟨g, _, rfl, hBg, setRow_heap _ _ _ _ _ _ (show w.drew.heap[g]? = _ from hL), ?_, ?_⟩⟩, ?_, .inl rfl⟩
    · rw [spV_len (by rw [spV_len (by rw [hdl]; omega)]; omega), spV_len (by rw [hdl]; omega)]
      exact h5
    · have e2 := spV_two' (L := L) (vs := pcL [p]) (ws := pcL (ps.drop i)) (o := i * 5) (by rw [hdl, hpl]; omega)
      rw [hpl, hdl, show i * 5 + 5 = r * 5 by omega, show r * 5 + (n - i) * 5 = (ps.take i ++ p :: ps.drop i).length * 5 by simp only [List.length_append, List.length_take, List.length_cons, List.length_drop]; omega] at e2
      rw [e2]
      have e3 : L.take (i * 5) = pcL (ps.take i) := by
        rw [← pcL_take, ← h6, List.take_take, Nat.min_eq_left (by omega)]
      rw [e3, ← pcL_append, ← pcL_append]
      simp
    · simp only [rowOf, hc0, if_false]
      exact ⟨rfl, rfl, rfl, by simp, fun k hk hne => (setRow_other _ _ _ _ (fun e => hne (by rw [e])))⟩)
  have R1 := Lib.hid hc1
  have R2 := Lib.hid hc2
  have hci : ¬ (c : Int) < (q : Int) := by omega
  have hin : ¬ ((i : Int) = (n : Int)) := by omega
  have hq0 : q ≤ 1073741825 := by omega
  have hwr : IntKind.i64.wrap (r : Int) = (r : Int) := by rw [IntKind.wrap_i64]; omega
  have hb1 : (r : Int) ≤ (q : Int) := by omega
  have hb2 : (i : Int) ≤ (q : Int) := by omega
  have hcr : ¬ (c = r) := by omega
  have hcj : ¬ (c = i) := by omega
  have hr0 : r ≤ 1073741825 := by omega
  clear hc1 hc2 hL1 h3 h6 h5 hL hv hdl hpl hq hr hz h1 hBg hc hi en hnl
  go_enter Tryd.func49, Tryd.ntmps49
  go_wp2_with (simp only [hov])
  have r1 := R1.out
  go_region
  clear r1
  have r2 := R2.out
  all_goals
    go_wp2_with fail
    go_ret
    exact HP.out
set_option maxHeartbeats 4000000 in
set_option maxRecDepth 100000 in
theorem insert_grow (w : World) (B g n c i : Nat) (ps : List Pc) (p : Pc) (vb : Nat) (h : OwnS w B (.slice (some ⟨g, 0, none⟩) n c) ps) (hB : B ≤ w.heap.size) (hnl : ps.length = n) (hn : n ≤ 1073741824) (hi : i < n) (hc : c < n + 1) (hv : w.heap[vb]? = some (.cells (pcA p) 90 (0, 0))) :
    Calls Tryd.prog 49 #[.slice (some ⟨g, 0, none⟩) n c, .int .i64 (i : Int), .slice (some ⟨vb, 0, none⟩) 1 1] w fun e w' => InsPost w B (.slice (some ⟨g, 0, none⟩) n c) (ps.take i ++ p :: ps.drop i) e w' := by
  obtain ⟨i5, hi5, hz0, hz1, hz2⟩ := info_parts infoPc
  obtain ⟨A, c2, e0, h1, h2, h3⟩ := h
  injection e0 with eA en ec
  subst eA
  subst ec
  rw [hnl] at h1
  obtain ⟨g', L, e1, hBg, hL, h5, h6⟩ : ∃ (g' : Nat) (L : List Value), (some ⟨g, 0, none⟩ : Option Addr) = some ⟨g', 0, none⟩ ∧ B ≤ g' ∧ w.heap[g']? = some (.cells L.toArray 90 (0, 0)) ∧ L.length = c * 5 ∧ L.take (ps.length * 5) = pcL ps := by
    rcases h3 with rfl | h3
    · omega
    · exact h3
  cases e1
  have hgw := (Array.getElem?_eq_some_iff.1 hL).1
  have hvw := (Array.getElem?_eq_some_iff.1 hv).1
  have hdl : (pcL (ps.drop i)).length = (n - i) * 5 := by rw [pcL_len, List.length_drop, hnl]
  have hpl : (pcL [p]).length = 5 := rfl
  obtain ⟨q, hq⟩ : ∃ q, n + 1 = q := ⟨_, rfl⟩
  obtain ⟨r, hr⟩ : ∃ r, i + 1 = r := ⟨_, rfl⟩
  obtain ⟨k, hk⟩ : ∃ k, n + 1 - i = k := ⟨_, rfl⟩
  have hqi : (n : Int) + 1 = (q : Int) := by omega
  have hri : (i : Int) + 1 = (r : Int) := by omega
  have hki : (q : Int) - (i : Int) = (k : Int) := by omega
  have hu := fun W => ps_upto (some ⟨g, 0, none⟩) n c i (by omega) W
  have hcg : ∀ j u, (pcL ps)[j]? = some u → w.cell? ⟨g, j, none⟩ = some u := fun j u hj => by
    have hj2 := (List.getElem?_eq_some_iff.1 hj).1
    rw [pcL_len] at hj2
    rw [cell_of_row _ _ _ _ _ _ hL, ← hj, ← h6, List.getElem?_take_of_lt (by omega)]
    simp
  have hold : (Builtin.firstCells i5.size i (.slice (some ⟨g, 0, none⟩) i c)).run Tryd.prog w.drew = .ok (pcL (ps.take i)).toArray w.drew := by
    rw [hz1]
    refine run_firstCells_some w.drew 5 _ ⟨g, 0, none⟩ _ _ _ (by rw [pcL_len, List.length_take]; omega) (fun j u hj => ?_)
    rw [addr_add0]
    refine hcg j u ?_
    have hj2 := (List.getElem?_eq_some_iff.1 hj).1
    rw [← pcL_take] at hj hj2
    rw [List.length_take] at hj2
    rwa [List.getElem?_take_of_lt (by omega)] at hj
  have hrun := Lib.run_append_grow_zeros (P := Tryd.prog) w 86 3 86 90 i5 _ .i64 .i64 Tryd.underlying86 Tryd.underlying3 hi5 hz0 (some ⟨g, 0, none⟩) i c (pcL (ps.take i)) hold k (by omega) (by omega) (by omega) (by omega) (by rw [hz2]; omega) (by rw [hz2]; exact growslice_fits (by omega) (by omega))
  have hge := grownCap_ge w (i + k) c 90
  have hcm : grownCap w (i + k) c 90 ≤ maxLen := grownCap_le_maxLen w _ _ _ (by unfold maxLen; omega)
  generalize grownCap w (i + k) c 90 = G at *
  rw [show i + k = q by omega] at hrun hge
  have hz := zero_cells (G - q)
  have hzk := zero_cells k
  obtain ⟨L0, hL0⟩ : ∃ L0, pcL (ps.take i) ++ pcL (List.replicate k ⟨0, 0, 0, 0, false⟩) ++ pcL (List.replicate (G - q) ⟨0, 0, 0, 0, false⟩) = L0 := ⟨_, rfl⟩
  have hL0l : L0.length = G * 5 := by
    rw [← hL0]
    simp only [List.length_append, pcL_len, List.length_replicate, List.length_take]
    omega
  have e9 : (pcL (ps.take i)).toArray ++ Builtin.zeroCells (Value.agg #[.int .i64 0, .int .i64 0, .int .i64 0, .int .u64 0, .bool false]).cells k ++ Builtin.zeroCells (Value.agg #[.int .i64 0, .int .i64 0, .int .i64 0, .int .u64 0, .bool false]).cells (G - q) = L0.toArray := by
    apply Array.ext'
    simp only [Array.toList_append, hz, hzk, List.toList_toArray]
    exact hL0
  rw [e9] at hrun
  obtain ⟨W1, hW1⟩ : ∃ W1, w.drew.alloc (.cells L0.toArray 90) = W1 := ⟨_, rfl⟩
  rw [hW1] at hrun
  obtain ⟨H, hH⟩ : ∃ H, w.heap.size = H := ⟨_, rfl⟩
  rw [hH] at hrun
  have hWH : W1.heap[H]? = some (.cells L0.toArray 90 (0, 0)) := by rw [← hW1, ← hH]; exact heap_alloc_new w.drew _
  have hWo : ∀ j, j < H → W1.heap[j]? = w.heap[j]? := fun j hj => by rw [← hW1]; exact Below.heap_alloc w.drew _ _ (by show j < w.heap.size; omega)
  have hf1 := fun W => ps_from H q G r (by omega) (by omega) (by omega) W
  have hf2 := fun W => ps_from H q G i (by omega) (by omega) (by omega) W
  have hf3 := fun W => ps_from g n c i (by omega) (by omega) (by omega) W
  have hc1 := run_copyS W1 3 H (i * 5) (q - i) (G - i) ⟨vb, 0, none⟩ 1 1 1 (pcL [p]) L0 hWH (by show min _ _ = _; omega) rfl (fun j u hj => by
      rw [addr_add0, cell_of_row _ _ _ _ _ _ ((hWo vb (by omega)).trans hv), ← hj, pcL_one]
      simp) (by rw [hpl]; omega) (pcL_cell _)
  have hW2H : (W1.setRow H (spV L0 (i * 5) (pcL [p])).toArray).heap[H]? = some (.cells (spV L0 (i * 5) (pcL [p])).toArray 90 (0, 0)) := setRow_heap _ _ _ _ _ _ hWH
  have hW2o : ∀ j, j < H → (W1.setRow H (spV L0 (i * 5) (pcL [p])).toArray).heap[j]? = w.heap[j]? := fun j hj => (setRow_other _ _ _ _ (by omega)).trans (hWo j hj)
  have hsz2 : w.heap.size ≤ (W1.setRow H (spV L0 (i * 5) (pcL [p])).toArray).heap.size := by rw [← hW1]; simp
  have hos : (W1.setRow H (spV L0 (i * 5) (pcL [p])).toArray).os = w.os ∧ (W1.setRow H (spV L0 (i * 5) (pcL [p])).toArray).tape = w.tape ∧ (W1.setRow H (spV L0 (i * 5) (pcL [p])).toArray).output = w.output := by rw [← hW1]; exact ⟨rfl, rfl, rfl⟩
  generalize W1.setRow H (spV L0 (i * 5) (pcL [p])).toArray = W2 at *
  have hc2 := run_copyS W2.drew 3 H (r * 5) (q - r) (G - r) ⟨g, i * 5, none⟩ (n - i) (c - i) (n - i) (pcL (ps.drop i)) _ hW2H (by show min _ _ = _; omega) hdl (fun j u hj => by
      have hj2 := (List.getElem?_eq_some_iff.1 hj).1
      rw [hdl] at hj2
      have hadd : (⟨g, i * 5, none⟩ : Addr).add j = ⟨g, i * 5 + j, none⟩ := by unfold Addr.add; split <;> simp_all
      rw [hadd]
      show W2.cell? _ = _
      have : W2.cell? ⟨g, i * 5 + j, none⟩ = w.cell? ⟨g, i * 5 + j, none⟩ := World.cell?_of_block (hW2o g (by omega))
      rw [this]
      refine hcg _ u ?_
      rw [← hj, ← pcL_drop, List.getElem?_drop]) (by rw [hdl, spV_len (by rw [hpl]; omega)]; omega) (pcL_cell _)
  have HP := Lib.hid (show InsPost w B (.slice (some ⟨g, 0, none⟩) n c) (ps.take i ++ p :: ps.drop i) (.returned (.slice (some ⟨H, 0, none⟩) q G)) (W2.drew.setRow H (spV (spV L0 (i * 5) (pcL [p])) (r * 5) (pcL (ps.drop i))).toArray) from by
    have hG0 : G ≠ 0 := by omega
    refine ⟨_, rfl, ⟨_, G, by simp only [List.length_append, List.length_take, List.length_cons, List.length_drop]; congr 1; omega, by simp only [List.length_append, List.length_take, List.length_cons, List.length_drop]; omega, hcm, .inr ⟨H, _, rfl, by omega, setRow_heap _ _ _ _ _ _ hW2H, ?_, ?_⟩⟩, ⟨hos.1, hos.2.1, hos.2.2, by show w.heap.size ≤ (W2.setRow _ _).heap.size; simpa using hsz2, fun j hj _ => ?_⟩, .inr ⟨H, by simp [rowOf, hG0], by omega⟩⟩
    · rw [spV_len (by rw [spV_len (by rw [hpl]; omega), hdl]; omega), spV_len (by rw [hpl]; omega)]
      exact hL0l
    · have e2 := spV_two (L := L0) (vs := pcL [p]) (ws := pcL (ps.drop i)) (o := i * 5) (by rw [hdl, hpl]; omega)
      rw [hpl, hdl, show i * 5 + 5 = r * 5 by omega, show r * 5 + (n - i) * 5 = (ps.take i ++ p :: ps.drop i).length * 5 by simp only [List.length_append, List.length_take, List.length_cons, List.length_drop]; omega] at e2
      rw [e2]
      have e3 : L0.take (i * 5) = pcL (ps.take i) := by
        rw [← hL0, List.append_assoc]
        exact List.take_left' (by rw [pcL_len, List.length_take]; omega)
      rw [e3, ← pcL_append, ← pcL_append]
      simp
    · exact (setRow_other _ _ _ _ (by omega)).trans (hW2o j (by omega)))
  have R0 := Lib.hid hrun
  have R1 := Lib.hid hc1
  have R2 := Lib.hid hc2
  have hci : (c : Int) < (q : Int) := by omega
  have hin : ¬ ((i : Int) = (n : Int)) := by omega
  have hq0 : q ≤ 1073741825 := by omega
  have hr0 : r ≤ 1073741825 := by omega
  have hwr : IntKind.i64.wrap (r : Int) = (r : Int) := by rw [IntKind.wrap_i64]; omega
  have hb1 : (r : Int) ≤ (q : Int) := by omega
  have hb2 : (i : Int) ≤ (n : Int) := by omega
  have hGr : ¬ (G = r) := by omega
  have hcj : ¬ (c = i) := by omega
  have hGb : (q : Int) ≤ (G : Int) := by omega
  clear hrun hc1 hc2 hWH hW2H hWo hW2o hsz2 hos hL0 hL0l e9 hz hzk hge hcm hold hcg h3 h6 h5 hL hv hdl hpl hq hr hk h1 hBg hc hi en hnl hW1 hH hgw hvw
  go_enter Tryd.func49, Tryd.ntmps49
  go_wp2_with (at_builtin; go_must (refine wpList_append_run rfl (.tmp 34) (.tmp 39) 86 3 rfl rfl rfl R0.out ?_))
  rw [R1.out]
  go_wp2_with fail
  have r2 := R2.out
  go_region
  all_goals
    go_wp2_with fail
    go_ret
    exact HP.out
theorem insert_calls (w : World) (B : Nat) (v : Value) (ps : List Pc) (i : Nat) (p : Pc) (vb : Nat) (h : OwnS w B v ps) (hB : B ≤ w.heap.size) (hn : ps.length ≤ 1073741824) (hi : i ≤ ps.length) (hv : w.heap[vb]? = some (.cells (pcA p) 90 (0, 0))) (hne : rowOf v ≠ some vb) :
    Calls Tryd.prog 49 #[v, .int .i64 (i : Int), .slice (some ⟨vb, 0, none⟩) 1 1] w fun e w' => InsPost w B v (ps.take i ++ p :: ps.drop i) e w' := by
  rcases Nat.lt_or_ge i ps.length with hlt | hge
  · have h0 := h
    obtain ⟨A, c, rfl, h1, h2, h3⟩ := h0
    obtain ⟨g, L, rfl, hBg, hL, _⟩ : ∃ (g' : Nat) (L : List Value), A = some ⟨g', 0, none⟩ ∧ B ≤ g' ∧ w.heap[g']? = some (.cells L.toArray 90 (0, 0)) ∧ L.length = c * 5 ∧ L.take (ps.length * 5) = pcL ps := by
      rcases h3 with rfl | h3
      · omega
      · exact h3
    rcases Nat.lt_or_ge c (ps.length + 1) with hc | hc
    · exact insert_grow w B g _ c i ps p vb h hB rfl hn hlt hc hv
    · refine insert_shift w B g _ c i ps p vb h rfl hn hlt hc hv (fun e => hne ?_)
      have hc0 : c ≠ 0 := by omega
      simp [rowOf, hc0, e]
  · obtain rfl : i = ps.length := by omega
    have e : ps.take ps.length ++ p :: ps.drop ps.length = ps ++ [p] := by simp
    rw [e]
    exact insert_end w B v ps p vb _ h hB hn hv rfl
end Go.Proofs.YtgkamdgegfioiaaDoor
