/- The walks of the reference's begins, Find, Share, Drop, Turn. -/
import Derived.Test.YtgkamdgegfioiaaDoorRwm
import Derived.Deep.DeepCutAuto
import Derived.Deep.MidRow
namespace Go.Proofs.YtgkamdgegfioiaaDoor
open Go.RowKit
set_option linter.unusedSimpArgs false
set_option linter.unusedVariables false
set_option maxHeartbeats 2000000 in
set_option maxRecDepth 100000 in
theorem begins_calls (w : World) (B Q : Nat) (u : Value) (L : List Rw) (k : Int) (h : Rf w B Q u L) :
    Calls Tryd.prog 59 #[.pointer (some ⟨Q, 0, none⟩), .int .i64 k] w fun e w' => e = .returned (.bool (begR L k)) ∧ w = w' := by
  obtain ⟨A, c, rfl, hc, hcm, hat⟩ := h.own.at_
  obtain ⟨N, hN⟩ : ∃ N, L.length = N := ⟨_, rfl⟩
  have hq0 := h.cell.1
  have hl := h.len
  rw [hN] at hq0 hl
  obtain ⟨b, hb⟩ : ∃ b, begR L k = b := ⟨_, rfl⟩
  rw [hb]
  by_cases h1 : 0 ≤ k
  · by_cases h2 : k < (N : Int)
    · obtain ⟨j, rfl⟩ : ∃ j : Nat, k = (j : Int) := ⟨k.toNat, by omega⟩
      have hj : j < L.length := by omega
      obtain ⟨g, rfl, -, hc6, -⟩ := hat j hj
      have c0 : w.cell? ⟨g, j * 6, none⟩ = some (.int .i64 (L[j].run)) := hc6 0 (by omega)
      have hbb : ((L[j].run) == (j : Int)) = b := by
        rw [← hb]
        unfold begR
        rw [Int.toNat_natCast, List.getElem?_eq_getElem hj]
        by_cases e : L[j].run = (j : Int)
        · simp [e]
        · simp [e]
      obtain ⟨x, hx⟩ : ∃ x, L[j].run = x := ⟨_, rfl⟩
      rw [hx] at c0 hbb
      clear hx hat hc6 hb hN h hcm
      go_enter Tryd.func59, Tryd.ntmps59
      go_wp2_with fail
      go_ret
      first | exact ⟨rfl, rfl⟩ | exact ⟨by rw [← hbb]; rfl, rfl⟩
    · obtain rfl : b = false := by
        rw [← hb]
        unfold begR
        rw [List.getElem?_eq_none (by omega)]
      clear hat hb hN h hcm
      go_enter Tryd.func59, Tryd.ntmps59
      go_wp2_with fail
      go_ret
      exact ⟨rfl, rfl⟩
  · obtain rfl : b = false := by
      rw [← hb]
      unfold begR
      split
      · simp [h1]
      · rfl
    clear hat hb hN h hcm
    go_enter Tryd.func59, Tryd.ntmps59
    go_wp2_with fail
    go_ret
    exact ⟨rfl, rfl⟩
/-- what Find answers -/
def runV (k : Int) (ps : List Pc) : Value := match findS k ps with
  | some p => .agg (rnA p)
  | none => .agg #[.int .i64 0, .int .i64 0, .int .i64 0, .int .u64 0]
def runE (k : Int) (ps : List Pc) : Int := match findS k ps with
  | some _ => 0
  | none => 3
section
variable {P : Program}
/-- a whole box is stored -/
theorem wpList_store_box {ops : Array Oper} {rest : List Oper} {o : Oper} {a : Act} {w W' : World} {Q : Exit → Act → World → Prop} {g : Nat} {t : TypeId} {old cells : Array Value} (HW : Hid (Bx w g t old ∧ w.setRow g cells = W')) (hgd : o.guard = none) (ty : TypeId) (x y : Operand) (ho : o.op = .store ty x y)
    (hx : a.eval x = .pointer (some ⟨g, 0, none⟩)) (hy : a.eval y = .agg cells) (hi : (P.info? ty).map (·.size) = some cells.size) (hold : old.size = cells.size) (h1 : cells.all (·.oneCell') = true)
    (h : wpList P ops Q rest (a.put o.dst undef) W') : wpList P ops Q (o :: rest) a w := by
  obtain ⟨h2, h3⟩ := HW.out
  subst h3
  exact wpList_store_row hgd ty x y ho g cells hx hy t old h2 hi hold h1 h
end
theorem rnA_one (p : Pc) : (rnA p).all (·.oneCell') = true := all_oneCell_toArray (rnL_cell [p])
theorem Bx.put {w : World} {b : Nat} {t : TypeId} {C C' : Array Value} (h : Bx w b t C) : Bx (w.setRow b C') b t C' := setRow_heap _ _ _ _ _ _ h
theorem below_put {w W : World} {B b : Nat} (h : Below B w W) (hb : B ≤ b) (C : Array Value) : Below B w (W.setRow b C) :=
  ⟨h.os, h.tape, h.output, by simpa using h.size, fun k hk => (setRow_other _ _ _ _ (by omega)).trans (h.block k hk)⟩
set_option maxHeartbeats 2000000 in
set_option maxRecDepth 100000 in
theorem rFind_calls (w : World) (B Q : Nat) (u : Value) (r : Nat) (ps : List Pc) (k : Int) (h : Rf w B Q u (rows r ps)) (hw : Wf r 0 ps) :
    Calls Tryd.prog 47 #[.pointer (some ⟨Q, 0, none⟩), .int .i64 k] w fun e w' => e = .returned (.tuple #[runV k ps, .int .i64 (runE k ps)]) ∧ Below w.heap.size w w' := by
  obtain ⟨W0, hW0⟩ : ∃ W0, w.alloc (.cells #[.int .i64 0, .int .i64 0, .int .i64 0, .int .u64 0] 47) = W0 := ⟨_, rfl⟩
  have hb0 : Below w.heap.size w W0 := by rw [← hW0]; exact (Below.refl _ _).alloc (Nat.le_refl _) _
  have hx0 : Bx W0 w.heap.size 47 #[.int .i64 0, .int .i64 0, .int .i64 0, .int .u64 0] := by rw [← hW0]; exact Bx.new _ _ _
  obtain ⟨H, hH⟩ : ∃ H, w.heap.size = H := ⟨_, rfl⟩
  have hR0 := h.below hb0
  have hq := begins_calls W0 B Q u _ k hR0
  rw [beg_rows hw] at hq
  unfold runV runE
  cases hf : findS k ps with
  | none =>
    rw [hf] at hq
    have Hq := Lib.hid (show Calls Tryd.prog 59 #[.pointer (some ⟨Q, 0, none⟩), .int .i64 k] W0 fun e w' => e = .returned (.bool false) ∧ W0 = w' from hq)
    obtain ⟨W1, hW1⟩ : ∃ W1, W0.setRow H #[.int .i64 0, .int .i64 0, .int .i64 0, .int .u64 0] = W1 := ⟨_, rfl⟩
    have HW := Lib.hid (show Bx W0 H 47 #[.int .i64 0, .int .i64 0, .int .i64 0, .int .u64 0] ∧ W0.setRow H #[.int .i64 0, .int .i64 0, .int .i64 0, .int .u64 0] = W1 from ⟨by rw [← hH]; exact hx0, hW1⟩)
    have hx1 : Bx W1 H 47 #[.int .i64 0, .int .i64 0, .int .i64 0, .int .u64 0] := by rw [← hW1]; exact HW.out.1.put
    have r0 : W1.cell? ⟨H, 0, none⟩ = some (.int .i64 0) := hx1.cell 0
    have r1 : W1.cell? ⟨H, 1, none⟩ = some (.int .i64 0) := hx1.cell 1
    have r2 : W1.cell? ⟨H, 2, none⟩ = some (.int .i64 0) := hx1.cell 2
    have r3 : W1.cell? ⟨H, 3, none⟩ = some (.int .u64 0) := hx1.cell 3
    have HB := Lib.hid (show Below w.heap.size w W1 from by rw [← hW1]; exact below_put hb0 (by omega) _)
    have Hr := Lib.hid (And.intro r0 (And.intro r1 (And.intro r2 r3)))
    clear hf hq hb0 hx0 hR0 h hW1 hx1 r0 r1 r2 r3
    go_enter Tryd.func47, Tryd.ntmps47
    go_wp2_with fail
    try rw [hW0, hH]
    refine (Hq.out).mono ?_
    rintro e w' ⟨rfl, hw'⟩
    subst hw'
    go_wp2_with (refine wpList_store_box HW rfl 47 (.tmp 4) (.tmp 11) rfl rfl rfl (by kernel_rfl) rfl (rnA_one z5) ?_)
    obtain ⟨r0, r1, r2, r3⟩ := Hr.out
    refine bodyPost_ret (v := .tuple #[.agg #[.int .i64 0, .int .i64 0, .int .i64 0, .int .u64 0], .int .i64 3]) (by simp [results, Tryd.results47, go_sem, r0, r1, r2, r3]) rfl ⟨rfl, HB.out⟩
  | some p =>
    rw [hf] at hq
    have Hq := Lib.hid (show Calls Tryd.prog 59 #[.pointer (some ⟨Q, 0, none⟩), .int .i64 k] W0 fun e w' => e = .returned (.bool true) ∧ W0 = w' from hq)
    obtain ⟨hlt, ⟨hkn, rfl⟩, hfr⟩ := row_first hw hf
    obtain ⟨A, c, rfl, hc, hcm, hl, hQc, -, hat⟩ := Rf.at_ (f := rowP ps) hR0
    obtain ⟨g, rfl, hg, hc6, -⟩ := hat p.at_ hlt
    rw [hfr] at hc6
    have c0 : W0.cell? ⟨g, p.at_ * 6, none⟩ = some (.int .i64 (p.at_ : Int)) := hc6 0 (by omega)
    have c1 : W0.cell? ⟨g, p.at_ * 6 + 1, none⟩ = some (.bool false) := hc6 1 (by omega)
    have c2 : W0.cell? ⟨g, p.at_ * 6 + 2, none⟩ = some (.int .i64 (p.n : Int)) := hc6 2 (by omega)
    have c3 : W0.cell? ⟨g, p.at_ * 6 + 3, none⟩ = some (.int .i64 (p.cnt : Int)) := hc6 3 (by omega)
    have c4 : W0.cell? ⟨g, p.at_ * 6 + 4, none⟩ = some (.int .u64 (p.tag : Int)) := hc6 4 (by omega)
    have c5 : W0.cell? ⟨g, p.at_ * 6 + 5, none⟩ = some (.bool p.old) := hc6 5 (by omega)
    have hli : (p.at_ : Int) < (r : Int) := by omega
    obtain ⟨H2, hH2⟩ : ∃ H2, W0.heap.size = H2 := ⟨_, rfl⟩
    obtain ⟨V, hV⟩ : ∃ V, W0.alloc (.cells #[.int .i64 (p.at_ : Int), .bool false, .int .i64 (p.n : Int), .int .i64 (p.cnt : Int), .int .u64 (p.tag : Int), .bool p.old] 106) = V := ⟨_, rfl⟩
    have hbV : Below w.heap.size w V := by rw [← hV]; exact hb0.alloc hb0.size _
    have hxV : Bx V H 47 #[.int .i64 0, .int .i64 0, .int .i64 0, .int .u64 0] := by rw [← hV, ← hH]; exact hx0.alloc _
    have hyV : Bx V H2 106 #[.int .i64 (p.at_ : Int), .bool false, .int .i64 (p.n : Int), .int .i64 (p.cnt : Int), .int .u64 (p.tag : Int), .bool p.old] := by rw [← hV, ← hH2]; exact Bx.new _ _ _
    have y2 : V.cell? ⟨H2, 2, none⟩ = some (.int .i64 (p.n : Int)) := hyV.cell 2
    have y3 : V.cell? ⟨H2, 3, none⟩ = some (.int .i64 (p.cnt : Int)) := hyV.cell 3
    have y4 : V.cell? ⟨H2, 4, none⟩ = some (.int .u64 (p.tag : Int)) := hyV.cell 4
    obtain ⟨W1, hW1⟩ : ∃ W1, V.setRow H #[.int .i64 (p.at_ : Int), .int .i64 (p.n : Int), .int .i64 (p.cnt : Int), .int .u64 (p.tag : Int)] = W1 := ⟨_, rfl⟩
    have HW := Lib.hid (show Bx V H 47 #[.int .i64 0, .int .i64 0, .int .i64 0, .int .u64 0] ∧ V.setRow H #[.int .i64 (p.at_ : Int), .int .i64 (p.n : Int), .int .i64 (p.cnt : Int), .int .u64 (p.tag : Int)] = W1 from ⟨hxV, hW1⟩)
    have hx1 : Bx W1 H 47 #[.int .i64 (p.at_ : Int), .int .i64 (p.n : Int), .int .i64 (p.cnt : Int), .int .u64 (p.tag : Int)] := by rw [← hW1]; exact HW.out.1.put
    have r0 : W1.cell? ⟨H, 0, none⟩ = some (.int .i64 (p.at_ : Int)) := hx1.cell 0
    have r1 : W1.cell? ⟨H, 1, none⟩ = some (.int .i64 (p.n : Int)) := hx1.cell 1
    have r2 : W1.cell? ⟨H, 2, none⟩ = some (.int .i64 (p.cnt : Int)) := hx1.cell 2
    have r3 : W1.cell? ⟨H, 3, none⟩ = some (.int .u64 (p.tag : Int)) := hx1.cell 3
    have HB := Lib.hid (show Below w.heap.size w W1 from by rw [← hW1]; exact below_put hbV (by omega) _)
    have Hr := Lib.hid (And.intro r0 (And.intro r1 (And.intro r2 r3)))
    clear hf hq hb0 hx0 hR0 h hW1 hx1 r0 r1 r2 r3 hbV hxV hyV hc6 hat hfr hkn hcm hg
    go_enter Tryd.func47, Tryd.ntmps47
    go_wp2_with fail
    try rw [hW0, hH]
    refine (Hq.out).mono ?_
    rintro e w' ⟨rfl, hw'⟩
    subst hw'
    go_wp2_with (refine wpList_store_box HW rfl 47 (.tmp 4) (.tmp 26) rfl rfl rfl (by kernel_rfl) rfl (rnA_one p) ?_)
    obtain ⟨r0, r1, r2, r3⟩ := Hr.out
    refine bodyPost_ret (v := .tuple #[.agg (rnA p), .int .i64 0]) (by unfold rnA; simp [results, Tryd.results47, go_sem, r0, r1, r2, r3]) rfl ⟨rfl, HB.out⟩
end Go.Proofs.YtgkamdgegfioiaaDoor
