/- The walks of the reference's Count and Runs. -/
/- The walk of the reference's Runs. -/
/- The walk of the reference's Take. -/
/- The walk of the reference's Copy. -/
import Derived.Test.YtgkamdgegfioiaaDoorRwg
namespace Go.Proofs.YtgkamdgegfioiaaDoor
open Go.RowKit
set_option linter.unusedSimpArgs false
set_option linter.unusedVariables false
def cntA (a b c : Nat) : Array Value := #[.int .i64 (a : Int), .int .i64 (b : Int), .int .i64 (c : Int)]
theorem cntA_one (a b c : Nat) : (cntA a b c).all (·.oneCell') = true := all_oneCell_toArray (cs := [.int .i64 (a : Int), .int .i64 (b : Int), .int .i64 (c : Int)]) (fun v hv => by
  simp only [List.mem_cons, List.not_mem_nil, or_false] at hv
  rcases hv with rfl | rfl | rfl <;> rfl)
theorem uT_le {r : Nat} {ps : List Pc} (hw : Wf r 0 ps) : ∀ i, uT i ps + hT i ps ≤ i
  | 0 => by have := uT_zero ps; omega
  | i + 1 => by
    have ih := uT_le hw i
    have hs := uT_step hw i
    rw [hs.1, hs.2]
    by_cases h1 : 0 ≤ (rowP ps i).run
    · rw [if_pos h1, if_pos h1]; omega
    · rw [if_neg h1, if_neg h1]
      split <;> omega
set_option maxHeartbeats 4000000 in
set_option maxRecDepth 100000 in
theorem count_calls (w : World) (B Q : Nat) (u : Value) (r : Nat) (ps : List Pc) (h : Rf w B Q u (rows r ps)) (hw : Wf r 0 ps) :
    Calls Tryd.prog 45 #[.pointer (some ⟨Q, 0, none⟩)] w fun e w' => e = .returned (.agg #[.int .i64 (usedS ps : Int), .int .i64 (heldS ps : Int), .int .i64 ((r - usedS ps - heldS ps : Nat) : Int)]) ∧ Below w.heap.size w w' := by
  obtain ⟨b2, hb2⟩ : ∃ b2, w.heap.size = b2 := ⟨_, rfl⟩
  obtain ⟨W0, hW0⟩ : ∃ W0, w.alloc (.cells #[.int .i64 0, .int .i64 0, .int .i64 0] 36) = W0 := ⟨_, rfl⟩
  have hx0 : Bx W0 b2 36 (cntA 0 0 0) := by rw [← hW0, ← hb2]; exact Bx.new _ _ _
  have hbw0 : Below w.heap.size w W0 := by rw [← hW0]; exact (Below.refl _ _).alloc (Nat.le_refl _) _
  obtain ⟨b3, hb3⟩ : ∃ b3, W0.heap.size = b3 := ⟨_, rfl⟩
  obtain ⟨W1, hW1⟩ : ∃ W1, W0.alloc (.cells #[.int .i64 0, .int .i64 0, .int .i64 0] 36) = W1 := ⟨_, rfl⟩
  have hx2 : Bx W1 b2 36 (cntA 0 0 0) := by rw [← hW1]; exact hx0.alloc _
  have hx3 : Bx W1 b3 36 (cntA 0 0 0) := by rw [← hW1, ← hb3]; exact Bx.new _ _ _
  have hbw1 : Below w.heap.size w W1 := by rw [← hW1]; exact hbw0.alloc hbw0.size _
  have h23 : b2 < b3 := by rw [← hb3]; exact hx0.lt
  have hR : Rf W1 B Q u (rowsF (rowP ps) r) := Rf.below h hbw1
  have h' : Rf w B Q u (rowsF (rowP ps) r) := h
  obtain ⟨A, c, hu, hc, hcm, hl, -, -, -⟩ := h'.at_
  have h0 := Lib.hid (show Bx W1 b3 36 (cntA (uT 0 ps) (hT 0 ps) (0 - uT 0 ps - hT 0 ps)) ∧ Bx W1 b2 36 (cntA 0 0 0) ∧ Below w.heap.size w W1 from ⟨by rw [(uT_zero ps).1, (uT_zero ps).2]; exact hx3, hx2, hbw1⟩)
  have HA := Lib.hid (And.intro h' (And.intro hw (And.intro hu (And.intro hb2 h23))))
  have hb23 : b2 ≤ b3 := by omega
  clear h h' hx0 hx2 hx3 hbw0 hbw1 hR hw hu h23
  go_enter Tryd.func45, Tryd.ntmps45
  go_wp2_with fail
  try rw [hW0]
  try rw [hb2]
  try rw [hW1]
  try rw [hb3]
  clear hW0 hW1 hb3 hb2
  go_loopw [4] (fun t4 wr => ∃ i : Nat, t4 = .int .i64 (i : Int) ∧ i ≤ r ∧ Hid (Bx wr b3 36 (cntA (uT i ps) (hT i ps) (i - uT i ps - hT i ps)) ∧ Bx wr b2 36 (cntA 0 0 0) ∧ Below w.heap.size w wr)) (fun t4 _ => r - (intOf t4).toNat)
  case atStart => exact ⟨0, rfl, by omega, h0⟩
  case round =>
    clear h0
    rename World => wr
    obtain ⟨i, rfl, hi, H⟩ := hrel
    obtain ⟨h', hw, hu, hb2, h23⟩ := HA.out
    obtain ⟨hx3, hx2, hbw⟩ := H.out
    have hR := h'.below hbw
    obtain ⟨A2, c2, hu2, -, -, -, hQ, -, hat⟩ := hR.at_
    rw [hu] at hu2
    injection hu2 with e1 e2 e3
    rw [← e1, ← e3] at hQ
    by_cases hlt : i < r
    · have hlti : (i : Int) < (r : Int) := by omega
      obtain ⟨g, hA, hg, hc6, -⟩ := hat i hlt
      rw [← e1] at hA
      subst hA
      have hst := uT_step hw i
      have hle := uT_le hw i
      obtain ⟨x, hx⟩ : ∃ x, rowP ps i = x := ⟨_, rfl⟩
      rw [hx] at hc6 hst
      have c0 : wr.cell? ⟨g, i * 6, none⟩ = some (.int .i64 x.run) := hc6 0 (by omega)
      have c1 : wr.cell? ⟨g, i * 6 + 1, none⟩ = some (.bool x.held) := hc6 1 (by omega)
      obtain ⟨xr, hxr⟩ : ∃ xr, x.run = xr := ⟨_, rfl⟩
      obtain ⟨xh, hxh⟩ : ∃ xh, x.held = xh := ⟨_, rfl⟩
      rw [hxr] at c0 hst
      rw [hxh] at c1 hst
      obtain ⟨ua, hua⟩ : ∃ ua, uT i ps = ua := ⟨_, rfl⟩
      obtain ⟨ha, hha⟩ : ∃ ha, hT i ps = ha := ⟨_, rfl⟩
      obtain ⟨fa, hfa⟩ : ∃ fa, i - ua - ha = fa := ⟨_, rfl⟩
      rw [hua, hha] at hx3 hst hle
      rw [hfa] at hx3
      have d0 : wr.cell? ⟨b3, 0, none⟩ = some (.int .i64 (ua : Int)) := hx3.cell 0
      have d1 : wr.cell? ⟨b3, 1, none⟩ = some (.int .i64 (ha : Int)) := hx3.cell 1
      have d2 : wr.cell? ⟨b3, 2, none⟩ = some (.int .i64 (fa : Int)) := hx3.cell 2
      have hf3 := hx3.frozen
      have hbb : w.heap.size ≤ b3 := by rw [hb2]; omega
      have hub : ua ≤ 1073741824 := by omega
      have hhb : ha ≤ 1073741824 := by omega
      have hfb : fa ≤ 1073741824 := by omega
      by_cases g1 : 0 ≤ xr
      · rw [if_pos g1, if_pos g1] at hst
        have HN := Lib.hid (show Bx (wr.setCell ⟨b3, 0, none⟩ (.int .i64 ((ua : Int) + 1))) b3 36 (cntA (uT (i + 1) ps) (hT (i + 1) ps) (i + 1 - uT (i + 1) ps - hT (i + 1) ps)) ∧ Bx (wr.setCell ⟨b3, 0, none⟩ (.int .i64 ((ua : Int) + 1))) b2 36 (cntA 0 0 0) ∧ Below w.heap.size w (wr.setCell ⟨b3, 0, none⟩ (.int .i64 ((ua : Int) + 1))) from ⟨by
          rw [hst.1, hst.2, show i + 1 - (ua + 1) - (ha + 0) = fa by omega]
          exact hx3.set 0 _, hx2.other (by omega) _ _, hbw.setCell hbb _⟩)
        clear H h' hw hu hb2 hx3 hx2 hbw hR hat e1 e2 e3 hst hc6 hx hxr hxh hua hha hfa hle hg
        go_wp2_with fail
        exact ⟨⟨i + 1, by go_num, by omega, HN⟩, by simp [intOf]; omega⟩
      · rw [if_neg g1, if_neg g1] at hst
        cases xh with
        | true =>
          rw [if_pos rfl] at hst
          have HN := Lib.hid (show Bx (wr.setCell ⟨b3, 1, none⟩ (.int .i64 ((ha : Int) + 1))) b3 36 (cntA (uT (i + 1) ps) (hT (i + 1) ps) (i + 1 - uT (i + 1) ps - hT (i + 1) ps)) ∧ Bx (wr.setCell ⟨b3, 1, none⟩ (.int .i64 ((ha : Int) + 1))) b2 36 (cntA 0 0 0) ∧ Below w.heap.size w (wr.setCell ⟨b3, 1, none⟩ (.int .i64 ((ha : Int) + 1))) from ⟨by
            rw [hst.1, hst.2, show i + 1 - (ua + 0) - (ha + 1) = fa by omega]
            exact hx3.set 1 _, hx2.other (by omega) _ _, hbw.setCell hbb _⟩)
          clear H h' hw hu hb2 hx3 hx2 hbw hR hat e1 e2 e3 hst hc6 hx hxr hxh hua hha hfa hle hg
          go_wp2_with fail
          exact ⟨⟨i + 1, by go_num, by omega, HN⟩, by simp [intOf]; omega⟩
        | false =>
          rw [if_neg (by simp)] at hst
          have HN := Lib.hid (show Bx (wr.setCell ⟨b3, 2, none⟩ (.int .i64 ((fa : Int) + 1))) b3 36 (cntA (uT (i + 1) ps) (hT (i + 1) ps) (i + 1 - uT (i + 1) ps - hT (i + 1) ps)) ∧ Bx (wr.setCell ⟨b3, 2, none⟩ (.int .i64 ((fa : Int) + 1))) b2 36 (cntA 0 0 0) ∧ Below w.heap.size w (wr.setCell ⟨b3, 2, none⟩ (.int .i64 ((fa : Int) + 1))) from ⟨by
            rw [hst.1, hst.2, show i + 1 - (ua + 0) - (ha + 0) = fa + 1 by omega]
            exact hx3.set 2 _, hx2.other (by omega) _ _, hbw.setCell hbb _⟩)
          clear H h' hw hu hb2 hx3 hx2 hbw hR hat e1 e2 e3 hst hc6 hx hxr hxh hua hha hfa hle hg
          go_wp2_with fail
          exact ⟨⟨i + 1, by go_num, by omega, HN⟩, by simp [intOf]; omega⟩
    · obtain rfl : i = r := by omega
      have hlti : ¬ (i : Int) < (i : Int) := by omega
      obtain ⟨v1, v2⟩ := uT_all hw
      rw [v1, v2] at hx3
      obtain ⟨ua, hua⟩ : ∃ ua, usedS ps = ua := ⟨_, rfl⟩
      obtain ⟨ha, hha⟩ : ∃ ha, heldS ps = ha := ⟨_, rfl⟩
      rw [hua, hha] at hx3
      obtain ⟨fa, hfa⟩ : ∃ fa, i - ua - ha = fa := ⟨_, rfl⟩
      rw [hfa] at hx3
      have HE := Lib.hid (And.intro hua (And.intro hha hfa))
      have d0 : wr.cell? ⟨b3, 0, none⟩ = some (.int .i64 (ua : Int)) := hx3.cell 0
      have d1 : wr.cell? ⟨b3, 1, none⟩ = some (.int .i64 (ha : Int)) := hx3.cell 1
      have d2 : wr.cell? ⟨b3, 2, none⟩ = some (.int .i64 (fa : Int)) := hx3.cell 2
      obtain ⟨W2, hW2⟩ : ∃ W2, wr.setRow b2 #[.int .i64 (ua : Int), .int .i64 (ha : Int), .int .i64 (fa : Int)] = W2 := ⟨_, rfl⟩
      have HW := Lib.hid (show Bx wr b2 36 (cntA 0 0 0) ∧ wr.setRow b2 #[.int .i64 (ua : Int), .int .i64 (ha : Int), .int .i64 (fa : Int)] = W2 from ⟨hx2, hW2⟩)
      have hx4 : Bx W2 b2 36 #[.int .i64 (ua : Int), .int .i64 (ha : Int), .int .i64 (fa : Int)] := by rw [← hW2]; exact hx2.put
      have Hr := Lib.hid (show W2.cell? ⟨b2, 0, none⟩ = some (.int .i64 (ua : Int)) ∧ W2.cell? ⟨b2, 1, none⟩ = some (.int .i64 (ha : Int)) ∧ W2.cell? ⟨b2, 2, none⟩ = some (.int .i64 (fa : Int)) from ⟨hx4.cell 0, hx4.cell 1, hx4.cell 2⟩)
      have HB := Lib.hid (show Below w.heap.size w W2 from by rw [← hW2]; exact below_put hbw (by omega) _)
      clear H h' hw hu hb2 hx3 hx2 hbw hR hat e1 e2 e3 hW2 hx4 hua hha hfa v1 v2
      go_wp2_with (refine wpList_store_box HW rfl 36 (.tmp 2) (.tmp 45) rfl rfl rfl (by kernel_rfl) rfl (cntA_one ua ha fa) ?_)
      obtain ⟨r0, r1, r2⟩ := Hr.out
      refine bodyPost_ret (v := .agg #[.int .i64 (ua : Int), .int .i64 (ha : Int), .int .i64 (fa : Int)]) (by simp [results, Tryd.results45, go_sem, r0, r1, r2]) rfl ⟨by rw [HE.out.1, HE.out.2.1, HE.out.2.2], HB.out⟩
end Go.Proofs.YtgkamdgegfioiaaDoor

namespace Go.Proofs.YtgkamdgegfioiaaDoor
open Go.RowKit
set_option linter.unusedSimpArgs false
set_option linter.unusedVariables false
theorem lT_len {r : Nat} {ps : List Pc} (hw : Wf r 0 ps) (i : Nat) : (lT i ps).length ≤ r := by
  have h1 := (live_wf hw).len
  have h2 : (lT i ps).length ≤ (live ps).length := List.length_filter_le _ _
  omega
set_option maxHeartbeats 4000000 in
set_option maxRecDepth 100000 in
theorem rRuns_calls (w : World) (B Q : Nat) (u : Value) (r : Nat) (ps : List Pc) (h : Rf w B Q u (rows r ps)) (hw : Wf r 0 ps) :
    Calls Tryd.prog 34 #[.pointer (some ⟨Q, 0, none⟩)] w fun e w' => ∃ v, e = .returned v ∧ OwnR w' w.heap.size v (live ps) ∧ Below w.heap.size w w' := by
  have h' : Rf w B Q u (rowsF (rowP ps) r) := h
  obtain ⟨A, c, hu, hc, hcm, hl, -, -, -⟩ := h'.at_
  have h0 := Lib.hid (show OwnR w w.heap.size (.slice none 0 0) (lT 0 ps) ∧ 0 = (lT 0 ps).length ∧ Below w.heap.size w w from ⟨by rw [lT_zero]; exact OwnR.nil _ _, by rw [lT_zero]; rfl, Below.refl _ _⟩)
  have HA := Lib.hid (And.intro h (And.intro hw hu))
  clear h h' hw hu
  go_enter Tryd.func34, Tryd.ntmps34
  go_wp2_with fail
  go_loopw [3, 4] (fun t3 t4 wr => ∃ (A1 : Option Addr) (n c1 i : Nat), t3 = .slice A1 n c1 ∧ t4 = .int .i64 (i : Int) ∧ i ≤ r ∧ Hid (OwnR wr w.heap.size (.slice A1 n c1) (lT i ps) ∧ n = (lT i ps).length ∧ Below w.heap.size w wr)) (fun _ t4 _ => r - (intOf t4).toNat)
  case atStart => exact ⟨none, 0, 0, 0, rfl, rfl, by omega, h0⟩
  case round =>
    clear h0
    rename World => wr
    obtain ⟨A1, n, c1, i, rfl, rfl, hi, H⟩ := hrel
    obtain ⟨h, hw, hu⟩ := HA.out
    obtain ⟨ho, hn, hbw⟩ := H.out
    have hR := h.below hbw
    obtain ⟨A2, c2, hu2, -, -, -, hQ, -, -⟩ := Rf.at_ (f := rowP ps) hR
    rw [hu] at hu2
    injection hu2 with e1 e2 e3
    rw [← e1, ← e3] at hQ
    clear e1 e2 e3
    by_cases hlt : i < r
    · have hlti : (i : Int) < (r : Int) := by omega
      have hq := begins_calls wr B Q u _ (i : Int) hR
      rw [beg_rows hw] at hq
      have hnx := lT_next hw i
      cases hf : findS (i : Int) ps with
      | none =>
        rw [hf] at hq hnx
        have Hq := Lib.hid (show Calls Tryd.prog 59 #[.pointer (some ⟨Q, 0, none⟩), .int .i64 (i : Int)] wr fun e w' => e = .returned (.bool false) ∧ wr = w' from hq)
        have e1 : lT (i + 1) ps = lT i ps := by rw [hnx]; simp
        have HN := Lib.hid (show OwnR wr w.heap.size (.slice A1 n c1) (lT (i + 1) ps) ∧ n = (lT (i + 1) ps).length ∧ Below w.heap.size w wr from by rw [e1]; exact ⟨ho, hn, hbw⟩)
        clear H h hw hu ho hn hbw hR hq hnx hf e1
        go_wp2_with fail
        refine (Hq.out).mono ?_
        rintro e w' ⟨rfl, hw'⟩
        subst hw'
        go_wp2_with fail
        exact ⟨⟨A1, n, c1, i + 1, rfl, by go_num, by omega, HN⟩, by simp [intOf]; omega⟩
      | some p =>
        rw [hf] at hq hnx
        have Hq := Lib.hid (show Calls Tryd.prog 59 #[.pointer (some ⟨Q, 0, none⟩), .int .i64 (i : Int)] wr fun e w' => e = .returned (.bool true) ∧ wr = w' from hq)
        have hfi := rFind_calls wr B Q u r ps (i : Int) hR hw
        unfold runV runE at hfi
        rw [hf] at hfi
        have Hf := Lib.hid (show Calls Tryd.prog 47 #[.pointer (some ⟨Q, 0, none⟩), .int .i64 (i : Int)] wr fun e w' => e = .returned (.tuple #[.agg #[.int .i64 (p.at_ : Int), .int .i64 (p.n : Int), .int .i64 (p.cnt : Int), .int .u64 (p.tag : Int)], .int .i64 0]) ∧ Below wr.heap.size wr w' from hfi)
        have e1 : lT (i + 1) ps = lT i ps ++ [p] := hnx
        have HX := Lib.hid (And.intro ho (And.intro hn (And.intro hbw e1)))
        clear H h hw hu ho hn hbw hR hq hnx hf e1 hfi
        go_wp2_with fail
        refine (Hq.out).mono ?_
        rintro e w' ⟨rfl, hw'⟩
        subst hw'
        go_wp2_with fail
        refine (Hf.out).mono ?_
        rintro e W1 ⟨rfl, hb1⟩
        obtain ⟨b5, hb5⟩ : ∃ b5, W1.heap.size = b5 := ⟨_, rfl⟩
        obtain ⟨W2, hW2⟩ : ∃ W2, W1.alloc (.cells #[.int .i64 (p.at_ : Int), .int .i64 (p.n : Int), .int .i64 (p.cnt : Int), .int .u64 (p.tag : Int)] 47) = W2 := ⟨_, rfl⟩
        have hx2 : Bx W2 b5 47 (rnA p) := by rw [← hW2, ← hb5]; exact Bx.new _ _ _
        have hb2 : Below wr.heap.size wr W2 := by rw [← hW2]; exact hb1.alloc hb1.size _
        have y0 : W2.cell? ⟨b5, 0, none⟩ = some (.int .i64 (p.at_ : Int)) := hx2.cell 0
        have y1 : W2.cell? ⟨b5, 1, none⟩ = some (.int .i64 (p.n : Int)) := hx2.cell 1
        have y2 : W2.cell? ⟨b5, 2, none⟩ = some (.int .i64 (p.cnt : Int)) := hx2.cell 2
        have y3 : W2.cell? ⟨b5, 3, none⟩ = some (.int .u64 (p.tag : Int)) := hx2.cell 3
        obtain ⟨b6, hb6⟩ : ∃ b6, W2.heap.size = b6 := ⟨_, rfl⟩
        obtain ⟨W3, hW3⟩ : ∃ W3, W2.alloc (.cells #[.int .i64 (p.at_ : Int), .int .i64 (p.n : Int), .int .i64 (p.cnt : Int), .int .u64 (p.tag : Int)] 47) = W3 := ⟨_, rfl⟩
        have hx3 : Bx W3 b6 47 (rnA p) := by rw [← hW3, ← hb6]; exact Bx.new _ _ _
        have hb3 : Below wr.heap.size wr W3 := by rw [← hW3]; exact hb2.alloc hb2.size _
        obtain ⟨ho, hn, hbw, e1⟩ := HX.out
        obtain ⟨v', W4, hrun, ho4, hg4, hl4, A4, n4, c4, rfl⟩ := appendR W3 w.heap.size (.slice A1 n c1) _ (ho.below hb3) (Nat.le_trans hbw.size hb3.size) b6 p hx3 (by have := lT_len HA.out.2.1 i; omega)
        obtain ⟨A5, c5, he5, -⟩ := ho4.rd
        injection he5 with hz1 hn5 hz3
        clear hz1 hz3
        have HN := Lib.hid (show OwnR W4 w.heap.size (.slice A4 n4 c4) (lT (i + 1) ps) ∧ n4 = (lT (i + 1) ps).length ∧ Below w.heap.size w W4 from by
          rw [e1]
          refine ⟨ho4, hn5, (hbw.trans (hb3.mono hbw.size)).grown hg4 (Nat.le_trans hbw.size hb3.size) (fun k hk => ?_)⟩
          rcases ho.2 with ⟨e, _⟩ | ⟨g, cap, cur, e, hbg, _⟩
          · rw [e] at hk; cases hk
          · rw [e] at hk; cases hk; exact hbg)
        have R := Lib.hid hrun
        clear ho hn hbw e1 ho4 hg4 hl4 hrun hx2 hx3 hb1 hb2 hb3 HX Hf Hq hn5
        go_wp2_with (at_builtin; go_must (refine wpList_append_run rfl (.tmp 25) (.tmp 27) 43 43 rfl rfl rfl R.out ?_))
        exact ⟨⟨A4, n4, c4, i + 1, rfl, by go_num, by omega, HN⟩, by simp [intOf]; omega⟩
    · obtain rfl : i = r := by omega
      have hlti : ¬ (i : Int) < (i : Int) := by omega
      have HP := Lib.hid (show ∃ v, Ending.returned (.slice A1 n c1) = .returned v ∧ OwnR wr w.heap.size v (live ps) ∧ Below w.heap.size w wr from ⟨_, rfl, by rw [← lT_all hw]; exact ho, hbw⟩)
      clear H h hw hu ho hn hbw hR
      go_wp2_with fail
      go_ret
      exact HP.out
end Go.Proofs.YtgkamdgegfioiaaDoor

namespace Go.Proofs.YtgkamdgegfioiaaDoor
open Go.RowKit
set_option linter.unusedSimpArgs false
set_option linter.unusedVariables false
/-- rows that Take has filled -/
def takeF (ps : List Pc) (k q : Nat) : Nat → Rw := fun j => if k ≤ j ∧ j < q then bdR k else rowP ps j
theorem takeF_step {ps : List Pc} {k q r : Nat} (hk : k ≤ q) : (rowsF (takeF ps k q) r).set q (bdR k) = rowsF (takeF ps k (q + 1)) r := by
  rw [rowsF_set]
  refine rowsF_ext (fun j hj => ?_)
  unfold takeF
  by_cases h : j = q
  · rw [if_pos h, if_pos (by omega)]
  · rw [if_neg h]
    by_cases h2 : k ≤ j ∧ j < q
    · rw [if_pos h2, if_pos (by omega)]
    · rw [if_neg h2, if_neg (show ¬ (k ≤ j ∧ j < q + 1) by omega)]
def RTkPost (w : World) (B Q : Nat) (u : Value) (r : Nat) (ps : List Pc) (n tag : Nat) (e : Ending) (w' : World) : Prop :=
  match insF r n tag 0 ps with
  | none => RfPost w B Q u (rows r ps) (.tuple #[.int .i64 0, .int .i64 8]) e w'
  | some (k, qs) => RfPost w B Q u (rows r qs) (.tuple #[.int .i64 (k : Int), .int .i64 0]) e w'
set_option maxHeartbeats 4000000 in
set_option maxRecDepth 100000 in
theorem rTake_bad (w : World) (B Q : Nat) (u : Value) (L : List Rw) (n tag : Int) (h : Rf w B Q u L) (hn : n < 1) :
    Calls Tryd.prog 35 #[.pointer (some ⟨Q, 0, none⟩), .int .i64 n, .int .u64 tag] w fun e w' => RfPost w B Q u L (.tuple #[.int .i64 0, .int .i64 5]) e w' := by
  have HP := Lib.hid (show RfPost w B Q u L (.tuple #[.int .i64 0, .int .i64 5]) (.returned (.tuple #[.int .i64 0, .int .i64 5])) w from ⟨rfl, u, h, Chg.refl _ _, .inl rfl⟩)
  clear h
  go_enter Tryd.func35, Tryd.ntmps35
  go_wp2_with fail
  go_ret2
  exact HP.out
set_option maxHeartbeats 4000000 in
set_option maxRecDepth 100000 in
theorem rTake_calls (w : World) (B Q : Nat) (u : Value) (r : Nat) (ps : List Pc) (n tag : Nat) (h : Rf w B Q u (rows r ps)) (hw : Wf r 0 ps) (hn1 : 1 ≤ n) (hn : n ≤ 9223372036854775807) :
    Calls Tryd.prog 35 #[.pointer (some ⟨Q, 0, none⟩), .int .i64 (n : Int), .int .u64 (tag : Int)] w fun e w' => RTkPost w B Q u r ps n tag e w' := by
  have h' : Rf w B Q u (rowsF (rowP ps) r) := h
  obtain ⟨A, c, hu, hc, hcm, hl, hQ, hQf, hat⟩ := h'.at_
  have hsc := scan_rows (tag := tag) hn1 hw
  have d1 : decide ((n : Int) < 1) = false := decide_eq_false (by omega)
  have HA := Lib.hid (And.intro h' (And.intro hw (And.intro hu (And.intro hat hsc))))
  clear h h' hw hat hsc hcm hu
  go_enter Tryd.func35, Tryd.ntmps35
  go_wp2_with fail
  go_loopw [8, 9] (fun t8 t9 wr => ∃ cf i : Nat, t8 = .int .i64 (cf : Int) ∧ t9 = .int .i64 (i : Int) ∧ i ≤ r ∧ cf ≤ i ∧ cf < n ∧ wr = w ∧ Hid (scanP n (rowP ps) (r - 0) 0 0 = scanP n (rowP ps) (r - i) i cf)) (fun _ t9 _ => r - (intOf t9).toNat)
  case atStart => exact ⟨0, 0, rfl, rfl, by omega, by omega, by omega, rfl, Lib.hid rfl⟩
  case round =>
    rename World => wr
    obtain ⟨cf, i, rfl, rfl, hi, hcf, hcn, rfl, H⟩ := hrel
    by_cases hlt : i < r
    · have hlti : (i : Int) < (r : Int) := by omega
      obtain ⟨h', hw, -, hat, hsc⟩ := HA.out
      obtain ⟨g, hA, hg, hc6, hfz⟩ := hat i hlt
      subst hA
      have hsu := H.out
      rw [show r - i = (r - (i + 1)) + 1 by omega, scanP_succ] at hsu
      obtain ⟨x, hx⟩ : ∃ x, rowP ps i = x := ⟨_, rfl⟩
      rw [hx] at hc6 hsu
      have c0 : wr.cell? ⟨g, i * 6, none⟩ = some (.int .i64 x.run) := hc6 0 (by omega)
      have c1 : wr.cell? ⟨g, i * 6 + 1, none⟩ = some (.bool x.held) := hc6 1 (by omega)
      obtain ⟨xr, hxr⟩ : ∃ xr, x.run = xr := ⟨_, rfl⟩
      obtain ⟨xh, hxh⟩ : ∃ xh, x.held = xh := ⟨_, rfl⟩
      unfold usedR at hsu
      rw [hxr] at c0 hsu
      rw [hxh] at c1 hsu
      by_cases hus : (decide (0 ≤ xr) || xh) = true
      · rw [if_pos hus] at hsu
        have HN := Lib.hid hsu
        have hor : 0 ≤ xr ∨ (¬ 0 ≤ xr ∧ xh = true) := by
          by_cases e : 0 ≤ xr
          · exact .inl e
          · right
            refine ⟨e, ?_⟩
            simpa [e] using hus
        clear H h' hw hat hsc hc6 hx hxr hxh hsu hus hfz
        rcases hor with e1 | ⟨e1, rfl⟩
        · go_wp2_with fail
          exact ⟨⟨0, i + 1, rfl, by go_num, by omega, by omega, by omega, by first | rfl | trivial, HN⟩, by simp [intOf]; omega⟩
        · go_wp2_with fail
          exact ⟨⟨0, i + 1, rfl, by go_num, by omega, by omega, by omega, by first | rfl | trivial, HN⟩, by simp [intOf]; omega⟩
      · rw [if_neg hus] at hsu
        obtain ⟨e1, e2⟩ : ¬ 0 ≤ xr ∧ xh = false := by
          constructor
          · intro e; exact hus (by simp [e])
          · cases xh with
            | false => rfl
            | true => exact absurd (by simp) hus
        subst e2
        by_cases hfull : cf + 1 = n
        · rw [if_pos hfull] at hsu
          obtain ⟨k, hk⟩ : ∃ k, i + 1 - n = k := ⟨_, rfl⟩
          rw [hk] at hsu
          rw [hsu] at hsc
          obtain ⟨⟨k2, qs⟩, hins, hk2⟩ := Option.map_eq_some_iff.1 hsc.symm
          obtain rfl : k2 = k := hk2
          have hki : (i : Int) - (n : Int) + 1 = (k2 : Int) := by omega
          have hfi : ((cf : Int) + 1 == (n : Int)) = true := by rw [beq_iff_eq]; omega
          have hkn : k2 + n = i + 1 := by omega
          have hki1 : k2 ≤ i := by omega
          have hnr : n ≤ 1073741824 := by omega
          have h00 := Lib.hid (show Rf wr B Q u (rowsF (takeF ps k2 k2) r) ∧ Chg wr wr (RfS Q u) from ⟨by
            have e : rowsF (takeF ps k2 k2) r = rowsF (rowP ps) r := rowsF_ext (fun j _ => by unfold takeF; rw [if_neg (by omega)])
            rw [e]; exact h', Chg.refl _ _⟩)
          have HI := Lib.hid (And.intro hins (And.intro hkn hfull))
          clear H h' hw hat hsc hc6 hx hxr hxh hsu hus hfz hins hkn hk
          have hib : i ≤ 1073741824 := by omega
          have hcfb : cf ≤ 1073741824 := by omega
          go_wp2_with fail
          go_loopw [11] (fun t11 wy => ∃ q : Nat, t11 = .int .i64 (q : Int) ∧ k2 ≤ q ∧ q ≤ i + 1 ∧ Hid (Rf wy B Q u (rowsF (takeF ps k2 q) r) ∧ Chg wr wy (RfS Q u))) (fun t11 _ => i + 1 - (intOf t11).toNat)
          case atStart => exact ⟨k2, rfl, by omega, by omega, h00⟩
          case round =>
            clear h00
            rename World => wy
            obtain ⟨q, rfl, hq1, hq2, G⟩ := hrel
            obtain ⟨A3, c3, hu3, -, -, -, hQ3, -, hat3⟩ := G.out.1.at_
            have hun := HA.out.2.2.1
            rw [hu3] at hun
            injection hun with f1 f2 f3
            rw [f1, f3] at hQ3
            by_cases hqi : q ≤ i
            · have hqii : (q : Int) ≤ (i : Int) := by omega
              have hqr : (q : Int) < (r : Int) := by omega
              obtain ⟨g3, hA3, hg3, -, -⟩ := hat3 q (by omega)
              rw [f1] at hA3
              cases hA3
              obtain ⟨t1, t2, t3⟩ := G.out.1.whole hg3 (i := q) (by rw [rowsF_len]; omega) (bdR k2)
              rw [takeF_step hq1] at t1
              obtain ⟨W', hW'⟩ : ∃ W', wy.setCells g (q * 6) (rwA (bdR k2)).toList = W' := ⟨_, rfl⟩
              have HW := Lib.hid (show wy.there g (q * 6) (#[.int .i64 (k2 : Int), .bool false, .int .i64 0, .int .i64 0, .int .u64 0, .bool false] : Array Value).size ∧ wy.setCells g (q * 6) (#[.int .i64 (k2 : Int), .bool false, .int .i64 0, .int .i64 0, .int .u64 0, .bool false] : Array Value).toList = W' from ⟨t3, hW'⟩)
              rw [hW'] at t1 t2
              have HN := Lib.hid (show Rf W' B Q u (rowsF (takeF ps k2 (q + 1)) r) ∧ Chg wr W' (RfS Q u) from ⟨t1, G.out.2.trans t2⟩)
              clear G t1 t2 t3 hW' hat3 hu3 f1 f2 f3 hg3
              go_wp2_with (refine wpList_store_rw HW rfl 106 (.tmp 64) (.tmp 63) rfl rfl rfl (by kernel_rfl) (rwA_one (bdR k2)) ?_)
              exact ⟨⟨q + 1, by go_num, by omega, by omega, HN⟩, by simp [intOf]; omega⟩
            · obtain rfl : q = i + 1 := by omega
              have hqii : ¬ ((i : Int) + 1) ≤ (i : Int) := by omega
              have hkr : (k2 : Int) < (r : Int) := by omega
              obtain ⟨g3, hA3, hg3, -, -⟩ := hat3 k2 (by omega)
              rw [f1] at hA3
              cases hA3
              obtain ⟨t1, t2, t3⟩ := G.out.1.whole hg3 (i := k2) (by rw [rowsF_len]; omega) (fsR ⟨k2, n, 1, tag, false⟩)
              obtain ⟨W', hW'⟩ : ∃ W', wy.setCells g (k2 * 6) (rwA (fsR ⟨k2, n, 1, tag, false⟩)).toList = W' := ⟨_, rfl⟩
              have HW := Lib.hid (show wy.there g (k2 * 6) (#[.int .i64 (k2 : Int), .bool false, .int .i64 (n : Int), .int .i64 1, .int .u64 (tag : Int), .bool false] : Array Value).size ∧ wy.setCells g (k2 * 6) (#[.int .i64 (k2 : Int), .bool false, .int .i64 (n : Int), .int .i64 1, .int .u64 (tag : Int), .bool false] : Array Value).toList = W' from ⟨t3, hW'⟩)
              rw [hW'] at t1 t2
              have HP := Lib.hid (show RTkPost wr B Q u r ps n tag (.returned (.tuple #[.int .i64 (k2 : Int), .int .i64 0])) W' from by
                unfold RTkPost
                rw [HI.out.1]
                refine ⟨rfl, u, ?_, G.out.2.trans t2, .inl rfl⟩
                rw [rowsF_set] at t1
                have e := rows_take (g := fun j => if j = k2 then fsR ⟨k2, n, 1, tag, false⟩ else takeF ps k2 (i + 1) j) HA.out.2.1 HI.out.1 (fun j => by
                  unfold takeF
                  by_cases h1 : j = k2
                  · rw [if_pos h1, if_pos (by omega), if_pos h1]
                  · rw [if_neg h1]
                    by_cases h2 : k2 ≤ j ∧ j < i + 1
                    · rw [if_pos h2, if_pos (by have := HI.out.2.1; omega), if_neg h1]
                    · rw [if_neg h2, if_neg (show ¬ (k2 ≤ j ∧ j < k2 + n) by have := HI.out.2.1; omega)])
                rw [← e]
                exact t1)
              rw [show ((i + 1 : Nat) : Int) = (i : Int) + 1 by omega]
              clear G t1 t2 t3 hW' hat3 hu3 f1 f2 f3 hg3
              go_wp2_with (refine wpList_store_rw HW rfl 106 (.tmp 74) (.tmp 73) rfl rfl rfl (by kernel_rfl) (rwA_one (fsR ⟨k2, n, 1, tag, false⟩)) ?_)
              go_ret2
              exact HP.out
        · rw [if_neg hfull] at hsu
          have HN := Lib.hid hsu
          have hfi : ((cf : Int) + 1 == (n : Int)) = false := by rw [beq_eq_false_iff_ne]; omega
          have hcfb : cf ≤ 1073741824 := by omega
          clear H h' hw hat hsc hc6 hx hxr hxh hsu hus hfz
          go_wp2_with fail
          exact ⟨⟨cf + 1, i + 1, by go_num, by go_num, by omega, by omega, by omega, by first | rfl | trivial, HN⟩, by simp [intOf]; omega⟩
    · obtain rfl : i = r := by omega
      have hlti : ¬ (i : Int) < (i : Int) := by omega
      have HP := Lib.hid (show RTkPost wr B Q u i ps n tag (.returned (.tuple #[.int .i64 0, .int .i64 8])) wr from by
        obtain ⟨h', hw, -, hat, hsc⟩ := HA.out
        have hs := H.out
        rw [hsc, Nat.sub_self] at hs
        have hnone : insF i n tag 0 ps = none := Option.map_eq_none_iff.1 hs
        unfold RTkPost
        rw [hnone]
        exact ⟨rfl, u, h', Chg.refl _ _, .inl rfl⟩)
      clear H
      go_wp2_with fail
      go_ret2
      exact HP.out
end Go.Proofs.YtgkamdgegfioiaaDoor

namespace Go.Proofs.YtgkamdgegfioiaaDoor
open Go.RowKit
set_option linter.unusedSimpArgs false
set_option linter.unusedVariables false
/-- append of rows onto an empty slice of the call's own -/
theorem appendWL (w : World) (B : Nat) (v : Value) (h : OwnW w B v []) (hB : B ≤ w.heap.size) (A : Option Addr) (c : Nat) (L : List Rw) (hr : ∀ j (hj : j < L.length), ∃ g, A = some ⟨g, 0, none⟩ ∧ ∀ i, i < 6 → w.cell? ⟨g, j * 6 + i, none⟩ = (rwA L[j])[i]?) (hn : L.length ≤ 1073741824) :
    ∃ v' w', (Builtin.append_ #[75, 75] 75 #[v, .slice A L.length c]).run Tryd.prog w = .ok v' w' ∧ OwnW w' B v' L ∧ w.grownBy w' v.ownBlock ∧ (v'.ownBlock = v.ownBlock ∨ v'.ownBlock = some w.heap.size) := by
  obtain ⟨i5, hi, hz0, hz1, hz2⟩ := info_parts infoRw
  cases L with
  | nil =>
    refine ⟨v, w, ?_, h, ⟨rfl, rfl, rfl, Nat.le_refl _, fun _ _ _ => rfl⟩, .inl rfl⟩
    obtain ⟨A0, c0, rfl, hc0, -⟩ := h.at_
    cases A <;> cases A0 <;> simp [Builtin.append_, run_underlying Tryd.underlying75, sizeOf, typeInfo, hi, Builtin.lenOf, Builtin.firstCells, storeCells, loadCells, loadCellsFrom]
  | cons x xs =>
    obtain ⟨g, rfl, -⟩ := hr 0 (by simp)
    obtain ⟨v', w', h1, h2, h3, _, h5⟩ := run_append_own_at (P := Tryd.prog) w B 75 75 106 i5 _ 6 48 Tryd.underlying75 hi hz0 hz1 hz2 rfl (by omega) v 0 (rwL []) h ⟨g, 0, none⟩ (x :: xs).length c (rwL (x :: xs)) (rwL_len _) (fun j u hj => by
      have hj2 := (List.getElem?_eq_some_iff.1 hj).1
      rw [rwL_len] at hj2
      have hd : j = (j / 6) * 6 + j % 6 := by omega
      obtain ⟨g2, hA, hc6⟩ := hr (j / 6) (by omega)
      cases hA
      rw [addr_add0]
      have := hc6 (j % 6) (by omega)
      rw [← hd] at this
      rw [this, ← rwL_at _ _ _ (by omega) (by omega), ← hd]
      exact hj) (rwL_cell _) (by unfold maxLen; omega) (by omega) hB
    refine ⟨v', w', h1, ?_, h3, h5⟩
    unfold OwnW
    rw [Nat.zero_add] at h2
    exact h2
set_option maxHeartbeats 4000000 in
set_option maxRecDepth 100000 in
theorem rCopy_calls (w : World) (B Q : Nat) (u : Value) (r : Nat) (ps : List Pc) (h : Rf w B Q u (rows r ps)) :
    Calls Tryd.prog 42 #[.pointer (some ⟨Q, 0, none⟩)] w fun e w' => ∃ Q' u', e = .returned (.pointer (some ⟨Q', 0, none⟩)) ∧ Rf w' w.heap.size Q' u' (rows r ps) ∧ Below w.heap.size w w' := by
  have h' : Rf w B Q u (rowsF (rowP ps) r) := h
  obtain ⟨A, c, hu, hc, hcm, hl, hQ, -, hat⟩ := h'.at_
  obtain ⟨H, hH⟩ : ∃ H, w.heap.size = H := ⟨_, rfl⟩
  obtain ⟨W0, hW0⟩ : ∃ W0, w.alloc (.cells #[] 106) = W0 := ⟨_, rfl⟩
  have hb0 : Below w.heap.size w W0 := by rw [← hW0]; exact (Below.refl _ _).alloc (Nat.le_refl _) _
  have hn0 : W0.heap[H]? = some (.cells #[] 106 (0, 0)) := by rw [← hW0, ← hH]; exact heap_alloc_new w _
  have ho0 : OwnW W0 w.heap.size (.slice (some ⟨H, 0, none⟩) 0 0) [] := ⟨rfl, .inr ⟨H, 0, #[], rfl, by omega, hn0, Nat.le_refl _, Nat.zero_le _, rfl, rfl⟩⟩
  have hR0 := h'.below hb0
  obtain ⟨A1, c1, hu1, -, -, -, hQ0, -, hat0⟩ := hR0.at_
  rw [hu] at hu1
  injection hu1 with e1 e2 e3
  rw [← e1, ← e3] at hQ0
  obtain ⟨v', W1, hrun, ho1, hg1, hl1⟩ := appendWL W0 w.heap.size _ ho0 hb0.size A c (rowsF (rowP ps) r) (fun j hj => by
    rw [rowsF_len] at hj
    obtain ⟨g, a1, -, a3, -⟩ := hat0 j hj
    rw [rowsF_at]
    exact ⟨g, e1.trans a1, a3⟩) (by rw [rowsF_len]; exact hl)
  rw [rowsF_len] at hrun
  obtain ⟨A2, c2, hv2, -⟩ := ho1.at_
  rw [rowsF_len] at hv2
  subst hv2
  have hb1 : Below w.heap.size w W1 := hb0.grown hg1 hb0.size (fun k hk => by cases hk; show w.heap.size ≤ H; omega)
  obtain ⟨Q', hQ'⟩ : ∃ Q', W1.heap.size = Q' := ⟨_, rfl⟩
  have HP := Lib.hid (show Rf (W1.alloc (.cells #[.slice A2 r c2] 77)) w.heap.size Q' (.slice A2 r c2) (rows r ps) ∧ Below w.heap.size w (W1.alloc (.cells #[.slice A2 r c2] 77)) from
    ⟨⟨by rw [← hQ']; exact hb1.size, by rw [← hQ']; exact heap_alloc_new W1 _, ho1.below ((Below.refl _ _).alloc (Nat.le_refl _) _), by rw [rows_len]; exact hl⟩, hb1.alloc hb1.size _⟩)
  have R := Lib.hid hrun
  clear h h' hu hc hcm hat hb0 hn0 ho0 hR0 hat0 e1 e2 e3 ho1 hg1 hl1 hb1 hrun hQ
  go_enter Tryd.func42, Tryd.ntmps42
  go_wp2_with (at_builtin; go_must (refine wpList_append_run rfl (.tmp 3) (.tmp 7) 75 75 rfl rfl rfl R.out ?_))
  go_ret
  exact ⟨Q', .slice A2 r c2, by rw [← hQ']; rfl, HP.out.1, HP.out.2⟩
end Go.Proofs.YtgkamdgegfioiaaDoor
