/- The walk of (*space.Space).Rows and its wrapper. -/
import Derived.Test.YtgkamdgegfioiaaDoorSpn
namespace Go.Proofs.YtgkamdgegfioiaaDoor
open Go.RowKit
set_option linter.unusedSimpArgs false
set_option linter.unusedVariables false
theorem usedS_append : ∀ (a b : List Pc), usedS (a ++ b) = usedS a + usedS b
  | [], b => by simp [usedS]
  | p :: ps, b => by simp only [List.cons_append, usedS, usedS_append ps b]; omega
theorem heldS_append : ∀ (a b : List Pc), heldS (a ++ b) = heldS a + heldS b
  | [], b => by simp [heldS]
  | p :: ps, b => by simp only [List.cons_append, heldS, heldS_append ps b]; omega
theorem take_snocP {ps : List Pc} {i : Nat} (h : i < ps.length) : ps.take (i + 1) = ps.take i ++ [ps[i]] := List.take_succ_eq_append_getElem h
theorem sums_take {ps : List Pc} {r i : Nat} (h : Wf r 0 ps) : usedS (ps.take i) + heldS (ps.take i) ≤ r := by
  have h1 := sums_le h
  have h2 := usedS_append (ps.take i) (ps.drop i)
  have h3 := heldS_append (ps.take i) (ps.drop i)
  rw [List.take_append_drop] at h2 h3
  omega
/-- a block of one row -/
def Bx (w : World) (b : Nat) (t : TypeId) (C : Array Value) : Prop := w.heap[b]? = some (.cells C t (0, 0))
theorem Bx.lt {w : World} {b : Nat} {t : TypeId} {C : Array Value} (h : Bx w b t C) : b < w.heap.size := (Array.getElem?_eq_some_iff.1 h).1
theorem Bx.cell {w : World} {b : Nat} {t : TypeId} {C : Array Value} (h : Bx w b t C) (k : Nat) : w.cell? ⟨b, k, none⟩ = C[k]? := cell_of_row _ _ _ _ _ _ h
theorem Bx.frozen {w : World} {b : Nat} {t : TypeId} {C : Array Value} (h : Bx w b t C) (k : Nat) : w.frozen? ⟨b, k, none⟩ = false := frozen_of_row _ _ _ _ _ h
theorem Bx.alloc {w : World} {b : Nat} {t : TypeId} {C : Array Value} (h : Bx w b t C) (o : Obj) : Bx (w.alloc o) b t C := (Below.heap_alloc _ _ _ h.lt).trans h
theorem Bx.new (w : World) (t : TypeId) (C : Array Value) : Bx (w.alloc (.cells C t)) w.heap.size t C := heap_alloc_new w _
theorem Bx.set {w : World} {b : Nat} {t : TypeId} {C : Array Value} (h : Bx w b t C) (k : Nat) (v : Value) : Bx (w.setCell ⟨b, k, none⟩ v) b t (C.setIfInBounds k v) := by
  have e : w.setCell ⟨b, k, none⟩ v = w.setRow b (C.setIfInBounds k v) := setCell_eq_setRow _ _ _ _ _ _ _ h
  unfold Bx
  rw [e]
  exact setRow_heap _ _ _ _ _ _ h
theorem Bx.other {w : World} {b b' : Nat} {t : TypeId} {C : Array Value} (h : Bx w b t C) (hne : b ≠ b') (k : Nat) (v : Value) : Bx (w.setCell ⟨b', k, none⟩ v) b t C := (heap_setCell_other w _ b v hne).trans h
theorem Bx.below {w w' : World} {b B : Nat} {t : TypeId} {C : Array Value} (h : Bx w b t C) (hb : Below B w w') (hB : b < B) : Bx w' b t C := (hb.block b hB).trans h
theorem setB {B b : Nat} {a w : World} (h : Below B a w) (hB : B ≤ b) (k : Nat) (v : Value) : Below B a (w.setCell ⟨b, k, none⟩ v) := h.setCell hB v
set_option maxHeartbeats 4000000 in
set_option maxRecDepth 100000 in
theorem rows_calls (w : World) (B R : Nat) (v : Value) (r : Nat) (ps : List Pc) (h : Sp w B R v r ps) :
    Calls Tryd.prog 27 #[.pointer (some ⟨R, 0, none⟩)] w fun e w' => e = .returned (.agg #[.int .i64 (usedS ps : Int), .int .i64 (heldS ps : Int), .int .i64 ((r - usedS ps - heldS ps : Nat) : Int)]) ∧ Below w.heap.size w w' := by
  have HS := Lib.hid h
  have hr := h.hr
  obtain ⟨N, hN⟩ : ∃ N, ps.length = N := ⟨_, rfl⟩
  have HN := Lib.hid hN
  have hNr := h.len
  rw [hN] at hNr
  obtain ⟨A, c, hv, hc1, hc2, hrd⟩ := h.own.rd
  rw [hN] at hv
  have Hrd := Lib.hid hrd
  obtain ⟨cR0, cR1, fR⟩ := h.cells
  obtain ⟨H2, hH2⟩ : ∃ H2, w.heap.size = H2 := ⟨_, rfl⟩
  have hRl : R ≠ H2 := by have := (Array.getElem?_eq_some_iff.1 h.row).1; omega
  obtain ⟨W0, hW0⟩ : ∃ W0, W0 = w.alloc (.cells #[.int .i64 0, .int .i64 0, .int .i64 0] 36) := ⟨_, rfl⟩
  have hb0 : Below w.heap.size w W0 := by rw [hW0]; exact (Below.refl _ _).alloc (Nat.le_refl _) _
  have hs0 := h.below hb0
  have hs1 := hs0.below ((Below.refl _ _).alloc (Nat.le_refl _) (.cells #[.int .i64 0, .int .i64 0, .int .i64 (r : Int)] 36))
  have dR0 : (w.alloc (.cells #[.int .i64 0, .int .i64 0, .int .i64 0] 36)).cell? ⟨R, 0, none⟩ = some (.int .i64 (r : Int)) := by rw [← hW0]; exact hs0.cells.1
  have dR1 : ((w.alloc (.cells #[.int .i64 0, .int .i64 0, .int .i64 0] 36)).alloc (.cells #[.int .i64 0, .int .i64 0, .int .i64 (r : Int)] 36)).cell? ⟨R, 1, none⟩ = some v := by rw [← hW0]; exact hs1.cells.2.1
  have hx0 : Bx W0 H2 36 #[.int .i64 0, .int .i64 0, .int .i64 0] := by rw [hW0, ← hH2]; exact Bx.new _ _ _
  have hsz0 : W0.heap.size = H2 + 1 := by rw [hW0, World.size_alloc, hH2]
  have h1 := Lib.hid (show Bx (W0.alloc (.cells #[.int .i64 0, .int .i64 0, .int .i64 (r : Int)] 36)) (H2 + 1) 36 #[.int .i64 ((usedS (ps.take 0) : Nat) : Int), .int .i64 ((heldS (ps.take 0) : Nat) : Int), .int .i64 ((r - usedS (ps.take 0) - heldS (ps.take 0) : Nat) : Int)] ∧
      Below W0.heap.size W0 (W0.alloc (.cells #[.int .i64 0, .int .i64 0, .int .i64 (r : Int)] 36)) from ⟨by rw [← hsz0]; exact Bx.new _ _ _, (Below.refl _ _).alloc (Nat.le_refl _) _⟩)
  have Hx0 := Lib.hid (show Below w.heap.size w W0 ∧ Bx W0 H2 36 #[.int .i64 0, .int .i64 0, .int .i64 0] ∧ Sp W0 B R v r ps from ⟨hb0, hx0, hs0⟩)
  have hc3 : c ≤ 9223372036854775807 := by unfold maxLen at hc2; omega
  have Hsz0 := Lib.hid hsz0
  have HW0 := Lib.hid hW0
  subst hv
  clear h hrd hN hc1 hc2 fR hs0 hs1 hx0 hb0 hW0 hsz0
  go_enter Tryd.func27, Tryd.ntmps27
  go_wp2_with fail
  rw [← HW0.out]
  have HH2 := Lib.hid hH2
  clear hH2 dR0 dR1 HW0
  go_loopw [16] (fun j wr => ∃ i : Nat, j = .int .i64 (i : Int) ∧ i ≤ N ∧ Hid (Bx wr (H2 + 1) 36 #[.int .i64 ((usedS (ps.take i) : Nat) : Int), .int .i64 ((heldS (ps.take i) : Nat) : Int), .int .i64 ((r - usedS (ps.take i) - heldS (ps.take i) : Nat) : Int)] ∧ Below W0.heap.size W0 wr)) (fun j _ => N - (intOf j).toNat)
  case atStart => exact ⟨0, rfl, by omega, h1⟩
  case round =>
    clear h1
    rename World => wr
    obtain ⟨i, rfl, hi, G⟩ := hrel
    by_cases hlt : i < N
    · have hlti : (i : Int) < (N : Int) := by omega
      obtain ⟨g, hA, hgw, hgf, hgc⟩ := (Hrd.out.below' (Hx0.out.1.trans (G.out.2.mono (by rw [Hsz0.out, HH2.out]; omega)))) i (by rw [HN.out]; exact hlt)
      subst hA
      obtain ⟨p, hp⟩ : ∃ p, ps[i]'(by rw [HN.out]; exact hlt) = p := ⟨_, rfl⟩
      have hts := take_snocP (ps := ps) (i := i) (by rw [HN.out]; exact hlt)
      rw [hp] at hgc hts
      have g0 : wr.cell? ⟨g, i * 5, none⟩ = some (.int .i64 (p.at_ : Int)) := hgc 0 (by omega)
      have g1 : wr.cell? ⟨g, i * 5 + 1, none⟩ = some (.int .i64 (p.n : Int)) := hgc 1 (by omega)
      have g2 : wr.cell? ⟨g, i * 5 + 2, none⟩ = some (.int .i64 (p.cnt : Int)) := hgc 2 (by omega)
      have g3 : wr.cell? ⟨g, i * 5 + 3, none⟩ = some (.int .u64 (p.tag : Int)) := hgc 3 (by omega)
      have g4 : wr.cell? ⟨g, i * 5 + 4, none⟩ = some (.bool p.old) := hgc 4 (by omega)
      obtain ⟨u, hu⟩ : ∃ u, usedS (ps.take i) = u := ⟨_, rfl⟩
      obtain ⟨hh, hhh⟩ : ∃ hh, heldS (ps.take i) = hh := ⟨_, rfl⟩
      have hsum := sums_take (i := i + 1) HS.out.wf
      have hu1 : usedS (ps.take (i + 1)) = u + (if p.cnt = 0 then 0 else p.n) := by rw [hts, usedS_append, hu]; simp [usedS]
      have hh1 : heldS (ps.take (i + 1)) = hh + (if p.cnt = 0 then p.n else 0) := by rw [hts, heldS_append, hhh]; simp [heldS]
      rw [hu1, hh1] at hsum
      have G1 := G.out.1.alloc (.cells (pcA p) 90)
      have hGl := G.out.1.lt
      rw [hu, hhh] at G1
      obtain ⟨f, hf⟩ : ∃ f, r - u - hh = f := ⟨_, rfl⟩
      rw [hf] at G1
      have G2 := G.out.1
      rw [hu, hhh, hf] at G2
      have b0 : wr.cell? ⟨H2 + 1, 0, none⟩ = some (.int .i64 (u : Int)) := G2.cell 0
      have b1 : wr.cell? ⟨H2 + 1, 1, none⟩ = some (.int .i64 (hh : Int)) := G2.cell 1
      have b2 : wr.cell? ⟨H2 + 1, 2, none⟩ = some (.int .i64 (f : Int)) := G2.cell 2
      have bf : ∀ k, wr.frozen? ⟨H2 + 1, k, none⟩ = false := fun k => G2.frozen k
      have bf0 := bf 0
      have bf1 := bf 1
      have bf2 := bf 2
      have hne : wr.heap.size ≠ H2 + 1 := by omega
      have hne2 : H2 + 1 ≠ wr.heap.size := by omega
      have HG := Lib.hid (And.intro G2 G.out.2)
      have Hu := Lib.hid (And.intro hu1 hh1)
      have Hf := Lib.hid hf
      clear G G2 bf hgc hp hts hu hhh G1 hu1 hh1 hf
      by_cases hc0 : p.cnt = 0
      · rw [if_pos hc0, if_pos hc0] at hsum Hu
        have hci : ¬ (0 : Int) < (p.cnt : Int) := by omega
        obtain ⟨f2, hf2⟩ : ∃ f2, f - p.n = f2 := ⟨_, rfl⟩
        have hfn : (f : Int) - (p.n : Int) = (f2 : Int) := by have := Hf.out; omega
        have hf2b : f2 ≤ 1073741824 := by have := Hf.out; omega
        have Hf2 := Lib.hid hf2
        clear hc0 hf2
        go_wp2_with fail
        have x1 := (((HG.out.1.set 2 (.int .i64 (f2 : Int))).set 1 (.int .i64 ((hh : Int) + (p.n : Int)))).alloc (.cells #[.int .i64 (p.at_ : Int), .int .i64 (p.n : Int), .int .i64 (p.cnt : Int), .int .u64 (p.tag : Int), .bool p.old] 90))
        have x2 := setB (setB HG.out.2 (by rw [Hsz0.out]; exact Nat.le_refl _) 2 (.int .i64 (f2 : Int))) (b := H2 + 1) (by rw [Hsz0.out]; exact Nat.le_refl _) 1 (.int .i64 ((hh : Int) + (p.n : Int)))
        refine ⟨⟨i + 1, by go_num, by omega, Lib.hid ⟨?_, x2.alloc x2.size _⟩⟩, by simp [intOf]; omega⟩
        rw [Hu.out.1, Hu.out.2]
        have e1 : (hh : Int) + (p.n : Int) = ((hh + p.n : Nat) : Int) := by omega
        have e2 : r - (u + 0) - (hh + p.n) = f2 := by have := Hf.out; have := Hf2.out; omega
        rw [e2, ← e1]
        exact x1
      · rw [if_neg hc0, if_neg hc0] at hsum Hu
        have hci : (0 : Int) < (p.cnt : Int) := by omega
        obtain ⟨f2, hf2⟩ : ∃ f2, f - p.n = f2 := ⟨_, rfl⟩
        have hfn : (f : Int) - (p.n : Int) = (f2 : Int) := by have := Hf.out; omega
        have hf2b : f2 ≤ 1073741824 := by have := Hf.out; omega
        have Hf2 := Lib.hid hf2
        clear hc0 hf2
        go_wp2_with fail
        have x1 := (((HG.out.1.set 2 (.int .i64 (f2 : Int))).set 0 (.int .i64 ((u : Int) + (p.n : Int)))).alloc (.cells #[.int .i64 (p.at_ : Int), .int .i64 (p.n : Int), .int .i64 (p.cnt : Int), .int .u64 (p.tag : Int), .bool p.old] 90))
        have x2 := setB (setB HG.out.2 (by rw [Hsz0.out]; exact Nat.le_refl _) 2 (.int .i64 (f2 : Int))) (b := H2 + 1) (by rw [Hsz0.out]; exact Nat.le_refl _) 0 (.int .i64 ((u : Int) + (p.n : Int)))
        refine ⟨⟨i + 1, by go_num, by omega, Lib.hid ⟨?_, x2.alloc x2.size _⟩⟩, by simp [intOf]; omega⟩
        rw [Hu.out.1, Hu.out.2]
        have e1 : (u : Int) + (p.n : Int) = ((u + p.n : Nat) : Int) := by omega
        have e2 : r - (u + p.n) - (hh + 0) = f2 := by have := Hf.out; have := Hf2.out; omega
        rw [e2, ← e1]
        exact x1
    · obtain rfl : i = N := by omega
      have G1 := G.out.1
      rw [List.take_of_length_le (by rw [HN.out]; exact Nat.le_refl _)] at G1
      obtain ⟨u, hu⟩ : ∃ u, usedS ps = u := ⟨_, rfl⟩
      obtain ⟨hh, hhh⟩ : ∃ hh, heldS ps = hh := ⟨_, rfl⟩
      obtain ⟨f, hf⟩ : ∃ f, r - u - hh = f := ⟨_, rfl⟩
      rw [hu, hhh, hf] at G1
      have b0 : wr.cell? ⟨H2 + 1, 0, none⟩ = some (.int .i64 (u : Int)) := G1.cell 0
      have b1 : wr.cell? ⟨H2 + 1, 1, none⟩ = some (.int .i64 (hh : Int)) := G1.cell 1
      have b2 : wr.cell? ⟨H2 + 1, 2, none⟩ = some (.int .i64 (f : Int)) := G1.cell 2
      have X1 := Hx0.out.2.1.below G.out.2 (by rw [Hsz0.out]; omega)
      have c0 : wr.cell? ⟨H2, 0, none⟩ = some (.int .i64 0) := X1.cell 0
      have c1 : wr.cell? ⟨H2, 1, none⟩ = some (.int .i64 0) := X1.cell 1
      have c2 : wr.cell? ⟨H2, 2, none⟩ = some (.int .i64 0) := X1.cell 2
      have f0 : wr.frozen? ⟨H2, 0, none⟩ = false := X1.frozen 0
      have f1 : wr.frozen? ⟨H2, 1, none⟩ = false := X1.frozen 1
      have f2 : wr.frozen? ⟨H2, 2, none⟩ = false := X1.frozen 2
      have X2 := ((X1.set 0 (.int .i64 (u : Int))).set 1 (.int .i64 (hh : Int))).set 2 (.int .i64 (f : Int))
      have d0 : (((wr.setCell ⟨H2, 0, none⟩ (.int .i64 (u : Int))).setCell ⟨H2, 1, none⟩ (.int .i64 (hh : Int))).setCell ⟨H2, 2, none⟩ (.int .i64 (f : Int))).cell? ⟨H2, 0, none⟩ = some (.int .i64 (u : Int)) := X2.cell 0
      have d1 : (((wr.setCell ⟨H2, 0, none⟩ (.int .i64 (u : Int))).setCell ⟨H2, 1, none⟩ (.int .i64 (hh : Int))).setCell ⟨H2, 2, none⟩ (.int .i64 (f : Int))).cell? ⟨H2, 1, none⟩ = some (.int .i64 (hh : Int)) := X2.cell 1
      have d2 : (((wr.setCell ⟨H2, 0, none⟩ (.int .i64 (u : Int))).setCell ⟨H2, 1, none⟩ (.int .i64 (hh : Int))).setCell ⟨H2, 2, none⟩ (.int .i64 (f : Int))).cell? ⟨H2, 2, none⟩ = some (.int .i64 (f : Int)) := X2.cell 2
      have HB := Lib.hid (show Below w.heap.size w (((wr.setCell ⟨H2, 0, none⟩ (.int .i64 (u : Int))).setCell ⟨H2, 1, none⟩ (.int .i64 (hh : Int))).setCell ⟨H2, 2, none⟩ (.int .i64 (f : Int))) from
        setB (setB (setB (Hx0.out.1.trans (G.out.2.mono (by rw [Hsz0.out, HH2.out]; omega))) (by rw [HH2.out]; exact Nat.le_refl _) 0 _) (by rw [HH2.out]; exact Nat.le_refl _) 1 _) (by rw [HH2.out]; exact Nat.le_refl _) 2 _)
      have HU := Lib.hid (And.intro hu (And.intro hhh hf))
      clear G G1 X1 X2 hu hhh hf
      go_wp2_with fail
      exact bodyPost_ret (v := .agg #[.int .i64 (u : Int), .int .i64 (hh : Int), .int .i64 (f : Int)]) (by simp [results, Tryd.results27, go_sem, d0, d1, d2]) rfl ⟨by rw [HU.out.1, HU.out.2.1, HU.out.2.2], HB.out⟩
set_option maxHeartbeats 1000000 in
theorem pRows_calls (w : World) (B R : Nat) (v : Value) (r : Nat) (ps : List Pc) (h : Sp w B R v r ps) :
    Calls Tryd.prog 11 #[.agg #[.pointer (some ⟨R, 0, none⟩)]] w fun e w' => e = .returned (.agg #[.int .i64 (usedS ps : Int), .int .i64 (heldS ps : Int), .int .i64 ((r - usedS ps - heldS ps : Nat) : Int)]) ∧ Below w.heap.size w w' := by
  have Hq := Lib.hid (fun W h => rows_calls W B R v r ps h)
  have HS := Lib.hid h
  generalize usedS ps = u at *
  generalize heldS ps = hh at *
  generalize r - u - hh = f at *
  clear h
  go_enter Tryd.func11, Tryd.ntmps11
  go_wp2_with fail
  obtain ⟨W0, hW0⟩ : ∃ W0, (w.alloc (.cells #[.pointer (some ⟨R, 0, none⟩)] 26)).alloc (.cells #[.int .i64 0, .int .i64 0, .int .i64 0] 36) = W0 := ⟨_, rfl⟩
  have hb0 : Below w.heap.size w W0 := by rw [← hW0]; exact ((Below.refl _ _).alloc (Nat.le_refl _) _).alloc (by simp) _
  have hx0 : Bx W0 (w.heap.size + 1) 36 #[.int .i64 0, .int .i64 0, .int .i64 0] := by
    have := Bx.new (w.alloc (.cells #[.pointer (some ⟨R, 0, none⟩)] 26)) 36 #[.int .i64 0, .int .i64 0, .int .i64 0]
    rw [World.size_alloc, hW0] at this
    exact this
  rw [hW0]
  clear hW0
  refine (Hq.out W0 (HS.out.below hb0)).mono ?_
  rintro e W1 ⟨rfl, hb1⟩
  have X1 := hx0.below hb1 hx0.lt
  have HB := Lib.hid (show Below w.heap.size w W1 from hb0.trans (hb1.mono hb0.size))
  obtain ⟨H2, hH2⟩ : ∃ H2, w.heap.size + 1 = H2 := ⟨_, rfl⟩
  have HH2 := Lib.hid hH2
  rw [hH2] at X1 ⊢
  have c0 : W1.cell? ⟨H2, 0, none⟩ = some (.int .i64 0) := X1.cell 0
  have c1 : W1.cell? ⟨H2, 1, none⟩ = some (.int .i64 0) := X1.cell 1
  have c2 : W1.cell? ⟨H2, 2, none⟩ = some (.int .i64 0) := X1.cell 2
  have f0 : W1.frozen? ⟨H2, 0, none⟩ = false := X1.frozen 0
  have f1 : W1.frozen? ⟨H2, 1, none⟩ = false := X1.frozen 1
  have f2 : W1.frozen? ⟨H2, 2, none⟩ = false := X1.frozen 2
  have X2 := ((X1.set 0 (.int .i64 (u : Int))).set 1 (.int .i64 (hh : Int))).set 2 (.int .i64 (f : Int))
  have d0 : (((W1.setCell ⟨H2, 0, none⟩ (.int .i64 (u : Int))).setCell ⟨H2, 1, none⟩ (.int .i64 (hh : Int))).setCell ⟨H2, 2, none⟩ (.int .i64 (f : Int))).cell? ⟨H2, 0, none⟩ = some (.int .i64 (u : Int)) := X2.cell 0
  have d1 : (((W1.setCell ⟨H2, 0, none⟩ (.int .i64 (u : Int))).setCell ⟨H2, 1, none⟩ (.int .i64 (hh : Int))).setCell ⟨H2, 2, none⟩ (.int .i64 (f : Int))).cell? ⟨H2, 1, none⟩ = some (.int .i64 (hh : Int)) := X2.cell 1
  have d2 : (((W1.setCell ⟨H2, 0, none⟩ (.int .i64 (u : Int))).setCell ⟨H2, 1, none⟩ (.int .i64 (hh : Int))).setCell ⟨H2, 2, none⟩ (.int .i64 (f : Int))).cell? ⟨H2, 2, none⟩ = some (.int .i64 (f : Int)) := X2.cell 2
  clear hb1 hx0 hb0 X1 X2 hH2
  go_wp2_with fail
  exact bodyPost_ret (v := .agg #[.int .i64 (u : Int), .int .i64 (hh : Int), .int .i64 (f : Int)]) (by simp [results, Tryd.results11, go_sem, d0, d1, d2]) rfl ⟨rfl, setB (setB (setB HB.out (by have := HH2.out; omega) 0 _) (by have := HH2.out; omega) 1 _) (by have := HH2.out; omega) 2 _⟩
end Go.Proofs.YtgkamdgegfioiaaDoor
