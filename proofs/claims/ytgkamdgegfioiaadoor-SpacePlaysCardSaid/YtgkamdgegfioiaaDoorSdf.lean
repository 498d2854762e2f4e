/- The walks of slices.IndexFunc and slices.DeleteFunc at pieces, with Turn's test. -/
import Derived.Test.YtgkamdgegfioiaaDoorSdp
import Derived.Test.YtgkamdgegfioiaaDoorSpr
import Derived.Deep.MidRow
namespace Go.Proofs.YtgkamdgegfioiaaDoor
open Go.RowKit
set_option linter.unusedSimpArgs false
set_option linter.unusedVariables false
set_option maxHeartbeats 1000000 in
theorem turn1_calls (p : Pc) (w : World) : Calls Tryd.prog 58 #[.agg #[.int .i64 (p.at_ : Int), .int .i64 (p.n : Int), .int .i64 (p.cnt : Int), .int .u64 (p.tag : Int), .bool p.old]] w fun e w' => e = .returned (.bool (decide (p.cnt = 0))) ∧ w' = w.alloc (.cells (pcA p) 90) := by
  obtain ⟨a, n, c, t, o⟩ := p
  obtain ⟨b, hb⟩ : ∃ b, decide (c = 0) = b := ⟨_, rfl⟩
  have hb2 : ((c : Int) == 0) = b := by
    rw [← hb]
    by_cases h : c = 0
    · subst h; rfl
    · rw [decide_eq_false h, beq_eq_false_iff_ne]; omega
  have HB := Lib.hid hb
  show Calls _ _ _ _ fun e w' => e = .returned (.bool (decide (c = 0))) ∧ _
  rw [hb]
  clear hb
  go_enter Tryd.func58, Tryd.ntmps58
  go_wp2_with fail
  go_ret
  exact ⟨by rw [← hb2]; rfl, rfl⟩
theorem live_self {ps : List Pc} (h : ∀ p ∈ ps, p.cnt ≠ 0) : live ps = ps := List.filter_eq_self.2 (fun p hp => by simpa using h p hp)
def IfPost (ps : List Pc) (r : Int) : Prop := (r = -1 ∧ ∀ p ∈ ps, p.cnt ≠ 0) ∨ ∃ (i : Nat) (hi : i < ps.length), r = (i : Int) ∧ (∀ p ∈ ps.take i, p.cnt ≠ 0) ∧ ps[i].cnt = 0
set_option maxHeartbeats 4000000 in
set_option maxRecDepth 100000 in
theorem indexf_calls (w : World) (A : Option Addr) (c : Nat) (ps : List Pc) (hr : RdS w A ps) (hn : ps.length ≤ 1073741824) (hc : ps.length ≤ c) (hcm : c ≤ maxLen) :
    Calls Tryd.prog 73 #[.slice A ps.length c, .func (.func 58) #[] #[]] w fun e w' => (∃ r : Int, e = .returned (.int .i64 r) ∧ IfPost ps r) ∧ Below w.heap.size w w' := by
  obtain ⟨N, hN⟩ : ∃ N, ps.length = N := ⟨_, rfl⟩
  have h0 := Lib.hid (show (∀ p ∈ ps.take 0, p.cnt ≠ 0) ∧ Below w.heap.size w w from ⟨fun p hp => by simp at hp, Below.refl _ _⟩)
  have HA := Lib.hid (And.intro hr hN)
  rw [hN] at hn hc ⊢
  have hc3 : c ≤ 9223372036854775807 := by unfold maxLen at hcm; omega
  clear hr hN hcm
  go_enter Tryd.func73, Tryd.ntmps73
  go_wp2_with fail
  go_loopw [8] (fun t8 wr => ∃ i : Nat, t8 = .int .i64 (i : Int) ∧ i ≤ N ∧ Hid ((∀ p ∈ ps.take i, p.cnt ≠ 0) ∧ Below w.heap.size w wr)) (fun t8 _ => N - (intOf t8).toNat)
  case atStart => exact ⟨0, rfl, by omega, h0⟩
  case round =>
    clear h0
    rename World => wr
    obtain ⟨i, rfl, hi, H⟩ := hrel
    obtain ⟨hr, hN⟩ := HA.out
    by_cases hlt : i < N
    · have hlti : (i : Int) < (N : Int) := by omega
      have hlx : i < ps.length := by omega
      obtain ⟨g, hA, hgw, hgf, hgc⟩ := (hr.below' H.out.2) i hlx
      subst hA
      have hts := take_snocP (ps := ps) (i := i) hlx
      obtain ⟨p, hp⟩ : ∃ p, ps[i] = p := ⟨_, rfl⟩
      rw [hp] at hgc hts
      have g0 : wr.cell? ⟨g, i * 5, none⟩ = some (.int .i64 (p.at_ : Int)) := hgc 0 (by omega)
      have g1 : wr.cell? ⟨g, i * 5 + 1, none⟩ = some (.int .i64 (p.n : Int)) := hgc 1 (by omega)
      have g2 : wr.cell? ⟨g, i * 5 + 2, none⟩ = some (.int .i64 (p.cnt : Int)) := hgc 2 (by omega)
      have g3 : wr.cell? ⟨g, i * 5 + 3, none⟩ = some (.int .u64 (p.tag : Int)) := hgc 3 (by omega)
      have g4 : wr.cell? ⟨g, i * 5 + 4, none⟩ = some (.bool p.old) := hgc 4 (by omega)
      have hb2 : Below w.heap.size w (wr.alloc (.cells (pcA p) 90)) := H.out.2.alloc H.out.2.size _
      have hf := fun W => turn1_calls p W
      by_cases hc0 : p.cnt = 0
      · rw [decide_eq_true hc0] at hf
        have hf := Lib.hid hf
        have HP := Lib.hid (show IfPost ps (i : Int) ∧ Below w.heap.size w (wr.alloc (.cells (pcA p) 90)) from ⟨.inr ⟨i, hlx, rfl, H.out.1, by rw [hp]; exact hc0⟩, hb2⟩)
        clear H hr hN hgc hp hb2 hc0 HA hts
        go_wp2_with fail
        refine (hf.out _).mono ?_
        rintro e w' ⟨rfl, rfl⟩
        go_wp2_with fail
        go_ret
        exact ⟨⟨(i : Int), rfl, HP.out.1⟩, HP.out.2⟩
      · rw [decide_eq_false hc0] at hf
        have hf := Lib.hid hf
        have HN := Lib.hid (show (∀ q ∈ ps.take (i + 1), q.cnt ≠ 0) ∧ Below w.heap.size w (wr.alloc (.cells (pcA p) 90)) from by
          refine ⟨fun q hq => ?_, hb2⟩
          rw [hts] at hq
          rcases List.mem_append.1 hq with h | h
          · exact H.out.1 q h
          · rw [List.mem_singleton.1 h]; exact hc0)
        clear H hr hN hgc hp hb2 hc0 HA hts
        go_wp2_with fail
        refine (hf.out _).mono ?_
        rintro e w' ⟨rfl, rfl⟩
        go_wp2_with fail
        exact ⟨⟨i + 1, by go_num, by omega, HN⟩, by simp [intOf]; omega⟩
    · obtain rfl : i = N := by omega
      have HP := Lib.hid (show IfPost ps (-1) ∧ Below w.heap.size w wr from ⟨.inl ⟨rfl, fun p hp => H.out.1 p (by rw [List.take_of_length_le (by omega)]; exact hp)⟩, H.out.2⟩)
      clear H hr hN HA
      go_wp2_with fail
      go_ret
      exact ⟨⟨-1, rfl, HP.out.1⟩, HP.out.2⟩
/-- W' is w with a piece stored -/
def StP (w : World) (g off : Nat) (p : Pc) (W' : World) : Prop := w.there g off 5 ∧ w.setCells g off (pcL [p]) = W'
theorem wpList_store_pc {P : Program} (hP : (P.info? 90).map (·.size) = some 5) {ops : Array Oper} {rest : List Oper} {o : Oper} {a : Act} {w W' : World} {Q : Exit → Act → World → Prop} {g off : Nat} {p : Pc} (HW : Hid (StP w g off p W')) (hgd : o.guard = none) (x y : Operand) (ho : o.op = .store 90 x y)
    (hx : a.eval x = .pointer (some ⟨g, off, none⟩)) (hy : a.eval y = .agg #[.int .i64 (p.at_ : Int), .int .i64 (p.n : Int), .int .i64 (p.cnt : Int), .int .u64 (p.tag : Int), .bool p.old])
    (h : wpList P ops Q rest (a.put o.dst undef) W') : wpList P ops Q (o :: rest) a w := by
  obtain ⟨h1, h2⟩ := HW.out
  subst h2
  exact wpList_store_mid hgd _ x y ho g off (pcL [p]).toArray hx hy h1 hP (all_oneCell_toArray (pcL_cell [p])) h
/-- how far DeleteFunc has come: the row g holds what stays, then what is yet to be looked at -/
structure DfI (w wr : World) (g c : Nat) (ps : List Pc) (i j : Nat) : Prop where
  len : (live (ps.take j)).length = i
  grown : w.grownBy wr (some g)
  row : ∃ L : List Value, wr.heap[g]? = some (.cells L.toArray 90 (0, 0)) ∧ L.length = c * 5 ∧ L.take (i * 5) = pcL (live (ps.take j)) ∧ (L.drop (j * 5)).take ((ps.length - j) * 5) = pcL (ps.drop j)
theorem tail_step {L : List Value} {ps : List Pc} {j : Nat} (hj : j < ps.length) (h : (L.drop (j * 5)).take ((ps.length - j) * 5) = pcL (ps.drop j)) : (L.drop ((j + 1) * 5)).take ((ps.length - (j + 1)) * 5) = pcL (ps.drop (j + 1)) := by
  have h1 := congrArg (List.drop (1 * 5)) h
  rw [pcL_drop, List.drop_drop, List.drop_take, List.drop_drop] at h1
  rw [← h1, show j * 5 + 1 * 5 = (j + 1) * 5 by omega]
  congr 1
  omega
theorem grown_alloc {w wr : World} {row : Option Nat} (h : w.grownBy wr row) (o : Obj) : w.grownBy (wr.alloc o) row :=
  ⟨h.os, h.tape, h.output, by rw [World.size_alloc]; exact Nat.le_trans h.size (Nat.le_succ _), fun k hk hne => (Below.heap_alloc _ _ _ (Nat.lt_of_lt_of_le hk h.size)).trans (h.block k hk hne)⟩
theorem DfI.skip {w wr : World} {g c i j : Nat} {ps : List Pc} (h : DfI w wr g c ps i j) (hj : j < ps.length) (hc : ps[j].cnt = 0) (o1 o2 : Obj) : DfI w ((wr.alloc o1).alloc o2) g c ps i (j + 1) := by
  obtain ⟨L, hL, h5, h6, h7⟩ := h.row
  have hg := (Array.getElem?_eq_some_iff.1 hL).1
  have hl : live (ps.take (j + 1)) = live (ps.take j) := by
    rw [take_snocP hj, live_append]
    unfold live
    simp [hc]
  refine ⟨by rw [hl]; exact h.len, grown_alloc (grown_alloc h.grown _) _, L, (Below.heap_alloc _ _ _ (by rw [World.size_alloc]; omega)).trans ((Below.heap_alloc _ _ _ hg).trans hL), h5, by rw [hl]; exact h6, tail_step hj h7⟩
theorem DfI.keep {w wr : World} {g c i j : Nat} {ps : List Pc} {L : List Value} (h : DfI w wr g c ps i j) (hj : j < ps.length) (hc : ps[j].cnt ≠ 0) (hij : i ≤ j) (hpc : ps.length ≤ c) (V : World) (hgV : w.grownBy V (some g)) (hV : V.heap[g]? = some (.cells L.toArray 90 (0, 0)))
    (h5 : L.length = c * 5) (h6 : L.take (i * 5) = pcL (live (ps.take j))) (h7 : (L.drop (j * 5)).take ((ps.length - j) * 5) = pcL (ps.drop j)) : DfI w (V.setCells g (i * 5) (pcL [ps[j]])) g c ps (i + 1) (j + 1) := by
  have hlen : (pcL [ps[j]]).length = 5 := rfl
  rw [setCells_spV _ _ L V hV (by rw [hlen]; omega)]
  have hl : live (ps.take (j + 1)) = live (ps.take j) ++ [ps[j]] := by
    rw [take_snocP hj, live_append]
    unfold live
    simp [hc]
  refine ⟨by rw [hl, List.length_append, h.len]; rfl, ⟨hgV.os, hgV.tape, hgV.output, by simpa using hgV.size, fun k hk hne => (setRow_other _ _ _ _ (fun e => hne (by rw [e]))).trans (hgV.block k hk hne)⟩, _, setRow_heap _ _ _ _ _ _ hV, by rw [spV_len (by rw [hlen]; omega)]; exact h5, ?_, ?_⟩
  · have e := spV_take (L := L) (o := i * 5) (vs := pcL [ps[j]]) (by omega)
    rw [hlen, show i * 5 + 5 = (i + 1) * 5 by omega] at e
    rw [e, h6, hl, pcL_append]
  · have e : (spV L (i * 5) (pcL [ps[j]])).drop ((j + 1) * 5) = L.drop ((j + 1) * 5) := by
      unfold spV
      rw [List.drop_append, List.drop_of_length_le (by rw [List.length_append, List.length_take, hlen]; omega), List.nil_append, List.drop_drop, hlen]
      congr 1
      rw [List.length_append, List.length_take, hlen]
      omega
    rw [e]
    exact tail_step hj h7
set_option maxHeartbeats 4000000 in
set_option maxRecDepth 100000 in
theorem deletef_calls (w : World) (B : Nat) (v : Value) (ps : List Pc) (h : OwnS w B v ps) (hn : ps.length ≤ 1073741824) :
    Calls Tryd.prog 57 #[v, .func (.func 58) #[] #[]] w fun e w' => InsPost w B v (live ps) e w' := by
  obtain ⟨A, c, hv, hc1, hc2, hrd⟩ := h.rd
  have hq := indexf_calls w A c ps hrd hn hc1 hc2
  obtain ⟨N, hN⟩ : ∃ N, ps.length = N := ⟨_, rfl⟩
  have Hq := Lib.hid hq
  have HA := Lib.hid (And.intro h hN)
  rw [hN] at hv hc1 hn Hq
  have hc3 : c ≤ 9223372036854775807 := by unfold maxLen at hc2; omega
  subst hv
  clear hq hrd h hN hc2
  go_enter Tryd.func57, Tryd.ntmps57
  go_wp2_with fail
  refine (Hq.out).mono ?_
  rintro e w1 ⟨⟨r, rfl, hpost⟩, hb⟩
  rcases hpost with ⟨rfl, hall⟩ | ⟨i, hi, rfl, hbef, hat⟩
  · have HP := Lib.hid (show InsPost w B (.slice A N c) (live ps) (.returned (.slice A N c)) w1 from by
      rw [live_self hall]
      exact ⟨_, rfl, HA.out.1.below hb, ⟨hb.os, hb.tape, hb.output, hb.size, fun k hk _ => hb.block k hk⟩, .inl rfl⟩)
    clear Hq hall hb HA
    go_wp2_with fail
    go_ret
    exact HP.out
  · obtain ⟨hown, hN⟩ := HA.out
    obtain ⟨A', c', he, -, hcm, h3⟩ := hown
    injection he with e1 e2 e3
    subst e1
    subst e3
    obtain ⟨g, L, rfl, hBg, hL, h5, h6⟩ : ∃ (g' : Nat) (L : List Value), A = some ⟨g', 0, none⟩ ∧ B ≤ g' ∧ w.heap[g']? = some (.cells L.toArray 90 (0, 0)) ∧ L.length = c * 5 ∧ L.take (ps.length * 5) = pcL ps := by
      rcases h3 with rfl | h3
      · omega
      · exact h3
    have hgw := (Array.getElem?_eq_some_iff.1 hL).1
    have hts := take_snocP (ps := ps) (i := i) hi
    have hlt0 : live (ps.take (i + 1)) = ps.take i := by
      rw [hts, live_append, live_self hbef]
      unfold live
      simp [hat]
    have h0 := Lib.hid (show DfI w w1 g c ps i (i + 1) from by
      refine ⟨by rw [hlt0, List.length_take]; omega, ⟨hb.os, hb.tape, hb.output, hb.size, fun k hk _ => hb.block k hk⟩, L, (hb.block g hgw).trans hL, h5, ?_, ?_⟩
      · rw [hlt0, ← pcL_take, ← h6, List.take_take, Nat.min_eq_left (by omega)]
      · rw [← pcL_drop, ← h6, List.drop_take]
        congr 1
        omega)
    have hiN : i < N := by omega
    have hcp : ¬ c = 0 := by omega
    have hni : ((i : Int) == -1) = false := by rw [beq_eq_false_iff_ne]; omega
    have Hg := Lib.hid (And.intro hgw (And.intro hN (And.intro hBg hcm)))
    clear Hq hbef hat hb HA h3 hL h5 h6 hgw hts hlt0 hi hN e2 hBg hcm
    go_wp2_with fail
    go_loopw [5, 6] (fun t5 t6 wr => ∃ i j : Nat, t5 = .int .i64 (i : Int) ∧ t6 = .int .i64 (j : Int) ∧ i ≤ j ∧ j ≤ N ∧ Hid (DfI w wr g c ps i j)) (fun _ t6 _ => N - (intOf t6).toNat)
    case atStart => exact ⟨i, i + 1, rfl, by go_num, by omega, by omega, h0⟩
    case round =>
      clear h0 hiN
      rename World => wr
      obtain ⟨i, j, rfl, rfl, hij, hj, H⟩ := hrel
      by_cases hlt : j < N
      · have hlti : (j : Int) < (N : Int) := by omega
        have hlx : j < ps.length := by have := Hg.out.2.1; omega
        obtain ⟨L, hL, h5, h6, h7⟩ := H.out.row
        obtain ⟨p, hp⟩ : ∃ p, ps[j] = p := ⟨_, rfl⟩
        have hcell : ∀ k, k < 5 → wr.cell? ⟨g, j * 5 + k, none⟩ = (pcA p)[k]? := fun k hk => by
          rw [cell_of_row _ _ _ _ _ _ hL, ← hp, ← pcL_at ps j k hlx hk]
          have e1 : (pcL ps)[j * 5 + k]? = (pcL (ps.drop j))[k]? := by rw [← pcL_drop, List.getElem?_drop]
          rw [e1, ← h7, List.getElem?_take_of_lt (by omega), List.getElem?_drop]
          simp
        have g0 : wr.cell? ⟨g, j * 5, none⟩ = some (.int .i64 (p.at_ : Int)) := hcell 0 (by omega)
        have g1 : wr.cell? ⟨g, j * 5 + 1, none⟩ = some (.int .i64 (p.n : Int)) := hcell 1 (by omega)
        have g2 : wr.cell? ⟨g, j * 5 + 2, none⟩ = some (.int .i64 (p.cnt : Int)) := hcell 2 (by omega)
        have g3 : wr.cell? ⟨g, j * 5 + 3, none⟩ = some (.int .u64 (p.tag : Int)) := hcell 3 (by omega)
        have g4 : wr.cell? ⟨g, j * 5 + 4, none⟩ = some (.bool p.old) := hcell 4 (by omega)
        have hgr := (Array.getElem?_eq_some_iff.1 hL).1
        have hf := fun W => turn1_calls p W
        obtain ⟨b, hbb⟩ : ∃ b, wr.heap.size = b := ⟨_, rfl⟩
        by_cases hc0 : p.cnt = 0
        · rw [decide_eq_true hc0] at hf
          have hf := Lib.hid hf
          have HN := Lib.hid (show DfI w ((wr.alloc (.cells (pcA p) 90)).alloc (.cells (pcA p) 90)) g c ps i (j + 1) from H.out.skip hlx (by rw [hp]; exact hc0) _ _)
          clear hL h5 h6 h7 hcell hc0 H hp
          go_wp2_with fail
          refine (hf.out _).mono ?_
          rintro e w' ⟨rfl, rfl⟩
          go_wp2_with fail
          exact ⟨⟨i, j + 1, rfl, by go_num, by omega, by omega, HN⟩, by simp [intOf]; omega⟩
        · rw [decide_eq_false hc0] at hf
          have hf := Lib.hid hf
          have hiNi : (i : Int) < (N : Int) := by omega
          obtain ⟨V, hV⟩ : ∃ V, (wr.alloc (.cells #[.int .i64 (p.at_ : Int), .int .i64 (p.n : Int), .int .i64 (p.cnt : Int), .int .u64 (p.tag : Int), .bool p.old] 90)).alloc (.cells (pcA p) 90) = V := ⟨_, rfl⟩
          have hVb : V.heap[b]? = some (.cells #[.int .i64 (p.at_ : Int), .int .i64 (p.n : Int), .int .i64 (p.cnt : Int), .int .u64 (p.tag : Int), .bool p.old] 90 (0, 0)) := by
            rw [← hV, ← hbb]
            exact (Below.heap_alloc _ _ _ (by simp)).trans (heap_alloc_new wr _)
          have hVg : V.heap[g]? = some (.cells L.toArray 90 (0, 0)) := by
            rw [← hV]
            exact (Below.heap_alloc _ _ _ (by simp; omega)).trans ((Below.heap_alloc _ _ _ hgr).trans hL)
          have hst : V.there g (i * 5) 5 := fun k hk => ⟨by rw [cell_of_row _ _ _ _ _ _ hVg]; simp; have := Hg.out.2.1; omega, frozen_of_row _ _ _ _ _ hVg⟩
          obtain ⟨W', hW'⟩ : ∃ W', V.setCells g (i * 5) (pcL [p]) = W' := ⟨_, rfl⟩
          have HW := Lib.hid (show StP V g (i * 5) p W' from ⟨hst, hW'⟩)
          have HN := Lib.hid (show DfI w W' g c ps (i + 1) (j + 1) from by
            have hk := H.out.keep hlx (by rw [hp]; exact hc0) hij (by have := Hg.out.2.1; omega) V (by rw [← hV]; exact grown_alloc (grown_alloc H.out.grown _) _) hVg h5 h6 h7
            rw [hp, hW'] at hk
            exact hk)
          have e0 : V.cell? ⟨b, 0, none⟩ = some (.int .i64 (p.at_ : Int)) := by rw [cell_of_row _ _ _ _ _ _ hVb]; rfl
          have e1 : V.cell? ⟨b, 1, none⟩ = some (.int .i64 (p.n : Int)) := by rw [cell_of_row _ _ _ _ _ _ hVb]; rfl
          have e2 : V.cell? ⟨b, 2, none⟩ = some (.int .i64 (p.cnt : Int)) := by rw [cell_of_row _ _ _ _ _ _ hVb]; rfl
          have e3 : V.cell? ⟨b, 3, none⟩ = some (.int .u64 (p.tag : Int)) := by rw [cell_of_row _ _ _ _ _ _ hVb]; rfl
          have e4 : V.cell? ⟨b, 4, none⟩ = some (.bool p.old) := by rw [cell_of_row _ _ _ _ _ _ hVb]; rfl
          clear hL h5 h6 h7 hcell hc0 H hp hVb hVg hst hW'
          go_wp2_with fail
          refine (hf.out _).mono ?_
          rintro e w' ⟨rfl, rfl⟩
          rw [hV]
          go_wp2_with (refine wpList_store_pc (by kernel_rfl) HW rfl (.tmp 33) (.tmp 32) rfl rfl rfl ?_)
          exact ⟨⟨i + 1, j + 1, by go_num, by go_num, by omega, by omega, HN⟩, by simp [intOf]; omega⟩
      · obtain rfl : j = N := by omega
        obtain ⟨L, hL, h5, h6, h7⟩ := H.out.row
        obtain ⟨hgw, hN, hBg, hcm⟩ := Hg.out
        have hl : ps.take j = ps := List.take_of_length_le (by omega)
        rw [hl] at h6
        have hln := H.out.len
        rw [hl] at hln
        have hu := fun W => ps_upto (some ⟨g, 0, none⟩) j c i (by omega) W
        have hpost : ∀ (W : World) (L2 : List Value), w.grownBy W (some g) → W.heap[g]? = some (.cells L2.toArray 90 (0, 0)) → L2.length = c * 5 → L2.take (i * 5) = pcL (live ps) → InsPost w B (.slice (some ⟨g, 0, none⟩) j c) (live ps) (.returned (.slice (some ⟨g, 0, none⟩) i c)) W := by
          intro W L2 a1 a2 a3 a4
          have hro : ∀ n, rowOf (.slice (some ⟨g, 0, none⟩) n c) = if c = 0 then none else some g := fun _ => rfl
          refine ⟨_, rfl, ⟨_, c, by rw [hln], by omega, hcm, .inr ⟨g, L2, rfl, hBg, a2, a3, by rw [hln]; exact a4⟩⟩, ?_, .inl (by rw [hro, hro])⟩
          rw [hro, if_neg hcp]
          exact a1
        have hgr := H.out.grown
        have hji : ¬ (j : Int) < (j : Int) := by omega
        have hij2 : (i : Int) ≤ (j : Int) := by omega
        rcases Nat.lt_or_ge i j with hlt2 | hge2
        · have hfr := fun W => ps_from g j c i (by omega) hc1 (by omega) W
          have hcl := run_clearS wr 0 g (i * 5) (j - i) (c - i) L hL (by omega) (by omega)
          have RC := Lib.hid hcl
          have HP := Lib.hid (hpost (wr.setRow g (spV L (i * 5) (pcL (List.replicate (j - i) z5))).toArray) _ ⟨hgr.os, hgr.tape, hgr.output, by simpa using hgr.size, fun k hk hne => (setRow_other _ _ _ _ (fun e => hne (by rw [e]))).trans (hgr.block k hk hne)⟩ (setRow_heap _ _ _ _ _ _ hL) (by rw [spV_len (by rw [pcL_len, List.length_replicate]; omega)]; exact h5) (by
            rw [← h6]
            unfold spV
            rw [List.append_assoc, List.take_left' (by rw [List.length_take]; omega)]))
          clear hcl hpost hL h5 h6 h7 hgr H hln hl hgw hN hBg hcm Hg
          go_wp2_with fail
          rw [RC.out]
          go_wp2_with fail
          go_ret
          exact HP.out
        · obtain rfl : i = j := by omega
          obtain ⟨X, hX⟩ := ps_tail (some ⟨g, 0, none⟩) i c i (Nat.le_refl _) hc1
          rw [Nat.sub_self] at hX
          have RC := Lib.hid (run_clear0 wr 0 X (c - i))
          have HP := Lib.hid (hpost wr L hgr hL h5 h6)
          clear hpost hL h5 h6 h7 hgr H hln hl hgw hN hBg hcm Hg
          go_wp2_with fail
          rw [RC.out]
          go_wp2_with fail
          go_ret
          exact HP.out
end Go.Proofs.YtgkamdgegfioiaaDoor
