/- The walks of cmp.isNaN, cmp.Compare at int, of find's comparison, of slices.BinarySearchFunc at pieces. -/
import Derived.Test.YtgkamdgegfioiaaDoorStk
namespace Go.Proofs.YtgkamdgegfioiaaDoor
open Go.RowKit
set_option linter.unusedSimpArgs false
set_option linter.unusedVariables false
set_option maxHeartbeats 1000000 in
theorem isNaN_calls (x : Int) (w : World) : Calls Tryd.prog 81 #[.int .i64 x] w fun e w' => e = .returned (.bool false) ∧ w' = w := by
  go_enter Tryd.func81, Tryd.ntmps81
  go_wp2_with fail
  go_ret
  exact ⟨rfl, rfl⟩
def cmpI (x y : Int) : Int := if x < y then -1 else if y < x then 1 else 0
set_option maxHeartbeats 1000000 in
theorem cmp_calls (x y : Int) (w : World) : Calls Tryd.prog 72 #[.int .i64 x, .int .i64 y] w fun e w' => e = .returned (.int .i64 (cmpI x y)) ∧ w' = w := by
  obtain ⟨r, hr⟩ : ∃ r, cmpI x y = r := ⟨_, rfl⟩
  have HR := Lib.hid hr
  rw [hr]
  clear hr
  go_enter Tryd.func72, Tryd.ntmps72
  go_wp2_with fail
  refine (isNaN_calls _ _).mono ?_
  rintro e w1 ⟨rfl, rfl⟩
  go_wp2_with fail
  refine (isNaN_calls _ _).mono ?_
  rintro e w2 ⟨rfl, rfl⟩
  by_cases h1 : x < y
  · have hx := HR.out
    unfold cmpI at hx
    rw [if_pos h1] at hx
    go_wp2_with fail
    go_ret
    subst hx
    exact ⟨rfl, rfl⟩
  · by_cases h2 : y < x
    · have hx := HR.out
      unfold cmpI at hx
      rw [if_neg h1, if_pos h2] at hx
      go_wp2_with fail
      go_ret
      subst hx
      exact ⟨rfl, rfl⟩
    · have hx := HR.out
      unfold cmpI at hx
      rw [if_neg h1, if_neg h2] at hx
      go_wp2_with fail
      go_ret
      subst hx
      exact ⟨rfl, rfl⟩
set_option maxHeartbeats 1000000 in
theorem find1_calls (p : Pc) (k : Int) (w : World) : Calls Tryd.prog 71 #[.agg #[.int .i64 (p.at_ : Int), .int .i64 (p.n : Int), .int .i64 (p.cnt : Int), .int .u64 (p.tag : Int), .bool p.old], .int .i64 k] w fun e w' => e = .returned (.int .i64 (cmpI (p.at_ : Int) k)) ∧ w' = w.alloc (.cells (pcA p) 90) := by
  obtain ⟨a, n, c, t, o⟩ := p
  go_enter Tryd.func71, Tryd.ntmps71
  go_wp2_with fail
  refine (cmp_calls _ _ _).mono ?_
  rintro e w1 ⟨rfl, rfl⟩
  go_wp2_with fail
  go_ret
  exact ⟨rfl, rfl⟩
/-- the order by places -/
def SortedAt (ps : List Pc) : Prop := ∀ (i j : Nat) (hi : i < ps.length) (hj : j < ps.length), i < j → ps[i].at_ < ps[j].at_
theorem Wf.sorted {r : Nat} : ∀ {a : Nat} {ps : List Pc}, Wf r a ps → SortedAt ps
  | _, [], _ => fun i _ hi => absurd hi (by simp)
  | a, p :: ps, h => fun i j hi hj hij => by
    obtain ⟨k, rfl⟩ : ∃ k, j = k + 1 := ⟨j - 1, by omega⟩
    simp only [List.length_cons] at hj
    have hm := (h.2.2.2.2.all ps[k] (List.getElem_mem (by omega))).1
    have h1 := h.2.1
    cases i with
    | zero =>
      simp only [List.getElem_cons_zero, List.getElem_cons_succ]
      unfold Pc.fin at hm
      omega
    | succ i =>
      simp only [List.getElem_cons_succ]
      exact h.2.2.2.2.sorted i k (by simpa using hi) (by omega) (by omega)
/-- what the search finds -/
def BsPost (ps : List Pc) (k : Int) (i : Nat) : Prop := i ≤ ps.length ∧ (∀ j (hj : j < ps.length), j < i → (ps[j].at_ : Int) < k) ∧ (∀ j (hj : j < ps.length), i ≤ j → k ≤ (ps[j].at_ : Int))
def bsHit (ps : List Pc) (k : Int) (i : Nat) : Bool := match ps[i]? with
  | some p => decide ((p.at_ : Int) = k)
  | none => false
set_option maxHeartbeats 4000000 in
set_option maxRecDepth 100000 in
theorem bsf_calls (w : World) (A : Option Addr) (c : Nat) (ps : List Pc) (k : Int) (hr : RdS w A ps) (hs : SortedAt ps) (hn : ps.length ≤ 1073741824) (hc : ps.length ≤ c) (hcm : c ≤ maxLen) :
    Calls Tryd.prog 70 #[.slice A ps.length c, .int .i64 k, .func (.func 71) #[] #[]] w fun e w' => (∃ i : Nat, e = .returned (.tuple #[.int .i64 (i : Int), .bool (bsHit ps k i)]) ∧ BsPost ps k i) ∧ Below w.heap.size w w' := by
  obtain ⟨N, hN⟩ : ∃ N, ps.length = N := ⟨_, rfl⟩
  have h0 := Lib.hid (show (∀ j (hj : j < ps.length), j < 0 → (ps[j].at_ : Int) < k) ∧ (∀ j (hj : j < ps.length), N ≤ j → k ≤ (ps[j].at_ : Int)) ∧ Below w.heap.size w w from ⟨fun j hj h => absurd h (by omega), fun j hj h => absurd h (by omega), Below.refl _ _⟩)
  have HA := Lib.hid (And.intro hr (And.intro hs hN))
  rw [hN] at hn hc ⊢
  have hc3 : c ≤ 9223372036854775807 := by unfold maxLen at hcm; omega
  clear hr hs hN hcm
  go_enter Tryd.func70, Tryd.ntmps70
  go_wp2_with fail
  go_loopw [9, 10] (fun t9 t10 wr => ∃ i j : Nat, t9 = .int .i64 (i : Int) ∧ t10 = .int .i64 (j : Int) ∧ i ≤ j ∧ j ≤ N ∧ Hid ((∀ l (hl : l < ps.length), l < i → (ps[l].at_ : Int) < k) ∧ (∀ l (hl : l < ps.length), j ≤ l → k ≤ (ps[l].at_ : Int)) ∧ Below w.heap.size w wr)) (fun t9 t10 _ => (intOf t10).toNat - (intOf t9).toNat)
  case atStart => exact ⟨0, N, rfl, rfl, by omega, by omega, h0⟩
  case round =>
    clear h0
    rename World => wr
    obtain ⟨i, j, rfl, rfl, hij, hj, H⟩ := hrel
    by_cases hlt : i < j
    · have hlti : (i : Int) < (j : Int) := by omega
      obtain ⟨h, hh⟩ : ∃ h : Nat, ((i : Int) + (j : Int)) / 2 = (h : Int) := ⟨(i + j) / 2, by omega⟩
      have h1 : i ≤ h := by omega
      have h2 : h < j := by omega
      obtain ⟨hr, hs, hN⟩ := HA.out
      obtain ⟨g, hA, hgw, hgf, hgc⟩ := (hr.below' H.out.2.2) h (by omega)
      subst hA
      obtain ⟨p, hp⟩ : ∃ p, ps[h]'(by omega) = p := ⟨_, rfl⟩
      rw [hp] at hgc
      have g0 : wr.cell? ⟨g, h * 5, none⟩ = some (.int .i64 (p.at_ : Int)) := hgc 0 (by omega)
      have g1 : wr.cell? ⟨g, h * 5 + 1, none⟩ = some (.int .i64 (p.n : Int)) := hgc 1 (by omega)
      have g2 : wr.cell? ⟨g, h * 5 + 2, none⟩ = some (.int .i64 (p.cnt : Int)) := hgc 2 (by omega)
      have g3 : wr.cell? ⟨g, h * 5 + 3, none⟩ = some (.int .u64 (p.tag : Int)) := hgc 3 (by omega)
      have g4 : wr.cell? ⟨g, h * 5 + 4, none⟩ = some (.bool p.old) := hgc 4 (by omega)
      have hhN : (h : Int) < (N : Int) := by omega
      have hf := Lib.hid (fun W => find1_calls p k W)
      have hb2 : Below w.heap.size w (wr.alloc (.cells (pcA p) 90)) := H.out.2.2.alloc H.out.2.2.size _
      by_cases hpk : (p.at_ : Int) < k
      · have hc1 : cmpI (p.at_ : Int) k = -1 := by unfold cmpI; rw [if_pos hpk]
        have HN := Lib.hid (show (∀ (l : Nat) (hl : l < ps.length), l < h + 1 → (ps[l].at_ : Int) < k) ∧ (∀ (l : Nat) (hl : l < ps.length), j ≤ l → k ≤ (ps[l].at_ : Int)) ∧ Below w.heap.size w (wr.alloc (.cells (pcA p) 90)) from by
          refine ⟨fun l hl hlh => ?_, H.out.2.1, hb2⟩
          rcases Nat.lt_or_eq_of_le (Nat.le_of_lt_succ hlh) with h3 | h3
          · have := hs l h hl (by omega) h3
            rw [hp] at this
            omega
          · subst h3
            rw [hp]
            exact hpk)
        rw [hc1] at hf
        clear H hr hs hN hgc hp hb2 hc1 hpk HA
        go_wp2_with fail
        refine (hf.out _).mono ?_
        rintro e w' ⟨rfl, rfl⟩
        go_wp2_with fail
        exact ⟨⟨h + 1, j, by go_num, rfl, by omega, by omega, HN⟩, by simp [intOf]; omega⟩
      · have hc1 : ¬ cmpI (p.at_ : Int) k < 0 := by unfold cmpI; rw [if_neg hpk]; split <;> omega
        have HN := Lib.hid (show (∀ (l : Nat) (hl : l < ps.length), l < i → (ps[l].at_ : Int) < k) ∧ (∀ (l : Nat) (hl : l < ps.length), h ≤ l → k ≤ (ps[l].at_ : Int)) ∧ Below w.heap.size w (wr.alloc (.cells (pcA p) 90)) from by
          refine ⟨H.out.1, fun l hl hlh => ?_, hb2⟩
          rcases Nat.lt_or_eq_of_le hlh with h3 | h3
          · have := hs h l (by omega) hl h3
            rw [hp] at this
            omega
          · subst h3
            rw [hp]
            omega)
        obtain ⟨cc, hcc⟩ : ∃ cc, cmpI (p.at_ : Int) k = cc := ⟨_, rfl⟩
        rw [hcc] at hf hc1
        clear H hr hs hN hgc hp hb2 hcc hpk HA
        go_wp2_with fail
        refine (hf.out _).mono ?_
        rintro e w' ⟨rfl, rfl⟩
        go_wp2_with fail
        exact ⟨⟨i, h, rfl, rfl, by omega, by omega, HN⟩, by simp [intOf]; omega⟩
    · obtain rfl : i = j := by omega
      have hlti : ¬ (i : Int) < (i : Int) := by omega
      obtain ⟨hr, hs, hN⟩ := HA.out
      have HB := Lib.hid (show BsPost ps k i from ⟨by omega, fun l hl h => H.out.1 l hl h, fun l hl h => H.out.2.1 l hl h⟩)
      by_cases hiN : i < N
      · have hiNi : (i : Int) < (N : Int) := by omega
        obtain ⟨g, hA, hgw, hgf, hgc⟩ := (hr.below' H.out.2.2) i (by omega)
        subst hA
        obtain ⟨p, hp⟩ : ∃ p, ps[i]'(by omega) = p := ⟨_, rfl⟩
        rw [hp] at hgc
        have g0 : wr.cell? ⟨g, i * 5, none⟩ = some (.int .i64 (p.at_ : Int)) := hgc 0 (by omega)
        have g1 : wr.cell? ⟨g, i * 5 + 1, none⟩ = some (.int .i64 (p.n : Int)) := hgc 1 (by omega)
        have g2 : wr.cell? ⟨g, i * 5 + 2, none⟩ = some (.int .i64 (p.cnt : Int)) := hgc 2 (by omega)
        have g3 : wr.cell? ⟨g, i * 5 + 3, none⟩ = some (.int .u64 (p.tag : Int)) := hgc 3 (by omega)
        have g4 : wr.cell? ⟨g, i * 5 + 4, none⟩ = some (.bool p.old) := hgc 4 (by omega)
        have hf := Lib.hid (fun W => find1_calls p k W)
        have Hb2 := Lib.hid (show Below w.heap.size w (wr.alloc (.cells (pcA p) 90)) from H.out.2.2.alloc H.out.2.2.size _)
        have Hh := Lib.hid (show bsHit ps k i = (cmpI (p.at_ : Int) k == 0) from by
          unfold bsHit
          rw [List.getElem?_eq_getElem (by omega), hp]
          show decide ((p.at_ : Int) = k) = _
          unfold cmpI
          by_cases h1 : (p.at_ : Int) < k
          · rw [if_pos h1, decide_eq_false (by omega)]; rfl
          · rw [if_neg h1]
            by_cases h2 : k < (p.at_ : Int)
            · rw [if_pos h2, decide_eq_false (by omega)]; rfl
            · rw [if_neg h2, decide_eq_true (by omega)]; rfl)
        obtain ⟨cc, hcc⟩ : ∃ cc, cmpI (p.at_ : Int) k = cc := ⟨_, rfl⟩
        rw [hcc] at hf Hh
        clear H hr hs hN hgc hp hcc HA
        go_wp2_with fail
        refine (hf.out _).mono ?_
        rintro e w' ⟨rfl, rfl⟩
        go_wp2_with fail
        go_ret2
        exact ⟨⟨i, by rw [Hh.out]; rfl, HB.out⟩, Hb2.out⟩
      · have hiNi : ¬ (i : Int) < (N : Int) := by omega
        have Hh := Lib.hid (show bsHit ps k i = false from by
          unfold bsHit
          rw [List.getElem?_eq_none (by omega)])
        have Hb2 := Lib.hid H.out.2.2
        clear H hr hs hN HA
        go_wp2_with fail
        go_ret2
        exact ⟨⟨i, by rw [Hh.out]; rfl, HB.out⟩, Hb2.out⟩
end Go.Proofs.YtgkamdgegfioiaaDoor
