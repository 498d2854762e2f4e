/- The walk of the reference's Turn. -/
import Derived.Test.YtgkamdgegfioiaaDoorRwc
namespace Go.Proofs.YtgkamdgegfioiaaDoor
open Go.RowKit
set_option linter.unusedSimpArgs false
set_option linter.unusedVariables false
/-- the first i rows are turned -/
def turnF (ps : List Pc) (i : Nat) : Nat → Rw := fun j => if j < i then rowP (turnS ps) j else rowP ps j
theorem turn_run {r : Nat} {ps : List Pc} (hw : Wf r 0 ps) (i : Nat) : (rowP (turnS ps) i).run = (rowP ps i).run := by rw [rowP_turn hw]
def midF (ps : List Pc) (i : Nat) : Nat → Rw := fun j => if j = i then { rowP ps i with held := false } else turnF ps i j
theorem midF_set {ps : List Pc} {i r : Nat} : (rowsF (turnF ps i) r).set i { rowP ps i with held := false } = rowsF (midF ps i) r := by
  rw [rowsF_set]; rfl
theorem midF_beg {r : Nat} {ps : List Pc} (hw : Wf r 0 ps) {i : Nat} (hi : i < r) : begR (rowsF (midF ps i) r) (i : Int) = (findS (i : Int) ps).isSome := by
  rw [beg_F hi, ← beg_rows hw, rows_F, beg_F hi]
  unfold midF
  rw [if_pos rfl]
theorem midF_next {r : Nat} {ps : List Pc} (hw : Wf r 0 ps) {i : Nat} : (rowsF (midF ps i) r).set i { rowP ps i with held := false, old := (findS (i : Int) ps).isSome } = rowsF (turnF ps (i + 1)) r := by
  rw [rowsF_set]
  refine rowsF_ext (fun j _ => ?_)
  unfold midF turnF
  by_cases h : j = i
  · subst h
    rw [if_pos rfl, if_pos (by omega), rowP_turn hw]
  · rw [if_neg h, if_neg h]
    by_cases h2 : j < i
    · rw [if_pos h2, if_pos (by omega)]
    · rw [if_neg h2, if_neg (show ¬ j < i + 1 by omega)]
set_option maxHeartbeats 4000000 in
set_option maxRecDepth 100000 in
theorem rTurn_calls (w : World) (B Q : Nat) (u : Value) (r : Nat) (ps : List Pc) (h : Rf w B Q u (rows r ps)) (hw : Wf r 0 ps) :
    Calls Tryd.prog 38 #[.pointer (some ⟨Q, 0, none⟩)] w fun e w' => RfPost w B Q u (rows r (turnS ps)) (.tuple #[]) e w' := by
  have h' : Rf w B Q u (rowsF (rowP ps) r) := h
  obtain ⟨A, c, hu, hc, hcm, hl, -, -, -⟩ := h'.at_
  have h0 := Lib.hid (show Rf w B Q u (rowsF (turnF ps 0) r) ∧ Chg w w (RfS Q u) from ⟨by
    have e : rowsF (turnF ps 0) r = rowsF (rowP ps) r := rowsF_ext (fun j _ => by unfold turnF; rw [if_neg (by omega)])
    rw [e]; exact h', Chg.refl _ _⟩)
  have Hu := Lib.hid (And.intro hu hw)
  clear h h' hu hw
  go_enter Tryd.func38, Tryd.ntmps38
  go_wp2_with fail
  go_loopw [2] (fun t2 wr => ∃ i : Nat, t2 = .int .i64 (i : Int) ∧ i ≤ r ∧ Hid (Rf wr B Q u (rowsF (turnF ps i) r) ∧ Chg w wr (RfS Q u))) (fun t2 _ => r - (intOf t2).toNat)
  case atStart => exact ⟨0, rfl, by omega, h0⟩
  case round =>
    clear h0
    rename World => wr
    obtain ⟨i, rfl, hi, H⟩ := hrel
    obtain ⟨A2, c2, hu2, -, -, -, hQ, -, hat⟩ := H.out.1.at_
    obtain ⟨hun, hw⟩ := Hu.out
    rw [hun] at hu2
    injection hu2 with e1 _ e3
    rw [← e1, ← e3] at hQ
    by_cases hlt : i < r
    · have hlti : (i : Int) < (r : Int) := by omega
      obtain ⟨g, hA, hg, hc6, hfz⟩ := hat i hlt
      rw [← e1] at hA
      subst hA
      have hfz1 := hfz (i * 6 + 1)
      have hti : turnF ps i i = rowP ps i := by unfold turnF; rw [if_neg (by omega)]
      rw [hti] at hc6
      have c1 : wr.cell? ⟨g, i * 6 + 1, none⟩ = some (.bool (rowP ps i).held) := hc6 1 (by omega)
      obtain ⟨hd, hhd⟩ : ∃ hd, (rowP ps i).held = hd := ⟨_, rfl⟩
      rw [hhd] at c1
      obtain ⟨s1, s2⟩ := H.out.1.fld hg (i := i) (by rw [rowsF_len]; exact hlt) 1 (.bool false) { rowP ps i with held := false } (by omega) (by rw [rowsF_at, hti]; rfl)
      rw [midF_set] at s1
      obtain ⟨W1, hW1⟩ : ∃ W1, wr.setCell ⟨g, i * 6 + 1, none⟩ (.bool false) = W1 := ⟨_, rfl⟩
      rw [hW1] at s1 s2
      have hRd : Rf W1.drew B Q u (rowsF (midF ps i) r) := s1.below (Below.refl _ _).drew
      have hq := begins_calls W1.drew B Q u _ (i : Int) hRd
      rw [midF_beg hw hlt] at hq
      obtain ⟨b, hb⟩ : ∃ b, (findS (i : Int) ps).isSome = b := ⟨_, rfl⟩
      rw [hb] at hq
      have Hq := Lib.hid hq
      obtain ⟨A3, c3, hu3, -, -, -, hQ1, -, hat1⟩ := hRd.at_
      rw [hun] at hu3
      injection hu3 with f1 _ f3
      rw [← f1, ← f3] at hQ1
      obtain ⟨g3, hA3, hg3, hc63, hfz3⟩ := hat1 i hlt
      rw [hg] at hg3
      obtain rfl : g = g3 := Option.some.inj hg3
      have hfz5 := hfz3 (i * 6 + 5)
      have hmi : midF ps i i = { rowP ps i with held := false } := by unfold midF; rw [if_pos rfl]
      rw [hmi] at hc63
      have d5 : W1.drew.cell? ⟨g, i * 6 + 5, none⟩ = some (.bool (rowP ps i).old) := hc63 5 (by omega)
      obtain ⟨t1, t2⟩ := hRd.fld hg (i := i) (by rw [rowsF_len]; exact hlt) 5 (.bool b) { rowP ps i with held := false, old := b } (by omega) (by rw [rowsF_at, hmi]; rfl)
      rw [← hb, midF_next hw, hb] at t1
      obtain ⟨W2, hW2⟩ : ∃ W2, W1.drew.setCell ⟨g, i * 6 + 5, none⟩ (.bool b) = W2 := ⟨_, rfl⟩
      rw [hW2] at t1 t2
      have hQ2 : W2.cell? ⟨Q, 0, none⟩ = some (.slice (some ⟨g, 0, none⟩) r c) := by rw [t1.cell.1, hun]
      have HN := Lib.hid (show Rf W2 B Q u (rowsF (turnF ps (i + 1)) r) ∧ Chg w W2 (RfS Q u) from ⟨t1, ((H.out.2.trans s2).trans (Chg.ofBelow (Below.refl _ W1).drew _)).trans t2⟩)
      have HW2 := Lib.hid hW2
      clear H hq s1 s2 t1 t2 hRd hat hat1 hc6 hc63 hfz hfz3 hmi hti hb hhd e1 e3 f1 f3 hA3 hg hg3 hun hw hW2
      go_wp2_with fail
      try rw [hW1]
      go_upto_region 4 with fail
      refine wp_region_held (S := fun X => X.cell? ⟨Q, 0, none⟩ = some (.slice (some ⟨g, 0, none⟩) r c)) (by kernel_rfl) (show wpAnyH _ _ _ _ _ _ _ _ W1.drew from ?_)
      have hHeld : (fun X => X.cell? ⟨Q, 0, none⟩ = some (.slice (some ⟨g, 0, none⟩) r c)) W1.drew := hQ1
      refine wpAnyH_take (i := 0) (v := ?_) rfl (by kernel_rfl) (by kernel_rfl) (by kernel_rfl) (fun _ _ _ h => h) (Or.inl ⟨by kernel_rfl, ?_⟩) (by assumption) ?_
      rotate_left
      · rintro w q1; (try dsimp only at q1); go_simp; (try with_reducible rfl)
      try simp only [List.getElem_toArray, List.getElem_cons_succ, List.getElem_cons_zero]
      try simp only [Act.put, List.setIfInBounds_toArray, List.set_cons_zero, List.set_cons_succ]
      refine wpAnyH_take (i := 1) (v := ?_) rfl (by kernel_rfl) (by kernel_rfl) (by kernel_rfl) (fun _ _ _ h => h) (Or.inl ⟨by kernel_rfl, ?_⟩) (by assumption) ?_
      rotate_left
      · rintro w q1; (try dsimp only at q1); go_simp; (try with_reducible rfl)
      try simp only [List.getElem_toArray, List.getElem_cons_succ, List.getElem_cons_zero]
      try simp only [Act.put, List.setIfInBounds_toArray, List.set_cons_zero, List.set_cons_succ]
      refine wpAnyH_take (i := 2) (v := ?_) rfl (by kernel_rfl) (by kernel_rfl) (by kernel_rfl) (fun _ _ _ h => h) (Or.inl ⟨by kernel_rfl, ?_⟩) (by assumption) ?_
      rotate_left
      · rintro w q1; (try dsimp only at q1); go_simp; (try with_reducible rfl)
      try simp only [List.getElem_toArray, List.getElem_cons_succ, List.getElem_cons_zero]
      try simp only [Act.put, List.setIfInBounds_toArray, List.set_cons_zero, List.set_cons_succ]
      refine wpAnyH_take (i := 3) (v := ?_) rfl (by kernel_rfl) (by kernel_rfl) (by kernel_rfl) (fun _ _ _ h => h) (Or.inl ⟨by kernel_rfl, ?_⟩) (by assumption) ?_
      rotate_left
      · rintro w q1; (try dsimp only at q1); go_simp; (try with_reducible rfl)
      try simp only [List.getElem_toArray, List.getElem_cons_succ, List.getElem_cons_zero]
      try simp only [Act.put, List.setIfInBounds_toArray, List.set_cons_zero, List.set_cons_succ]
      refine wpAnyH_take (i := 4) (v := ?_) rfl (by kernel_rfl) (by kernel_rfl) (by kernel_rfl) (fun _ _ _ h => h) (Or.inl ⟨by kernel_rfl, ?_⟩) (by assumption) ?_
      rotate_left
      · rintro w q1; (try dsimp only at q1); go_simp; (try with_reducible rfl)
      try simp only [List.getElem_toArray, List.getElem_cons_succ, List.getElem_cons_zero]
      try simp only [Act.put, List.setIfInBounds_toArray, List.set_cons_zero, List.set_cons_succ]
      refine wpAnyH_take (i := 5) (v := ?_) rfl (by kernel_rfl) (by kernel_rfl) (by kernel_rfl) (fun _ _ _ h => h) (Or.inl ⟨by kernel_rfl, ?_⟩) (by assumption) ?_
      rotate_left
      · rintro w q1; (try dsimp only at q1); go_simp; (try with_reducible rfl)
      try simp only [List.getElem_toArray, List.getElem_cons_succ, List.getElem_cons_zero]
      try simp only [Act.put, List.setIfInBounds_toArray, List.set_cons_zero, List.set_cons_succ]
      refine wpAnyH_take (i := 6) (v := ?_) rfl (by kernel_rfl) (by kernel_rfl) (by kernel_rfl) (fun _ _ _ h => h) (Or.inl ⟨by kernel_rfl, ?_⟩) (by assumption) ?_
      rotate_left
      · rintro w q1; (try dsimp only at q1); go_simp; (try with_reducible rfl)
      try simp only [List.getElem_toArray, List.getElem_cons_succ, List.getElem_cons_zero]
      try simp only [Act.put, List.setIfInBounds_toArray, List.set_cons_zero, List.set_cons_succ]
      refine wpAnyH_ready (rs := [7]) (by kernel_rfl) (by simp) ?_
      refine AllReadyH.cons rfl (fun K hK => ?_) AllReadyH.nil
      go_simp
      refine (Hq.out).mono ?_
      rintro e w' ⟨rfl, hw'⟩
      subst hw'
      refine hK.out _ _ hQ1 (fun hHeld2 => ?_)
      clear hK K
      try simp only [List.getElem_toArray, List.getElem_cons_succ, List.getElem_cons_zero]
      try simp only [Act.put, List.setIfInBounds_toArray, List.set_cons_zero, List.set_cons_succ]
      refine wpAnyH_take (i := 8) (v := ?_) rfl (by kernel_rfl) (by kernel_rfl) (by kernel_rfl) (fun _ _ _ h => h) (Or.inl ⟨by kernel_rfl, ?_⟩) (by assumption) ?_
      rotate_left
      · rintro w q1; (try dsimp only at q1); go_simp; (try with_reducible rfl)
      try simp only [List.getElem_toArray, List.getElem_cons_succ, List.getElem_cons_zero]
      try simp only [Act.put, List.setIfInBounds_toArray, List.set_cons_zero, List.set_cons_succ]
      refine wpAnyH_take (i := 9) (v := ?_) rfl (by kernel_rfl) (by kernel_rfl) (by kernel_rfl) (fun _ _ _ h => h) (Or.inl ⟨by kernel_rfl, ?_⟩) (by assumption) ?_
      rotate_left
      · rintro w q1; (try dsimp only at q1); go_simp; (try with_reducible rfl)
      try simp only [List.getElem_toArray, List.getElem_cons_succ, List.getElem_cons_zero]
      try simp only [Act.put, List.setIfInBounds_toArray, List.set_cons_zero, List.set_cons_succ]
      refine wpAnyH_ready (rs := [10]) (by kernel_rfl) (by simp) ?_
      refine AllReadyH.cons rfl (fun K hK => ?_) AllReadyH.nil
      go_simp
      rw [show (W1.setCell ⟨g, i * 6 + 5, none⟩ (.bool b)).drew = W2 from HW2.out]
      refine hK.out _ _ hQ2 (fun hHeld3 => ?_)
      clear hK K hHeld hHeld2
      try simp only [List.getElem_toArray, List.getElem_cons_succ, List.getElem_cons_zero]
      try simp only [Act.put, List.setIfInBounds_toArray, List.set_cons_zero, List.set_cons_succ]
      refine wpAnyH_done (by kernel_rfl) ?_ _
      go_wp2_with fail
      exact ⟨⟨i + 1, by go_num, by omega, HN⟩, by simp [intOf]; omega⟩
    · obtain rfl : i = r := by omega
      have hlti : ¬ (i : Int) < (i : Int) := by omega
      have HP := Lib.hid (show RfPost w B Q u (rows i (turnS ps)) (.tuple #[]) (.returned (.tuple #[])) wr from ⟨rfl, u, by
        have e : rowsF (turnF ps i) i = rows i (turnS ps) := rowsF_ext (fun j hj => by unfold turnF; rw [if_pos hj])
        rw [← e]; exact H.out.1, H.out.2, .inl rfl⟩)
      clear H hat hun hw
      go_wp2_with fail
      refine bodyPost_ret (v := .tuple #[]) (by simp [results, Tryd.results38]) rfl ?_
      exact HP.out
end Go.Proofs.YtgkamdgegfioiaaDoor
