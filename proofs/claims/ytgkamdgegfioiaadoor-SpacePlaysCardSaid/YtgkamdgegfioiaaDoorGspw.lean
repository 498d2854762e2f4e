/- The walk of the law's step. Condition: errors.errorType holds its handle. -/
import Derived.Test.YtgkamdgegfioiaaDoorGmq
import Derived.Test.YtgkamdgegfioiaaDoorGkq
import Derived.Test.YtgkamdgegfioiaaDoorSpq
import Derived.Test.YtgkamdgegfioiaaDoorSdp
namespace Go.Proofs.YtgkamdgegfioiaaDoor
open Go.RowKit
set_option linter.unusedSimpArgs false
set_option linter.unusedVariables false
set_option maxHeartbeats 60000000 in
set_option maxRecDepth 100000 in
theorem step_calls (w wr : World) (P : Nat) (cur : Gm) (kept : List Gm) (vk : Value) (s : StD) (h : St w wr P cur kept vk) (hg : ErrH w) (hok : s.ok) :
    Calls Tryd.prog 19 #[.pointer (some ⟨P, 0, none⟩), .agg #[.int .i64 s.do_, .int .i64 s.a, .int .i64 s.b, .int .i64 s.c, .string s.text]] wr fun e w' => StepPost w P e w' := by
  obtain ⟨sd, sa, sb, sc, st⟩ := s
  have HO := Lib.hid hok
  obtain ⟨W0, hW0⟩ : ∃ W0, wr.alloc (.cells #[.int .i64 sd, .int .i64 sa, .int .i64 sb, .int .i64 sc, .string st] 58) = W0 := ⟨_, rfl⟩
  obtain ⟨b3, hb3⟩ : ∃ b3, wr.heap.size = b3 := ⟨_, rfl⟩
  have hx0 : Bx W0 b3 58 #[.int .i64 sd, .int .i64 sa, .int .i64 sb, .int .i64 sc, .string st] := by rw [← hW0, ← hb3]; exact Bx.new _ _ _
  have hb0 : Below wr.heap.size wr W0 := by rw [← hW0]; exact (Below.refl _ _).alloc (Nat.le_refl _) _
  have h0 := h.kb hb0
  have H3 := Lib.hid (show P < b3 from by rw [← hb3]; exact h.box.lt)
  clear h hb0 hok
  have hgw : 0 < w.heap.size := hg.lt
  have hR0 := h0.one.2
  obtain ⟨Au, cu, huu, -, -, hrn, hQc, -, -⟩ := Rf.at_ (f := rowP cur.ps) hR0
  have hwf := h0.one.1.wf
  obtain ⟨Q, hQ⟩ : ∃ Q, cur.Q = Q := ⟨_, rfl⟩
  obtain ⟨r, hr⟩ : ∃ r, cur.n = r := ⟨_, rfl⟩
  have hbx := h0.box
  rw [hQ, hr] at hQc
  rw [hQ] at hbx
  rw [hr] at hrn
  have q1 : W0.drew.cell? ⟨b3, 1, none⟩ = some (.int .i64 sa) := hx0.cell 1
  have q2 : W0.drew.cell? ⟨P, 1, none⟩ = some (.pointer (some ⟨Q, 0, none⟩)) := hbx.cell 1
  have q3 : W0.drew.cell? ⟨Q, 0, none⟩ = some (.slice Au r cu) := hQc
  have hpk := fun W => lpick_calls sa ((r : Int) + 2) W HO.out.2.1.1 HO.out.2.1.2 (by omega) (by omega)
  have hpb : -1 ≤ sa % ((r : Int) + 2) - 1 ∧ sa % ((r : Int) + 2) - 1 ≤ (r : Int) := by
    have a1 := Int.emod_nonneg sa (b := (r : Int) + 2) (by omega)
    have a2 := Int.emod_lt_of_pos sa (b := (r : Int) + 2) (by omega)
    omega
  obtain ⟨k0, hk0⟩ : ∃ k0, sa % ((r : Int) + 2) = k0 := ⟨_, rfl⟩
  rw [hk0] at hpk hpb
  have Hpk := Lib.hid hpk
  have hwr : IntKind.i64.wrap ((r : Int) + 2) = (r : Int) + 2 := by rw [IntKind.wrap_i64, Int.emod_eq_of_lt (by omega) (by omega)]; omega
  have Hwr := Lib.hid hwr
  clear hwr
  have H0 := Lib.hid (And.intro h0 (And.intro hx0 (And.intro hg (And.intro hQ hr))))
  have Hb := Lib.hid hpb
  clear hx0 h0 hR0 hwf hbx hQc hpk hpb hk0 hg hQ hr
  go_enter Tryd.func19, Tryd.ntmps19
  go_upto_region 1 with fail
  try rw [hW0]
  try rw [hb3]
  clear hW0 hb3
  refine wp_region_held (S := fun X => X.cell? ⟨b3, 1, none⟩ = some (.int .i64 sa) ∧ X.cell? ⟨P, 1, none⟩ = some (.pointer (some ⟨Q, 0, none⟩)) ∧ X.cell? ⟨Q, 0, none⟩ = some (.slice Au r cu)) (by kernel_rfl) (show wpAnyH _ _ _ _ _ _ _ _ W0.drew from ?_)
  have hHeld : (fun X => X.cell? ⟨b3, 1, none⟩ = some (.int .i64 sa) ∧ X.cell? ⟨P, 1, none⟩ = some (.pointer (some ⟨Q, 0, none⟩)) ∧ X.cell? ⟨Q, 0, none⟩ = some (.slice Au r cu)) W0.drew := ⟨q1, q2, q3⟩
  refine wpAnyH_take (i := 0) (v := ?_) rfl (by kernel_rfl) (by kernel_rfl) (by kernel_rfl) (fun _ _ _ h => h) (Or.inl ⟨by kernel_rfl, ?_⟩) (by assumption) ?_
  rotate_left
  · rintro w ⟨q1, q2, q3⟩; go_simp; (try with_reducible rfl)
  try simp only [List.getElem_toArray, List.getElem_cons_succ, List.getElem_cons_zero]
  try simp only [Act.put, List.setIfInBounds_toArray, List.set_cons_zero, List.set_cons_succ]
  refine wpAnyH_take (i := 1) (v := ?_) rfl (by kernel_rfl) (by kernel_rfl) (by kernel_rfl) (fun _ _ _ h => h) (Or.inl ⟨by kernel_rfl, ?_⟩) (by assumption) ?_
  rotate_left
  · rintro w ⟨q1, q2, q3⟩; go_simp; (try with_reducible rfl)
  try simp only [List.getElem_toArray, List.getElem_cons_succ, List.getElem_cons_zero]
  try simp only [Act.put, List.setIfInBounds_toArray, List.set_cons_zero, List.set_cons_succ]
  refine wpAnyH_take (i := 2) (v := ?_) rfl (by kernel_rfl) (by kernel_rfl) (by kernel_rfl) (fun _ _ _ h => h) (Or.inl ⟨by kernel_rfl, ?_⟩) (by assumption) ?_
  rotate_left
  · rintro w ⟨q1, q2, q3⟩; go_simp; (try with_reducible rfl)
  try simp only [List.getElem_toArray, List.getElem_cons_succ, List.getElem_cons_zero]
  try simp only [Act.put, List.setIfInBounds_toArray, List.set_cons_zero, List.set_cons_succ]
  refine wpAnyH_take (i := 3) (v := ?_) rfl (by kernel_rfl) (by kernel_rfl) (by kernel_rfl) (fun _ _ _ h => h) (Or.inl ⟨by kernel_rfl, ?_⟩) (by assumption) ?_
  rotate_left
  · rintro w ⟨q1, q2, q3⟩; go_simp; (try with_reducible rfl)
  try simp only [List.getElem_toArray, List.getElem_cons_succ, List.getElem_cons_zero]
  try simp only [Act.put, List.setIfInBounds_toArray, List.set_cons_zero, List.set_cons_succ]
  refine wpAnyH_take (i := 4) (v := ?_) rfl (by kernel_rfl) (by kernel_rfl) (by kernel_rfl) (fun _ _ _ h => h) (Or.inl ⟨by kernel_rfl, ?_⟩) (by assumption) ?_
  rotate_left
  · rintro w ⟨q1, q2, q3⟩; go_simp; (try with_reducible rfl)
  try simp only [List.getElem_toArray, List.getElem_cons_succ, List.getElem_cons_zero]
  try simp only [Act.put, List.setIfInBounds_toArray, List.set_cons_zero, List.set_cons_succ]
  refine wpAnyH_take (i := 5) (v := ?_) rfl (by kernel_rfl) (by kernel_rfl) (by kernel_rfl) (fun _ _ _ h => h) (Or.inl ⟨by kernel_rfl, ?_⟩) (by assumption) ?_
  rotate_left
  · rintro w ⟨q1, q2, q3⟩; go_simp; (try with_reducible rfl)
  try simp only [List.getElem_toArray, List.getElem_cons_succ, List.getElem_cons_zero]
  try simp only [Act.put, List.setIfInBounds_toArray, List.set_cons_zero, List.set_cons_succ]
  refine wpAnyH_take (i := 6) (v := ?_) rfl (by kernel_rfl) (by kernel_rfl) (by kernel_rfl) (fun _ _ _ h => h) (Or.inl ⟨by kernel_rfl, ?_⟩) (by assumption) ?_
  rotate_left
  · rintro w ⟨q1, q2, q3⟩; go_simp; (try with_reducible rfl)
  try simp only [List.getElem_toArray, List.getElem_cons_succ, List.getElem_cons_zero]
  try simp only [Act.put, List.setIfInBounds_toArray, List.set_cons_zero, List.set_cons_succ]
  refine wpAnyH_take (i := 7) (v := ?_) rfl (by kernel_rfl) (by kernel_rfl) (by kernel_rfl) (fun _ _ _ h => h) (Or.inl ⟨by kernel_rfl, ?_⟩) (by assumption) ?_
  rotate_left
  · rintro w ⟨q1, q2, q3⟩; go_simp; (try with_reducible rfl)
  try simp only [List.getElem_toArray, List.getElem_cons_succ, List.getElem_cons_zero]
  try simp only [Act.put, List.setIfInBounds_toArray, List.set_cons_zero, List.set_cons_succ]
  refine wpAnyH_take (i := 8) (v := ?_) rfl (by kernel_rfl) (by kernel_rfl) (by kernel_rfl) (fun _ _ _ h => h) (Or.inl ⟨by kernel_rfl, ?_⟩) (by assumption) ?_
  rotate_left
  · rintro w ⟨q1, q2, q3⟩; go_simp; (try with_reducible rfl)
  try simp only [List.getElem_toArray, List.getElem_cons_succ, List.getElem_cons_zero]
  try simp only [Act.put, List.setIfInBounds_toArray, List.set_cons_zero, List.set_cons_succ]
  refine wpAnyH_take (i := 9) (v := ?_) rfl (by kernel_rfl) (by kernel_rfl) (by kernel_rfl) (fun _ _ _ h => h) (Or.inl ⟨by kernel_rfl, ?_⟩) (by assumption) ?_
  rotate_left
  · rintro w ⟨q1, q2, q3⟩; go_simp; (try with_reducible rfl)
  try simp only [List.getElem_toArray, List.getElem_cons_succ, List.getElem_cons_zero]
  try simp only [Act.put, List.setIfInBounds_toArray, List.set_cons_zero, List.set_cons_succ]
  refine wpAnyH_take (i := 10) (v := ?_) rfl (by kernel_rfl) (by kernel_rfl) (by kernel_rfl) (fun _ _ _ h => h) (Or.inl ⟨by kernel_rfl, ?_⟩) (by assumption) ?_
  rotate_left
  · rintro w ⟨q1, q2, q3⟩; go_simp; (try with_reducible rfl)
  try simp only [List.getElem_toArray, List.getElem_cons_succ, List.getElem_cons_zero]
  try simp only [Act.put, List.setIfInBounds_toArray, List.set_cons_zero, List.set_cons_succ]
  refine wpAnyH_ready (rs := [11]) (by kernel_rfl) (by simp) ?_
  refine AllReadyH.cons rfl (fun K hK => ?_) AllReadyH.nil
  go_simp
  rw [Hwr.out]
  refine (Hpk.out _).mono ?_
  rintro e w' ⟨rfl, hw'⟩
  subst hw'
  refine hK.out _ _ ⟨q1, q2, q3⟩ (fun hHeld2 => ?_)
  clear hK K
  try simp only [List.getElem_toArray, List.getElem_cons_succ, List.getElem_cons_zero]
  try simp only [Act.put, List.setIfInBounds_toArray, List.set_cons_zero, List.set_cons_succ]
  refine wpAnyH_take (i := 12) (v := ?_) rfl (by kernel_rfl) (by kernel_rfl) (by kernel_rfl) (fun _ _ _ h => h) (Or.inl ⟨by kernel_rfl, ?_⟩) (by assumption) ?_
  rotate_left
  · rintro w ⟨q1, q2, q3⟩; go_simp; (try with_reducible rfl)
  try simp only [List.getElem_toArray, List.getElem_cons_succ, List.getElem_cons_zero]
  try simp only [Act.put, List.setIfInBounds_toArray, List.set_cons_zero, List.set_cons_succ]
  refine wpAnyH_take (i := 13) (v := ?_) rfl (by kernel_rfl) (by kernel_rfl) (by kernel_rfl) (fun _ _ _ h => h) (Or.inl ⟨by kernel_rfl, ?_⟩) (by assumption) ?_
  rotate_left
  · rintro w ⟨q1, q2, q3⟩; go_simp; (try with_reducible rfl)
  try simp only [List.getElem_toArray, List.getElem_cons_succ, List.getElem_cons_zero]
  try simp only [Act.put, List.setIfInBounds_toArray, List.set_cons_zero, List.set_cons_succ]
  refine wpAnyH_done (by kernel_rfl) ?_ _
  clear hHeld hHeld2 q1 q2 q3
  obtain ⟨k1, hk1⟩ : ∃ k1, k0 - 1 = k1 := ⟨_, rfl⟩
  have hk11 : -1 ≤ k1 ∧ k1 ≤ 1073741824 := by have := Hb.out; omega
  have hw5 : IntKind.i64.wrap (k0 - 1) = k1 := by rw [hk1, IntKind.wrap_i64]; omega
  rw [hw5]
  clear hw5 hk1 Hwr Hpk Hb
  have H1 := Lib.hid (show St w W0.drew P cur kept vk ∧ Bx W0.drew b3 58 #[.int .i64 sd, .int .i64 sa, .int .i64 sb, .int .i64 sc, .string st] ∧ ErrH w ∧ cur.Q = Q ∧ cur.n = r from ⟨H0.out.1.kb (Below.refl _ _).drew, H0.out.2.1, H0.out.2.2⟩)
  clear H0
  generalize W0.drew = V0 at *
  clear W0
  go_step
  go_step
  go_step
  go_cut [5] from 28 to 50 (fun t5 we => Hid (∃ k : Int, t5 = .int .i64 k ∧ (-1 ≤ k ∧ k ≤ 1073741824) ∧ St w we P cur kept vk ∧ Bx we b3 58 #[.int .i64 sd, .int .i64 sa, .int .i64 sb, .int .i64 sc, .string st]))
  case first =>
    rename_i hJ hMt
    have HJ := PLift.up hJ
    clear hJ
    obtain ⟨h1, hx1, hg, hQ, hr⟩ := H1.out
    have hR1 := h1.one.2
    rw [hQ] at hR1
    have hq := Lib.hid (rRuns_calls V0 _ Q cur.u cur.n cur.ps hR1 h1.one.1.wf)
    have hbx := h1.box
    rw [hQ] at hbx
    have q2 : V0.cell? ⟨P, 1, none⟩ = some (.pointer (some ⟨Q, 0, none⟩)) := hbx.cell 1
    have q1 : V0.cell? ⟨b3, 1, none⟩ = some (.int .i64 sa) := hx1.cell 1
    have q4 : V0.cell? ⟨b3, 2, none⟩ = some (.int .i64 sb) := hx1.cell 2
    clear h1 hx1 hg hQ hr hR1 hbx
    go_wp2_with fail
    refine (hq.out).mono ?_
    rintro e W1 ⟨v6, rfl, ho, hb⟩
    obtain ⟨A6, c6, rfl, hc61, hc62, hrd⟩ := ho.rd
    obtain ⟨h1, hx1, hg, hQ, hr⟩ := H1.out
    have h2 := h1.kb hb
    have hx2 := hx1.below hb hx1.lt
    have q1 : W1.cell? ⟨b3, 1, none⟩ = some (.int .i64 sa) := hx2.cell 1
    have q4 : W1.cell? ⟨b3, 2, none⟩ = some (.int .i64 sb) := hx2.cell 2
    have hall : ∀ p ∈ live cur.ps, p.at_ ≤ 1073741824 := fun p hp => by
      have a1 := (live_wf h1.one.1.wf).all p hp
      have a2 := a1.2.2.2.2
      have a3 := h1.one.1.hr
      unfold Pc.fin at a2
      omega
    obtain ⟨xs, hxs⟩ : ∃ xs, live cur.ps = xs := ⟨_, rfl⟩
    rw [hxs] at hc61 hrd hall ⊢
    obtain ⟨M, hM⟩ : ∃ M, xs.length = M := ⟨_, rfl⟩
    have hMb : M ≤ 1073741824 := by
      have a1 := (live_wf h1.one.1.wf).len
      have a3 := h1.one.1.hr
      rw [hxs] at a1
      omega
    rw [hM] at hc61 ⊢
    have hc63 : c6 ≤ 9223372036854775807 := by unfold maxLen at hc62; omega
    have hp3 := Lib.hid (lpick_calls sb 3 W1 HO.out.2.2.1.1 HO.out.2.2.1.2 (by omega) (by omega))
    obtain ⟨x3, hx3⟩ : ∃ x3, sb % 3 = x3 := ⟨_, rfl⟩
    rw [hx3] at hp3
    have HX := Lib.hid (And.intro h2 (And.intro hx2 (And.intro hrd (And.intro hM hall))))
    clear h1 hx1 hg hQ hr h2 hx2 hrd hM hxs hall ho hb hc62 hq q2 hx3
    by_cases hM0 : 0 < M
    · have hM0i : (0 : Int) < (M : Int) := by omega
      by_cases hx30 : 0 < x3
      · have hpM := Lib.hid (lpick_calls sa (M : Int) W1 HO.out.2.1.1 HO.out.2.1.2 (by omega) (by omega))
        obtain ⟨k2, hk2⟩ : ∃ k2 : Nat, sa % (M : Int) = (k2 : Int) := ⟨(sa % (M : Int)).toNat, by have := Int.emod_nonneg sa (b := (M : Int)) (by omega); omega⟩
        have hk2b : (k2 : Int) < (M : Int) := by have := Int.emod_lt_of_pos sa (b := (M : Int)) (by omega); omega
        rw [hk2] at hpM
        obtain ⟨h2, hx2, hrd, hM, hall⟩ := HX.out
        have hlx : k2 < xs.length := by omega
        obtain ⟨g, hA, hgw, hgc⟩ := hrd k2 hlx
        subst hA
        have hle := hall _ (List.getElem_mem hlx)
        obtain ⟨p, hp⟩ : ∃ p, xs[k2] = p := ⟨_, rfl⟩
        rw [hp] at hgc hle
        have g0 : W1.cell? ⟨g, k2 * 4, none⟩ = some (.int .i64 (p.at_ : Int)) := hgc 0 (by omega)
        have HR := Lib.hid (show ∃ k : Int, Value.int .i64 (p.at_ : Int) = .int .i64 k ∧ (-1 ≤ k ∧ k ≤ 1073741824) ∧ St w W1 P cur kept vk ∧ Bx W1 b3 58 #[.int .i64 sd, .int .i64 sa, .int .i64 sb, .int .i64 sc, .string st] from ⟨_, rfl, ⟨by omega, by omega⟩, h2, hx2⟩)
        clear h2 hx2 hrd hM hall hk2 hlx hgc hp HX hle hgw
        go_wp2_with fail
        refine (hp3.out).mono ?_
        rintro e W2 ⟨rfl, hw2⟩
        subst hw2
        go_wp2_with fail
        refine (hpM.out).mono ?_
        rintro e W2 ⟨rfl, hw2⟩
        subst hw2
        go_wp2_with fail
        have hJ := HJ.down
        go_meet
        case rel => exact HR
      · have HR := Lib.hid (show ∃ k : Int, Value.int .i64 k1 = .int .i64 k ∧ (-1 ≤ k ∧ k ≤ 1073741824) ∧ St w W1 P cur kept vk ∧ Bx W1 b3 58 #[.int .i64 sd, .int .i64 sa, .int .i64 sb, .int .i64 sc, .string st] from ⟨_, rfl, hk11, HX.out.1, HX.out.2.1⟩)
        clear HX
        go_wp2_with fail
        refine (hp3.out).mono ?_
        rintro e W2 ⟨rfl, hw2⟩
        subst hw2
        go_wp2_with fail
        have hJ := HJ.down
        go_meet
        case rel => exact HR
    · have hM0i : ¬ (0 : Int) < (M : Int) := by omega
      have HR := Lib.hid (show ∃ k : Int, Value.int .i64 k1 = .int .i64 k ∧ (-1 ≤ k ∧ k ≤ 1073741824) ∧ St w W1 P cur kept vk ∧ Bx W1 b3 58 #[.int .i64 sd, .int .i64 sa, .int .i64 sb, .int .i64 sc, .string st] from ⟨_, rfl, hk11, HX.out.1, HX.out.2.1⟩)
      clear HX
      go_wp2_with fail
      have hJ := HJ.down
      go_meet
      case rel => exact HR
  case rest =>
    obtain ⟨k, rfl, ⟨hkl, hku⟩, h2, hx2⟩ := hcut.out
    obtain ⟨-, -, hg, -, -⟩ := H1.out
    have hp12 := lpick_calls sd 12 wc HO.out.1.1 HO.out.1.2 (by omega) (by omega)
    obtain ⟨d, hd⟩ : ∃ d : Int, sd % 12 = d := ⟨_, rfl⟩
    have hd0 : 0 ≤ d := by omega
    have hd12 : d < 12 := by omega
    rw [hd] at hp12
    have hp12 := Lib.hid hp12
    have q0 : wc.cell? ⟨b3, 0, none⟩ = some (.int .i64 sd) := hx2.cell 0
    have HS := Lib.hid (And.intro h2 (And.intro hx2 hg))
    clear hd hcut h2 hx2 hg H1 hk11
    have hdd : (d = 0 ∨ d = 1 ∨ d = 2 ∨ d = 3) ∨ d = 4 ∨ (d = 5 ∨ d = 6) ∨ d = 7 ∨ d = 8 ∨ d = 9 ∨ d = 10 ∨ d = 11 := by omega
    rcases hdd with hdd | rfl | hdd | rfl | rfl | rfl | rfl | rfl
    · go_wp2_with fail
      refine (hp12.out).mono ?_
      rintro e w' ⟨rfl, hw'⟩
      subst hw'
      simp only []
      go_step
      go_step
      go_step
      go_step
      go_step
      go_step
      go_cut [54] from 55 to 58 (fun t we => Hid (t = .bool true ∧ we = wc))
      case first =>
        rename_i hJ hMt
        have HJ := PLift.up hJ
        clear hJ
        rcases hdd with rfl | rfl | rfl | rfl
        all_goals
          go_wp2_with fail
          have hJ := HJ.down
          go_meet
          case rel => exact Lib.hid ⟨rfl, rfl⟩
      case rest =>
        obtain ⟨rfl, rfl⟩ := hcut.out
        clear hp12
        clear hdd hd0 hd12 hcut q0
        have hp1 := Lib.hid (lpick_calls sa 12 wc HO.out.2.1.1 HO.out.2.1.2 (by omega) (by omega))
        have hp2 := Lib.hid (lpick_calls sb 20 wc HO.out.2.2.1.1 HO.out.2.2.1.2 (by omega) (by omega))
        obtain ⟨m12, hm12⟩ : ∃ m, sa % 12 = m := ⟨_, rfl⟩
        have hm12b : 0 ≤ m12 ∧ m12 < 12 := by omega
        rw [hm12] at hp1
        obtain ⟨m20, hm20⟩ : ∃ m, sb % 20 = m := ⟨_, rfl⟩
        rw [hm20] at hp2
        have qa : wc.cell? ⟨b3, 1, none⟩ = some (.int .i64 sa) := HS.out.2.1.cell 1
        have qb : wc.cell? ⟨b3, 2, none⟩ = some (.int .i64 sb) := HS.out.2.1.cell 2
        clear hm12 hm20
        go_wp2_with fail
        refine (hp1.out).mono ?_
        rintro e w' ⟨rfl, hw'⟩
        subst hw'
        go_wp2_with fail
        refine (hp2.out).mono ?_
        rintro e w' ⟨rfl, hw'⟩
        subst hw'
        obtain ⟨n', hn'⟩ : ∃ n', (if m20 = 19 then sa else m12) = n' := ⟨_, rfl⟩
        have hn2 : n' ≤ 9223372036854775807 := by
          have a1 := HO.out.2.1.2
          rw [← hn']
          split
          · exact a1
          · omega
        have Hn := Lib.hid (And.intro hn' (And.intro hn2 hm12b))
        clear hn' hn2 hm12b hp1 hp2
        go_upto_if 65 with fail
        go_cut [7] from 66 to 99 (fun t we => Hid (t = .int .i64 n' ∧ we = wc))
        case first =>
          rename_i hJ hMt
          have HJ := PLift.up hJ
          clear hJ
          by_cases h19 : m20 = 19
          · have h19b : (m20 == 19) = true := by rw [beq_iff_eq]; exact h19
            have HR := Lib.hid (show sa = n' from by rw [← Hn.out.1, if_pos h19])
            clear h19
            go_wp2_with fail
            have hJ := HJ.down
            go_meet
            case rel => exact Lib.hid ⟨by rw [HR.out], rfl⟩
          · have h19b : (m20 == 19) = false := by rw [beq_eq_false_iff_ne]; exact h19
            have HR := Lib.hid (show m12 = n' from by rw [← Hn.out.1, if_neg h19])
            clear h19
            go_wp2_with fail
            have hJ := HJ.down
            go_meet
            case rel => exact Lib.hid ⟨by rw [HR.out], rfl⟩
        case rest =>
          obtain ⟨rfl, rfl⟩ := hcut.out
          clear hcut qa qb
          obtain ⟨h2, hx2, hg⟩ := HS.out
          obtain ⟨R1, hR1⟩ : ∃ R1, cur.R = R1 := ⟨_, rfl⟩
          obtain ⟨Q, hQ⟩ : ∃ Q, cur.Q = Q := ⟨_, rfl⟩
          have hbx : Bx wc.drew P 56 #[.pointer (some ⟨R1, 0, none⟩), .pointer (some ⟨Q, 0, none⟩), vk] := by rw [← hR1, ← hQ]; exact h2.box
          have hgd : ErrH wc.drew := (hg.below hg.lt h2.below : ErrH wc)
          have hd2 : St w wc.drew P cur kept vk := h2.kb (Below.refl _ _).drew
          have hbox : ∀ W1, Chg wc.drew W1 (GmS cur) → Bx W1 P 56 #[.pointer (some ⟨R1, 0, none⟩), .pointer (some ⟨Q, 0, none⟩), vk] := fun W1 hc => by rw [← hR1, ← hQ]; exact hd2.box1 hc
          obtain ⟨tg, htg⟩ : ∃ tg : Nat, IntKind.u64.wrap sc = (tg : Int) := ⟨(IntKind.u64.wrap sc).toNat, by rw [IntKind.wrap_u64]; omega⟩
          have htg2 : tg < 18446744073709551616 := by
            have := htg
            rw [IntKind.wrap_u64] at this
            omega
          obtain ⟨xv, ev, qs, tA, tB⟩ := take_pair hd2 hgd hgw n' Hn.out.2.1 tg htg2
          rw [hR1] at tA
          rw [hQ] at tB
          have TA := Lib.hid tA
          have TB := Lib.hid tB
          have Htg := Lib.hid htg
          have HD := Lib.hid hd2
          have HX := Lib.hid (show Bx wc.drew b3 58 #[.int .i64 sd, .int .i64 sa, .int .i64 sb, .int .i64 sc, .string st] from hx2)
          have hx3 : ∀ W1, Chg wc.drew W1 (GmS cur) → Bx W1 b3 58 #[.int .i64 sd, .int .i64 sa, .int .i64 sb, .int .i64 sc, .string st] := fun W1 hc => (hc.block b3 HX.out.lt (HD.out.one.notBx HX.out (by decide) (by decide) (by decide) (by decide))).trans HX.out
          clear h2 hx2 hg hd2 hgd HS tA tB htg htg2 Hn
          go_upto_region 13 with fail
          refine wp_region_held (S := fun X => X.cell? ⟨P, 0, none⟩ = some (.pointer (some ⟨R1, 0, none⟩)) ∧ X.cell? ⟨P, 1, none⟩ = some (.pointer (some ⟨Q, 0, none⟩)) ∧ X.cell? ⟨b3, 3, none⟩ = some (.int .i64 sc)) (by kernel_rfl) (show wpAnyH _ _ _ _ _ _ _ _ wc.drew from ?_)
          have hHeld : (fun X => X.cell? ⟨P, 0, none⟩ = some (.pointer (some ⟨R1, 0, none⟩)) ∧ X.cell? ⟨P, 1, none⟩ = some (.pointer (some ⟨Q, 0, none⟩)) ∧ X.cell? ⟨b3, 3, none⟩ = some (.int .i64 sc)) wc.drew := ⟨hbx.cell 0, hbx.cell 1, HX.out.cell 3⟩
          refine wpAnyH_take (i := 0) (v := ?_) rfl (by kernel_rfl) (by kernel_rfl) (by kernel_rfl) (fun _ _ _ h => h) (Or.inl ⟨by kernel_rfl, ?_⟩) (by assumption) ?_
          rotate_left
          · rintro w ⟨q1, q2, q3⟩; go_simp; (try with_reducible rfl)
          try simp only [List.getElem_toArray, List.getElem_cons_succ, List.getElem_cons_zero]
          try simp only [Act.put, List.setIfInBounds_toArray, List.set_cons_zero, List.set_cons_succ]
          refine wpAnyH_take (i := 1) (v := ?_) rfl (by kernel_rfl) (by kernel_rfl) (by kernel_rfl) (fun _ _ _ h => h) (Or.inl ⟨by kernel_rfl, ?_⟩) (by assumption) ?_
          rotate_left
          · rintro w ⟨q1, q2, q3⟩; go_simp; (try with_reducible rfl)
          try simp only [List.getElem_toArray, List.getElem_cons_succ, List.getElem_cons_zero]
          try simp only [Act.put, List.setIfInBounds_toArray, List.set_cons_zero, List.set_cons_succ]
          refine wpAnyH_take (i := 2) (v := ?_) rfl (by kernel_rfl) (by kernel_rfl) (by kernel_rfl) (fun _ _ _ h => h) (Or.inl ⟨by kernel_rfl, ?_⟩) (by assumption) ?_
          rotate_left
          · rintro w ⟨q1, q2, q3⟩; go_simp; (try with_reducible rfl)
          try simp only [List.getElem_toArray, List.getElem_cons_succ, List.getElem_cons_zero]
          try simp only [Act.put, List.setIfInBounds_toArray, List.set_cons_zero, List.set_cons_succ]
          refine wpAnyH_take (i := 3) (v := ?_) rfl (by kernel_rfl) (by kernel_rfl) (by kernel_rfl) (fun _ _ _ h => h) (Or.inl ⟨by kernel_rfl, ?_⟩) (by assumption) ?_
          rotate_left
          · rintro w ⟨q1, q2, q3⟩; go_simp; (try with_reducible rfl)
          try simp only [List.getElem_toArray, List.getElem_cons_succ, List.getElem_cons_zero]
          try simp only [Act.put, List.setIfInBounds_toArray, List.set_cons_zero, List.set_cons_succ]
          refine wpAnyH_take (i := 4) (v := ?_) rfl (by kernel_rfl) (by kernel_rfl) (by kernel_rfl) (fun _ _ _ h => h) (Or.inl ⟨by kernel_rfl, ?_⟩) (by assumption) ?_
          rotate_left
          · rintro w ⟨q1, q2, q3⟩; go_simp; (try with_reducible rfl)
          try simp only [List.getElem_toArray, List.getElem_cons_succ, List.getElem_cons_zero]
          try simp only [Act.put, List.setIfInBounds_toArray, List.set_cons_zero, List.set_cons_succ]
          refine wpAnyH_take (i := 5) (v := ?_) rfl (by kernel_rfl) (by kernel_rfl) (by kernel_rfl) (fun _ _ _ h => h) (Or.inl ⟨by kernel_rfl, ?_⟩) (by assumption) ?_
          rotate_left
          · rintro w ⟨q1, q2, q3⟩; go_simp; (try with_reducible rfl)
          try simp only [List.getElem_toArray, List.getElem_cons_succ, List.getElem_cons_zero]
          try simp only [Act.put, List.setIfInBounds_toArray, List.set_cons_zero, List.set_cons_succ]
          refine wpAnyH_take (i := 6) (v := ?_) rfl (by kernel_rfl) (by kernel_rfl) (by kernel_rfl) (fun _ _ _ h => h) (Or.inl ⟨by kernel_rfl, ?_⟩) (by assumption) ?_
          rotate_left
          · rintro w ⟨q1, q2, q3⟩; go_simp; (try with_reducible rfl)
          try simp only [List.getElem_toArray, List.getElem_cons_succ, List.getElem_cons_zero]
          try simp only [Act.put, List.setIfInBounds_toArray, List.set_cons_zero, List.set_cons_succ]
          refine wpAnyH_take (i := 7) (v := ?_) rfl (by kernel_rfl) (by kernel_rfl) (by kernel_rfl) (fun _ _ _ h => h) (Or.inl ⟨by kernel_rfl, ?_⟩) (by assumption) ?_
          rotate_left
          · rintro w ⟨q1, q2, q3⟩; go_simp; (try with_reducible rfl)
          try simp only [List.getElem_toArray, List.getElem_cons_succ, List.getElem_cons_zero]
          try simp only [Act.put, List.setIfInBounds_toArray, List.set_cons_zero, List.set_cons_succ]
          refine wpAnyH_ready (rs := [8]) (by kernel_rfl) (by simp) ?_
          refine AllReadyH.cons rfl (fun K hK => ?_) AllReadyH.nil
          go_simp
          rw [Htg.out]
          refine (TA.out).mono ?_
          rintro e W1 ⟨rfl, HH⟩
          have hb1 := hbox W1 HH.out.chg
          have hx1 := hx3 W1 HH.out.chg
          refine hK.out _ _ ⟨hb1.cell 0, hb1.cell 1, hx1.cell 3⟩ (fun hHeld2 => ?_)
          clear hK K
          try simp only [List.getElem_toArray, List.getElem_cons_succ, List.getElem_cons_zero]
          try simp only [Act.put, List.setIfInBounds_toArray, List.set_cons_zero, List.set_cons_succ]
          refine wpAnyH_take (i := 9) (v := ?_) rfl (by kernel_rfl) (by kernel_rfl) (by kernel_rfl) (fun _ _ _ h => h) (Or.inl ⟨by kernel_rfl, ?_⟩) (by assumption) ?_
          rotate_left
          · rintro w ⟨q1, q2, q3⟩; go_simp; (try with_reducible rfl)
          try simp only [List.getElem_toArray, List.getElem_cons_succ, List.getElem_cons_zero]
          try simp only [Act.put, List.setIfInBounds_toArray, List.set_cons_zero, List.set_cons_succ]
          refine wpAnyH_take (i := 10) (v := ?_) rfl (by kernel_rfl) (by kernel_rfl) (by kernel_rfl) (fun _ _ _ h => h) (Or.inl ⟨by kernel_rfl, ?_⟩) (by assumption) ?_
          rotate_left
          · rintro w ⟨q1, q2, q3⟩; go_simp; (try with_reducible rfl)
          try simp only [List.getElem_toArray, List.getElem_cons_succ, List.getElem_cons_zero]
          try simp only [Act.put, List.setIfInBounds_toArray, List.set_cons_zero, List.set_cons_succ]
          refine wpAnyH_take (i := 11) (v := ?_) rfl (by kernel_rfl) (by kernel_rfl) (by kernel_rfl) (fun _ _ _ h => h) (Or.inl ⟨by kernel_rfl, ?_⟩) (by assumption) ?_
          rotate_left
          · rintro w ⟨q1, q2, q3⟩; go_simp; (try with_reducible rfl)
          try simp only [List.getElem_toArray, List.getElem_cons_succ, List.getElem_cons_zero]
          try simp only [Act.put, List.setIfInBounds_toArray, List.set_cons_zero, List.set_cons_succ]
          refine wpAnyH_take (i := 12) (v := ?_) rfl (by kernel_rfl) (by kernel_rfl) (by kernel_rfl) (fun _ _ _ h => h) (Or.inl ⟨by kernel_rfl, ?_⟩) (by assumption) ?_
          rotate_left
          · rintro w ⟨q1, q2, q3⟩; go_simp; (try with_reducible rfl)
          try simp only [List.getElem_toArray, List.getElem_cons_succ, List.getElem_cons_zero]
          try simp only [Act.put, List.setIfInBounds_toArray, List.set_cons_zero, List.set_cons_succ]
          refine wpAnyH_take (i := 13) (v := ?_) rfl (by kernel_rfl) (by kernel_rfl) (by kernel_rfl) (fun _ _ _ h => h) (Or.inl ⟨by kernel_rfl, ?_⟩) (by assumption) ?_
          rotate_left
          · rintro w ⟨q1, q2, q3⟩; go_simp; (try with_reducible rfl)
          try simp only [List.getElem_toArray, List.getElem_cons_succ, List.getElem_cons_zero]
          try simp only [Act.put, List.setIfInBounds_toArray, List.set_cons_zero, List.set_cons_succ]
          refine wpAnyH_done (by kernel_rfl) ?_ _
          clear hHeld hHeld2
          have hb1d : Bx W1.drew P 56 #[.pointer (some ⟨R1, 0, none⟩), .pointer (some ⟨Q, 0, none⟩), vk] := hb1
          have hx1d : Bx W1.drew b3 58 #[.int .i64 sd, .int .i64 sa, .int .i64 sb, .int .i64 sc, .string st] := hx1
          have TB2 := Lib.hid (TB.out W1.drew HH.out.drew)
          clear TB TA HH hb1 hx1
          go_upto_region 14 with fail
          refine wp_region_held (S := fun X => X.cell? ⟨P, 0, none⟩ = some (.pointer (some ⟨R1, 0, none⟩)) ∧ X.cell? ⟨P, 1, none⟩ = some (.pointer (some ⟨Q, 0, none⟩)) ∧ X.cell? ⟨b3, 3, none⟩ = some (.int .i64 sc)) (by kernel_rfl) (show wpAnyH _ _ _ _ _ _ _ _ W1.drew from ?_)
          have hHeld : (fun X => X.cell? ⟨P, 0, none⟩ = some (.pointer (some ⟨R1, 0, none⟩)) ∧ X.cell? ⟨P, 1, none⟩ = some (.pointer (some ⟨Q, 0, none⟩)) ∧ X.cell? ⟨b3, 3, none⟩ = some (.int .i64 sc)) W1.drew := ⟨hb1d.cell 0, hb1d.cell 1, hx1d.cell 3⟩
          refine wpAnyH_take (i := 0) (v := ?_) rfl (by kernel_rfl) (by kernel_rfl) (by kernel_rfl) (fun _ _ _ h => h) (Or.inl ⟨by kernel_rfl, ?_⟩) (by assumption) ?_
          rotate_left
          · rintro w ⟨q1, q2, q3⟩; go_simp; (try with_reducible rfl)
          try simp only [List.getElem_toArray, List.getElem_cons_succ, List.getElem_cons_zero]
          try simp only [Act.put, List.setIfInBounds_toArray, List.set_cons_zero, List.set_cons_succ]
          refine wpAnyH_take (i := 1) (v := ?_) rfl (by kernel_rfl) (by kernel_rfl) (by kernel_rfl) (fun _ _ _ h => h) (Or.inl ⟨by kernel_rfl, ?_⟩) (by assumption) ?_
          rotate_left
          · rintro w ⟨q1, q2, q3⟩; go_simp; (try with_reducible rfl)
          try simp only [List.getElem_toArray, List.getElem_cons_succ, List.getElem_cons_zero]
          try simp only [Act.put, List.setIfInBounds_toArray, List.set_cons_zero, List.set_cons_succ]
          refine wpAnyH_take (i := 2) (v := ?_) rfl (by kernel_rfl) (by kernel_rfl) (by kernel_rfl) (fun _ _ _ h => h) (Or.inl ⟨by kernel_rfl, ?_⟩) (by assumption) ?_
          rotate_left
          · rintro w ⟨q1, q2, q3⟩; go_simp; (try with_reducible rfl)
          try simp only [List.getElem_toArray, List.getElem_cons_succ, List.getElem_cons_zero]
          try simp only [Act.put, List.setIfInBounds_toArray, List.set_cons_zero, List.set_cons_succ]
          refine wpAnyH_take (i := 3) (v := ?_) rfl (by kernel_rfl) (by kernel_rfl) (by kernel_rfl) (fun _ _ _ h => h) (Or.inl ⟨by kernel_rfl, ?_⟩) (by assumption) ?_
          rotate_left
          · rintro w ⟨q1, q2, q3⟩; go_simp; (try with_reducible rfl)
          try simp only [List.getElem_toArray, List.getElem_cons_succ, List.getElem_cons_zero]
          try simp only [Act.put, List.setIfInBounds_toArray, List.set_cons_zero, List.set_cons_succ]
          refine wpAnyH_take (i := 4) (v := ?_) rfl (by kernel_rfl) (by kernel_rfl) (by kernel_rfl) (fun _ _ _ h => h) (Or.inl ⟨by kernel_rfl, ?_⟩) (by assumption) ?_
          rotate_left
          · rintro w ⟨q1, q2, q3⟩; go_simp; (try with_reducible rfl)
          try simp only [List.getElem_toArray, List.getElem_cons_succ, List.getElem_cons_zero]
          try simp only [Act.put, List.setIfInBounds_toArray, List.set_cons_zero, List.set_cons_succ]
          refine wpAnyH_take (i := 5) (v := ?_) rfl (by kernel_rfl) (by kernel_rfl) (by kernel_rfl) (fun _ _ _ h => h) (Or.inl ⟨by kernel_rfl, ?_⟩) (by assumption) ?_
          rotate_left
          · rintro w ⟨q1, q2, q3⟩; go_simp; (try with_reducible rfl)
          try simp only [List.getElem_toArray, List.getElem_cons_succ, List.getElem_cons_zero]
          try simp only [Act.put, List.setIfInBounds_toArray, List.set_cons_zero, List.set_cons_succ]
          refine wpAnyH_take (i := 6) (v := ?_) rfl (by kernel_rfl) (by kernel_rfl) (by kernel_rfl) (fun _ _ _ h => h) (Or.inl ⟨by kernel_rfl, ?_⟩) (by assumption) ?_
          rotate_left
          · rintro w ⟨q1, q2, q3⟩; go_simp; (try with_reducible rfl)
          try simp only [List.getElem_toArray, List.getElem_cons_succ, List.getElem_cons_zero]
          try simp only [Act.put, List.setIfInBounds_toArray, List.set_cons_zero, List.set_cons_succ]
          refine wpAnyH_take (i := 7) (v := ?_) rfl (by kernel_rfl) (by kernel_rfl) (by kernel_rfl) (fun _ _ _ h => h) (Or.inl ⟨by kernel_rfl, ?_⟩) (by assumption) ?_
          rotate_left
          · rintro w ⟨q1, q2, q3⟩; go_simp; (try with_reducible rfl)
          try simp only [List.getElem_toArray, List.getElem_cons_succ, List.getElem_cons_zero]
          try simp only [Act.put, List.setIfInBounds_toArray, List.set_cons_zero, List.set_cons_succ]
          refine wpAnyH_ready (rs := [8]) (by kernel_rfl) (by simp) ?_
          refine AllReadyH.cons rfl (fun K hK => ?_) AllReadyH.nil
          go_simp
          rw [Htg.out]
          refine (TB2.out).mono ?_
          rintro e W2 ⟨rfl, HF⟩
          obtain ⟨g', f1, f2, f3, f4, f5⟩ := HF.out
          have hb2 := hbox W2 f2
          have hx2 := hx3 W2 f2
          have HP := Lib.hid (show StepPost w P (.returned (.bool true)) W2 from ⟨rfl, g', kept, vk, HD.out.turn f2 f1 f3 f4 f5⟩)
          clear f1 f2 f3 f4 f5 HF
          refine hK.out _ _ ⟨hb2.cell 0, hb2.cell 1, hx2.cell 3⟩ (fun hHeld3 => ?_)
          clear hK K
          try simp only [List.getElem_toArray, List.getElem_cons_succ, List.getElem_cons_zero]
          try simp only [Act.put, List.setIfInBounds_toArray, List.set_cons_zero, List.set_cons_succ]
          refine wpAnyH_take (i := 9) (v := ?_) rfl (by kernel_rfl) (by kernel_rfl) (by kernel_rfl) (fun _ _ _ h => h) (Or.inl ⟨by kernel_rfl, ?_⟩) (by assumption) ?_
          rotate_left
          · rintro w ⟨q1, q2, q3⟩; go_simp; (try with_reducible rfl)
          try simp only [List.getElem_toArray, List.getElem_cons_succ, List.getElem_cons_zero]
          try simp only [Act.put, List.setIfInBounds_toArray, List.set_cons_zero, List.set_cons_succ]
          refine wpAnyH_take (i := 10) (v := ?_) rfl (by kernel_rfl) (by kernel_rfl) (by kernel_rfl) (fun _ _ _ h => h) (Or.inl ⟨by kernel_rfl, ?_⟩) (by assumption) ?_
          rotate_left
          · rintro w ⟨q1, q2, q3⟩; go_simp; (try with_reducible rfl)
          try simp only [List.getElem_toArray, List.getElem_cons_succ, List.getElem_cons_zero]
          try simp only [Act.put, List.setIfInBounds_toArray, List.set_cons_zero, List.set_cons_succ]
          refine wpAnyH_take (i := 11) (v := ?_) rfl (by kernel_rfl) (by kernel_rfl) (by kernel_rfl) (fun _ _ _ h => h) (Or.inl ⟨by kernel_rfl, ?_⟩) (by assumption) ?_
          rotate_left
          · rintro w ⟨q1, q2, q3⟩; go_simp; (try with_reducible rfl)
          try simp only [List.getElem_toArray, List.getElem_cons_succ, List.getElem_cons_zero]
          try simp only [Act.put, List.setIfInBounds_toArray, List.set_cons_zero, List.set_cons_succ]
          refine wpAnyH_take (i := 12) (v := ?_) rfl (by kernel_rfl) (by kernel_rfl) (by kernel_rfl) (fun _ _ _ h => h) (Or.inl ⟨by kernel_rfl, ?_⟩) (by assumption) ?_
          rotate_left
          · rintro w ⟨q1, q2, q3⟩; go_simp; (try with_reducible rfl)
          try simp only [List.getElem_toArray, List.getElem_cons_succ, List.getElem_cons_zero]
          try simp only [Act.put, List.setIfInBounds_toArray, List.set_cons_zero, List.set_cons_succ]
          refine wpAnyH_take (i := 13) (v := ?_) rfl (by kernel_rfl) (by kernel_rfl) (by kernel_rfl) (fun _ _ _ h => h) (Or.inl ⟨by kernel_rfl, ?_⟩) (by assumption) ?_
          rotate_left
          · rintro w ⟨q1, q2, q3⟩; go_simp; (try with_reducible rfl)
          try simp only [List.getElem_toArray, List.getElem_cons_succ, List.getElem_cons_zero]
          try simp only [Act.put, List.setIfInBounds_toArray, List.set_cons_zero, List.set_cons_succ]
          refine wpAnyH_done (by kernel_rfl) ?_ _
          clear hHeld hHeld3 hb2 hx2 hb1d hx1d TB2 hx3 hbox hbx
          go_wp2_with fail
          go_ret
          exact HP.out
    · obtain ⟨h2, hx2, hg⟩ := HS.out
      obtain ⟨R1, hR1⟩ : ∃ R1, cur.R = R1 := ⟨_, rfl⟩
      obtain ⟨Q, hQ⟩ : ∃ Q, cur.Q = Q := ⟨_, rfl⟩
      have hbx : Bx wc.drew P 56 #[.pointer (some ⟨R1, 0, none⟩), .pointer (some ⟨Q, 0, none⟩), vk] := by rw [← hR1, ← hQ]; exact h2.box
      have hgd : ErrH wc.drew := (hg.below hg.lt h2.below : ErrH wc)
      have hd2 : St w wc.drew P cur kept vk := h2.kb (Below.refl _ _).drew
      have hbox : ∀ W1, Chg wc.drew W1 (GmS cur) → Bx W1 P 56 #[.pointer (some ⟨R1, 0, none⟩), .pointer (some ⟨Q, 0, none⟩), vk] := fun W1 hc => by rw [← hR1, ← hQ]; exact hd2.box1 hc
      obtain ⟨⟨x, qs⟩, hx⟩ : ∃ x, shareS k cur.ps = x := ⟨_, rfl⟩
      have hA := Lib.hid (show Calls Tryd.prog 15 #[.agg #[.pointer (some ⟨R1, 0, none⟩)], .int .i64 k] wc.drew fun e w' => e = .returned (.int .i64 x) ∧ Hid (Half wc.drew w.heap.size cur cur.n qs w' ∧ Chg wc.drew w' (GmS cur)) from by
        have hq := pShare_calls wc.drew w.heap.size cur.R cur.v cur.n cur.ps k hd2.one.1 hgd hgw
        rw [hx, hR1] at hq
        exact hq.mono (fun e w' hp => by
          obtain ⟨he, v', a1, a2, a3⟩ := hp
          rw [← hR1] at a1 a2
          exact ⟨he, ⟨v', a1, a2, a3⟩, a2.mono (fun j _ hj => .inl hj)⟩))
      have hB := Lib.hid (show ∀ W1, Half wc.drew w.heap.size cur cur.n qs W1 → Calls Tryd.prog 36 #[.pointer (some ⟨Q, 0, none⟩), .int .i64 k] W1 fun e w' => e = .returned (.int .i64 x) ∧ Hid (Full wc.drew w.heap.size cur w') from fun W1 h1 => by
        have hq := rShare_calls W1 w.heap.size cur.Q cur.u cur.n cur.ps k (h1.rf hd2.one) hd2.one.1.wf
        rw [hx, hQ] at hq
        exact hq.mono (fun e w' hp => by
          obtain ⟨he, u', a1, a2, a3⟩ := hp
          rw [← hQ] at a1 a2
          exact ⟨he, h1.full hd2.one a1 a2 a3⟩))
      have HD := Lib.hid hd2
      clear h2 hx2 hg hd2 hgd HS
      go_wp2_with fail
      refine (hp12.out).mono ?_
      rintro e w' ⟨rfl, hw'⟩
      subst hw'
      clear hp12
      go_upto_region 17 with fail
      refine wp_region_held (S := fun X => X.cell? ⟨P, 0, none⟩ = some (.pointer (some ⟨R1, 0, none⟩)) ∧ X.cell? ⟨P, 1, none⟩ = some (.pointer (some ⟨Q, 0, none⟩))) (by kernel_rfl) (show wpAnyH _ _ _ _ _ _ _ _ wc.drew from ?_)
      have hHeld : (fun X => X.cell? ⟨P, 0, none⟩ = some (.pointer (some ⟨R1, 0, none⟩)) ∧ X.cell? ⟨P, 1, none⟩ = some (.pointer (some ⟨Q, 0, none⟩))) wc.drew := ⟨hbx.cell 0, hbx.cell 1⟩
      refine wpAnyH_take (i := 0) (v := ?_) rfl (by kernel_rfl) (by kernel_rfl) (by kernel_rfl) (fun _ _ _ h => h) (Or.inl ⟨by kernel_rfl, ?_⟩) (by assumption) ?_
      rotate_left
      · rintro w ⟨q1, q2⟩; go_simp; (try with_reducible rfl)
      try simp only [List.getElem_toArray, List.getElem_cons_succ, List.getElem_cons_zero]
      try simp only [Act.put, List.setIfInBounds_toArray, List.set_cons_zero, List.set_cons_succ]
      refine wpAnyH_take (i := 1) (v := ?_) rfl (by kernel_rfl) (by kernel_rfl) (by kernel_rfl) (fun _ _ _ h => h) (Or.inl ⟨by kernel_rfl, ?_⟩) (by assumption) ?_
      rotate_left
      · rintro w ⟨q1, q2⟩; go_simp; (try with_reducible rfl)
      try simp only [List.getElem_toArray, List.getElem_cons_succ, List.getElem_cons_zero]
      try simp only [Act.put, List.setIfInBounds_toArray, List.set_cons_zero, List.set_cons_succ]
      refine wpAnyH_take (i := 2) (v := ?_) rfl (by kernel_rfl) (by kernel_rfl) (by kernel_rfl) (fun _ _ _ h => h) (Or.inl ⟨by kernel_rfl, ?_⟩) (by assumption) ?_
      rotate_left
      · rintro w ⟨q1, q2⟩; go_simp; (try with_reducible rfl)
      try simp only [List.getElem_toArray, List.getElem_cons_succ, List.getElem_cons_zero]
      try simp only [Act.put, List.setIfInBounds_toArray, List.set_cons_zero, List.set_cons_succ]
      refine wpAnyH_take (i := 3) (v := ?_) rfl (by kernel_rfl) (by kernel_rfl) (by kernel_rfl) (fun _ _ _ h => h) (Or.inl ⟨by kernel_rfl, ?_⟩) (by assumption) ?_
      rotate_left
      · rintro w ⟨q1, q2⟩; go_simp; (try with_reducible rfl)
      try simp only [List.getElem_toArray, List.getElem_cons_succ, List.getElem_cons_zero]
      try simp only [Act.put, List.setIfInBounds_toArray, List.set_cons_zero, List.set_cons_succ]
      refine wpAnyH_take (i := 4) (v := ?_) rfl (by kernel_rfl) (by kernel_rfl) (by kernel_rfl) (fun _ _ _ h => h) (Or.inl ⟨by kernel_rfl, ?_⟩) (by assumption) ?_
      rotate_left
      · rintro w ⟨q1, q2⟩; go_simp; (try with_reducible rfl)
      try simp only [List.getElem_toArray, List.getElem_cons_succ, List.getElem_cons_zero]
      try simp only [Act.put, List.setIfInBounds_toArray, List.set_cons_zero, List.set_cons_succ]
      refine wpAnyH_take (i := 6) (v := ?_) rfl (by kernel_rfl) (by kernel_rfl) (by kernel_rfl) (fun _ _ _ h => h) (Or.inl ⟨by kernel_rfl, ?_⟩) (by assumption) ?_
      rotate_left
      · rintro w ⟨q1, q2⟩; go_simp; (try with_reducible rfl)
      try simp only [List.getElem_toArray, List.getElem_cons_succ, List.getElem_cons_zero]
      try simp only [Act.put, List.setIfInBounds_toArray, List.set_cons_zero, List.set_cons_succ]
      refine wpAnyH_take (i := 7) (v := ?_) rfl (by kernel_rfl) (by kernel_rfl) (by kernel_rfl) (fun _ _ _ h => h) (Or.inl ⟨by kernel_rfl, ?_⟩) (by assumption) ?_
      rotate_left
      · rintro w ⟨q1, q2⟩; go_simp; (try with_reducible rfl)
      try simp only [List.getElem_toArray, List.getElem_cons_succ, List.getElem_cons_zero]
      try simp only [Act.put, List.setIfInBounds_toArray, List.set_cons_zero, List.set_cons_succ]
      refine wpAnyH_take (i := 8) (v := ?_) rfl (by kernel_rfl) (by kernel_rfl) (by kernel_rfl) (fun _ _ _ h => h) (Or.inl ⟨by kernel_rfl, ?_⟩) (by assumption) ?_
      rotate_left
      · rintro w ⟨q1, q2⟩; go_simp; (try with_reducible rfl)
      try simp only [List.getElem_toArray, List.getElem_cons_succ, List.getElem_cons_zero]
      try simp only [Act.put, List.setIfInBounds_toArray, List.set_cons_zero, List.set_cons_succ]
      refine wpAnyH_take (i := 9) (v := ?_) rfl (by kernel_rfl) (by kernel_rfl) (by kernel_rfl) (fun _ _ _ h => h) (Or.inl ⟨by kernel_rfl, ?_⟩) (by assumption) ?_
      rotate_left
      · rintro w ⟨q1, q2⟩; go_simp; (try with_reducible rfl)
      try simp only [List.getElem_toArray, List.getElem_cons_succ, List.getElem_cons_zero]
      try simp only [Act.put, List.setIfInBounds_toArray, List.set_cons_zero, List.set_cons_succ]
      refine wpAnyH_take (i := 10) (v := ?_) rfl (by kernel_rfl) (by kernel_rfl) (by kernel_rfl) (fun _ _ _ h => h) (Or.inl ⟨by kernel_rfl, ?_⟩) (by assumption) ?_
      rotate_left
      · rintro w ⟨q1, q2⟩; go_simp; (try with_reducible rfl)
      try simp only [List.getElem_toArray, List.getElem_cons_succ, List.getElem_cons_zero]
      try simp only [Act.put, List.setIfInBounds_toArray, List.set_cons_zero, List.set_cons_succ]
      refine wpAnyH_ready (rs := [5]) (by kernel_rfl) (by simp) ?_
      refine AllReadyH.cons rfl (fun K hK => ?_) AllReadyH.nil
      go_simp
      refine (hA.out).mono ?_
      rintro e W1 ⟨rfl, HH⟩
      have hb1 := hbox W1 HH.out.2
      refine hK.out _ _ ⟨hb1.cell 0, hb1.cell 1⟩ (fun hHeld2 => ?_)
      clear hK K
      try simp only [List.getElem_toArray, List.getElem_cons_succ, List.getElem_cons_zero]
      try simp only [Act.put, List.setIfInBounds_toArray, List.set_cons_zero, List.set_cons_succ]
      refine wpAnyH_ready (rs := [11]) (by kernel_rfl) (by simp) ?_
      refine AllReadyH.cons rfl (fun K hK => ?_) AllReadyH.nil
      go_simp
      refine (hB.out W1 HH.out.1).mono ?_
      rintro e W2 ⟨rfl, HF⟩
      obtain ⟨g', f1, f2, f3, f4, f5⟩ := HF.out
      have hb2 := hbox W2 f2
      have HP := Lib.hid (show StepPost w P (.returned (.bool true)) W2 from ⟨rfl, g', kept, vk, HD.out.turn f2 f1 f3 f4 f5⟩)
      clear f1 f2 f3 f4 f5 HF
      refine hK.out _ _ ⟨hb2.cell 0, hb2.cell 1⟩ (fun hHeld3 => ?_)
      clear hK K
      try simp only [List.getElem_toArray, List.getElem_cons_succ, List.getElem_cons_zero]
      try simp only [Act.put, List.setIfInBounds_toArray, List.set_cons_zero, List.set_cons_succ]
      refine wpAnyH_take (i := 12) (v := ?_) rfl (by kernel_rfl) (by kernel_rfl) (by kernel_rfl) (fun _ _ _ h => h) (Or.inl ⟨by kernel_rfl, ?_⟩) (by assumption) ?_
      rotate_left
      · rintro w ⟨q1, q2⟩; go_simp; (try with_reducible rfl)
      try simp only [List.getElem_toArray, List.getElem_cons_succ, List.getElem_cons_zero]
      try simp only [Act.put, List.setIfInBounds_toArray, List.set_cons_zero, List.set_cons_succ]
      refine wpAnyH_take (i := 13) (v := ?_) rfl (by kernel_rfl) (by kernel_rfl) (by kernel_rfl) (fun _ _ _ h => h) (Or.inl ⟨by kernel_rfl, ?_⟩) (by assumption) ?_
      rotate_left
      · rintro w ⟨q1, q2⟩; go_simp; (try with_reducible rfl)
      try simp only [List.getElem_toArray, List.getElem_cons_succ, List.getElem_cons_zero]
      try simp only [Act.put, List.setIfInBounds_toArray, List.set_cons_zero, List.set_cons_succ]
      refine wpAnyH_done (by kernel_rfl) ?_ _
      clear hHeld hHeld2 hHeld3 hb1 hb2
      go_wp2_with fail
      go_ret
      exact HP.out
    · obtain ⟨h2, hx2, hg⟩ := HS.out
      obtain ⟨R1, hR1⟩ : ∃ R1, cur.R = R1 := ⟨_, rfl⟩
      obtain ⟨Q, hQ⟩ : ∃ Q, cur.Q = Q := ⟨_, rfl⟩
      have hbx : Bx wc.drew P 56 #[.pointer (some ⟨R1, 0, none⟩), .pointer (some ⟨Q, 0, none⟩), vk] := by rw [← hR1, ← hQ]; exact h2.box
      have hgd : ErrH wc.drew := (hg.below hg.lt h2.below : ErrH wc)
      have hd2 : St w wc.drew P cur kept vk := h2.kb (Below.refl _ _).drew
      have hbox : ∀ W1, Chg wc.drew W1 (GmS cur) → Bx W1 P 56 #[.pointer (some ⟨R1, 0, none⟩), .pointer (some ⟨Q, 0, none⟩), vk] := fun W1 hc => by rw [← hR1, ← hQ]; exact hd2.box1 hc
      obtain ⟨⟨x, qs⟩, hx⟩ : ∃ x, dropS k cur.ps = x := ⟨_, rfl⟩
      have hA := Lib.hid (show Calls Tryd.prog 14 #[.agg #[.pointer (some ⟨R1, 0, none⟩)], .int .i64 k] wc.drew fun e w' => e = .returned (.int .i64 x) ∧ Hid (Half wc.drew w.heap.size cur cur.n qs w' ∧ Chg wc.drew w' (GmS cur)) from by
        have hq := pDrop_calls wc.drew w.heap.size cur.R cur.v cur.n cur.ps k hd2.one.1 hgd hgw
        rw [hx, hR1] at hq
        exact hq.mono (fun e w' hp => by
          obtain ⟨he, v', a1, a2, a3⟩ := hp
          rw [← hR1] at a1 a2
          exact ⟨he, ⟨v', a1, a2, a3⟩, a2.mono (fun j _ hj => .inl hj)⟩))
      have hB := Lib.hid (show ∀ W1, Half wc.drew w.heap.size cur cur.n qs W1 → Calls Tryd.prog 37 #[.pointer (some ⟨Q, 0, none⟩), .int .i64 k] W1 fun e w' => e = .returned (.int .i64 x) ∧ Hid (Full wc.drew w.heap.size cur w') from fun W1 h1 => by
        have hq := rDrop_calls W1 w.heap.size cur.Q cur.u cur.n cur.ps k (h1.rf hd2.one) hd2.one.1.wf
        rw [hx, hQ] at hq
        exact hq.mono (fun e w' hp => by
          obtain ⟨he, u', a1, a2, a3⟩ := hp
          rw [← hQ] at a1 a2
          exact ⟨he, h1.full hd2.one a1 a2 a3⟩))
      have HD := Lib.hid hd2
      clear h2 hx2 hg hd2 hgd HS
      rcases hdd with rfl | rfl
      all_goals
        go_wp2_with fail
        refine (hp12.out).mono ?_
        rintro e w' ⟨rfl, hw'⟩
        subst hw'
        clear hp12
        go_upto_region 20 with fail
        refine wp_region_held (S := fun X => X.cell? ⟨P, 0, none⟩ = some (.pointer (some ⟨R1, 0, none⟩)) ∧ X.cell? ⟨P, 1, none⟩ = some (.pointer (some ⟨Q, 0, none⟩))) (by kernel_rfl) (show wpAnyH _ _ _ _ _ _ _ _ wc.drew from ?_)
        have hHeld : (fun X => X.cell? ⟨P, 0, none⟩ = some (.pointer (some ⟨R1, 0, none⟩)) ∧ X.cell? ⟨P, 1, none⟩ = some (.pointer (some ⟨Q, 0, none⟩))) wc.drew := ⟨hbx.cell 0, hbx.cell 1⟩
        refine wpAnyH_take (i := 0) (v := ?_) rfl (by kernel_rfl) (by kernel_rfl) (by kernel_rfl) (fun _ _ _ h => h) (Or.inl ⟨by kernel_rfl, ?_⟩) (by assumption) ?_
        rotate_left
        · rintro w ⟨q1, q2⟩; go_simp; (try with_reducible rfl)
        try simp only [List.getElem_toArray, List.getElem_cons_succ, List.getElem_cons_zero]
        try simp only [Act.put, List.setIfInBounds_toArray, List.set_cons_zero, List.set_cons_succ]
        refine wpAnyH_take (i := 1) (v := ?_) rfl (by kernel_rfl) (by kernel_rfl) (by kernel_rfl) (fun _ _ _ h => h) (Or.inl ⟨by kernel_rfl, ?_⟩) (by assumption) ?_
        rotate_left
        · rintro w ⟨q1, q2⟩; go_simp; (try with_reducible rfl)
        try simp only [List.getElem_toArray, List.getElem_cons_succ, List.getElem_cons_zero]
        try simp only [Act.put, List.setIfInBounds_toArray, List.set_cons_zero, List.set_cons_succ]
        refine wpAnyH_take (i := 2) (v := ?_) rfl (by kernel_rfl) (by kernel_rfl) (by kernel_rfl) (fun _ _ _ h => h) (Or.inl ⟨by kernel_rfl, ?_⟩) (by assumption) ?_
        rotate_left
        · rintro w ⟨q1, q2⟩; go_simp; (try with_reducible rfl)
        try simp only [List.getElem_toArray, List.getElem_cons_succ, List.getElem_cons_zero]
        try simp only [Act.put, List.setIfInBounds_toArray, List.set_cons_zero, List.set_cons_succ]
        refine wpAnyH_take (i := 3) (v := ?_) rfl (by kernel_rfl) (by kernel_rfl) (by kernel_rfl) (fun _ _ _ h => h) (Or.inl ⟨by kernel_rfl, ?_⟩) (by assumption) ?_
        rotate_left
        · rintro w ⟨q1, q2⟩; go_simp; (try with_reducible rfl)
        try simp only [List.getElem_toArray, List.getElem_cons_succ, List.getElem_cons_zero]
        try simp only [Act.put, List.setIfInBounds_toArray, List.set_cons_zero, List.set_cons_succ]
        refine wpAnyH_take (i := 4) (v := ?_) rfl (by kernel_rfl) (by kernel_rfl) (by kernel_rfl) (fun _ _ _ h => h) (Or.inl ⟨by kernel_rfl, ?_⟩) (by assumption) ?_
        rotate_left
        · rintro w ⟨q1, q2⟩; go_simp; (try with_reducible rfl)
        try simp only [List.getElem_toArray, List.getElem_cons_succ, List.getElem_cons_zero]
        try simp only [Act.put, List.setIfInBounds_toArray, List.set_cons_zero, List.set_cons_succ]
        refine wpAnyH_take (i := 6) (v := ?_) rfl (by kernel_rfl) (by kernel_rfl) (by kernel_rfl) (fun _ _ _ h => h) (Or.inl ⟨by kernel_rfl, ?_⟩) (by assumption) ?_
        rotate_left
        · rintro w ⟨q1, q2⟩; go_simp; (try with_reducible rfl)
        try simp only [List.getElem_toArray, List.getElem_cons_succ, List.getElem_cons_zero]
        try simp only [Act.put, List.setIfInBounds_toArray, List.set_cons_zero, List.set_cons_succ]
        refine wpAnyH_take (i := 7) (v := ?_) rfl (by kernel_rfl) (by kernel_rfl) (by kernel_rfl) (fun _ _ _ h => h) (Or.inl ⟨by kernel_rfl, ?_⟩) (by assumption) ?_
        rotate_left
        · rintro w ⟨q1, q2⟩; go_simp; (try with_reducible rfl)
        try simp only [List.getElem_toArray, List.getElem_cons_succ, List.getElem_cons_zero]
        try simp only [Act.put, List.setIfInBounds_toArray, List.set_cons_zero, List.set_cons_succ]
        refine wpAnyH_take (i := 8) (v := ?_) rfl (by kernel_rfl) (by kernel_rfl) (by kernel_rfl) (fun _ _ _ h => h) (Or.inl ⟨by kernel_rfl, ?_⟩) (by assumption) ?_
        rotate_left
        · rintro w ⟨q1, q2⟩; go_simp; (try with_reducible rfl)
        try simp only [List.getElem_toArray, List.getElem_cons_succ, List.getElem_cons_zero]
        try simp only [Act.put, List.setIfInBounds_toArray, List.set_cons_zero, List.set_cons_succ]
        refine wpAnyH_take (i := 9) (v := ?_) rfl (by kernel_rfl) (by kernel_rfl) (by kernel_rfl) (fun _ _ _ h => h) (Or.inl ⟨by kernel_rfl, ?_⟩) (by assumption) ?_
        rotate_left
        · rintro w ⟨q1, q2⟩; go_simp; (try with_reducible rfl)
        try simp only [List.getElem_toArray, List.getElem_cons_succ, List.getElem_cons_zero]
        try simp only [Act.put, List.setIfInBounds_toArray, List.set_cons_zero, List.set_cons_succ]
        refine wpAnyH_take (i := 10) (v := ?_) rfl (by kernel_rfl) (by kernel_rfl) (by kernel_rfl) (fun _ _ _ h => h) (Or.inl ⟨by kernel_rfl, ?_⟩) (by assumption) ?_
        rotate_left
        · rintro w ⟨q1, q2⟩; go_simp; (try with_reducible rfl)
        try simp only [List.getElem_toArray, List.getElem_cons_succ, List.getElem_cons_zero]
        try simp only [Act.put, List.setIfInBounds_toArray, List.set_cons_zero, List.set_cons_succ]
        refine wpAnyH_ready (rs := [5]) (by kernel_rfl) (by simp) ?_
        refine AllReadyH.cons rfl (fun K hK => ?_) AllReadyH.nil
        go_simp
        refine (hA.out).mono ?_
        rintro e W1 ⟨rfl, HH⟩
        have hb1 := hbox W1 HH.out.2
        refine hK.out _ _ ⟨hb1.cell 0, hb1.cell 1⟩ (fun hHeld2 => ?_)
        clear hK K
        try simp only [List.getElem_toArray, List.getElem_cons_succ, List.getElem_cons_zero]
        try simp only [Act.put, List.setIfInBounds_toArray, List.set_cons_zero, List.set_cons_succ]
        refine wpAnyH_ready (rs := [11]) (by kernel_rfl) (by simp) ?_
        refine AllReadyH.cons rfl (fun K hK => ?_) AllReadyH.nil
        go_simp
        refine (hB.out W1 HH.out.1).mono ?_
        rintro e W2 ⟨rfl, HF⟩
        obtain ⟨g', f1, f2, f3, f4, f5⟩ := HF.out
        have hb2 := hbox W2 f2
        have HP := Lib.hid (show StepPost w P (.returned (.bool true)) W2 from ⟨rfl, g', kept, vk, HD.out.turn f2 f1 f3 f4 f5⟩)
        clear f1 f2 f3 f4 f5 HF
        refine hK.out _ _ ⟨hb2.cell 0, hb2.cell 1⟩ (fun hHeld3 => ?_)
        clear hK K
        try simp only [List.getElem_toArray, List.getElem_cons_succ, List.getElem_cons_zero]
        try simp only [Act.put, List.setIfInBounds_toArray, List.set_cons_zero, List.set_cons_succ]
        refine wpAnyH_take (i := 12) (v := ?_) rfl (by kernel_rfl) (by kernel_rfl) (by kernel_rfl) (fun _ _ _ h => h) (Or.inl ⟨by kernel_rfl, ?_⟩) (by assumption) ?_
        rotate_left
        · rintro w ⟨q1, q2⟩; go_simp; (try with_reducible rfl)
        try simp only [List.getElem_toArray, List.getElem_cons_succ, List.getElem_cons_zero]
        try simp only [Act.put, List.setIfInBounds_toArray, List.set_cons_zero, List.set_cons_succ]
        refine wpAnyH_take (i := 13) (v := ?_) rfl (by kernel_rfl) (by kernel_rfl) (by kernel_rfl) (fun _ _ _ h => h) (Or.inl ⟨by kernel_rfl, ?_⟩) (by assumption) ?_
        rotate_left
        · rintro w ⟨q1, q2⟩; go_simp; (try with_reducible rfl)
        try simp only [List.getElem_toArray, List.getElem_cons_succ, List.getElem_cons_zero]
        try simp only [Act.put, List.setIfInBounds_toArray, List.set_cons_zero, List.set_cons_succ]
        refine wpAnyH_done (by kernel_rfl) ?_ _
        clear hHeld hHeld2 hHeld3 hb1 hb2
        go_wp2_with fail
        go_ret
        exact HP.out
    · obtain ⟨h2, hx2, hg⟩ := HS.out
      obtain ⟨R1, hR1⟩ : ∃ R1, cur.R = R1 := ⟨_, rfl⟩
      obtain ⟨Q, hQ⟩ : ∃ Q, cur.Q = Q := ⟨_, rfl⟩
      have hbx : Bx wc P 56 #[.pointer (some ⟨R1, 0, none⟩), .pointer (some ⟨Q, 0, none⟩), vk] := by rw [← hR1, ← hQ]; exact h2.box
      have q1 : wc.cell? ⟨P, 0, none⟩ = some (.pointer (some ⟨R1, 0, none⟩)) := hbx.cell 0
      have hA := pTurn_calls wc w.heap.size cur.R cur.v cur.n cur.ps h2.one.1 h2.below.size
      rw [hR1] at hA
      have hA := Lib.hid hA
      have H2 := Lib.hid (And.intro h2 (And.intro hR1 hQ))
      clear h2 hx2 hg HS hbx hR1 hQ
      go_wp2_with fail
      refine (hp12.out).mono ?_
      rintro e w' ⟨rfl, hw'⟩
      subst hw'
      clear hp12
      go_wp2_with fail
      refine (hA.out).mono ?_
      rintro e W1 ⟨rfl, v', a1, a2, a3⟩
      obtain ⟨h2, hR1, hQ⟩ := H2.out
      rw [← hR1] at a1 a2
      have hh : Half wc w.heap.size cur cur.n (turnS cur.ps) W1 := ⟨v', a1, a2, a3⟩
      have hb1 := h2.box1 (a2.mono (fun j _ hj => .inl hj))
      rw [hR1, hQ] at hb1
      have q2 : W1.cell? ⟨P, 1, none⟩ = some (.pointer (some ⟨Q, 0, none⟩)) := hb1.cell 1
      have hB := rTurn_calls W1 w.heap.size cur.Q cur.u cur.n cur.ps (hh.rf h2.one) h2.one.1.wf
      rw [hQ] at hB
      have hB := Lib.hid hB
      have HH := Lib.hid hh
      clear h2 hR1 hQ a1 a2 a3 hb1 hh hA q1
      go_wp2_with fail
      refine (hB.out).mono ?_
      rintro e W2 ⟨rfl, u', a1, a2, a3⟩
      obtain ⟨h2, hR1, hQ⟩ := H2.out
      rw [← hQ] at a1 a2
      obtain ⟨g', f1, f2, f3, f4, f5⟩ := HH.out.full h2.one a1 a2 a3
      have HP := Lib.hid (show StepPost w P (.returned (.bool true)) W2 from ⟨rfl, g', kept, vk, h2.turn f2 f1 f3 f4 f5⟩)
      clear h2 hR1 hQ a1 a2 a3 f1 f2 f3 f4 f5 HH hB q2
      go_wp2_with fail
      go_ret
      exact HP.out
    · clear hd0 hd12
      have hp1 := Lib.hid (lpick_calls sa 20 wc HO.out.2.1.1 HO.out.2.1.2 (by omega) (by omega))
      have hp2 := Lib.hid (lpick_calls sb 20 wc HO.out.2.2.1.1 HO.out.2.2.1.2 (by omega) (by omega))
      have hp3 := Lib.hid (lpick_calls sa 1073741824 wc HO.out.2.1.1 HO.out.2.1.2 (by omega) (by omega))
      obtain ⟨m12, hm12⟩ : ∃ m, sa % 20 = m := ⟨_, rfl⟩
      have hm12b : 0 ≤ m12 ∧ m12 < 20 := by omega
      rw [hm12] at hp1
      obtain ⟨m20, hm20⟩ : ∃ m, sb % 20 = m := ⟨_, rfl⟩
      rw [hm20] at hp2
      obtain ⟨m30, hm30⟩ : ∃ m, sa % 1073741824 = m := ⟨_, rfl⟩
      have hm30b : 0 ≤ m30 ∧ m30 ≤ 1073741823 := by omega
      rw [hm30] at hp3
      have qa : wc.cell? ⟨b3, 1, none⟩ = some (.int .i64 sa) := HS.out.2.1.cell 1
      have qb : wc.cell? ⟨b3, 2, none⟩ = some (.int .i64 sb) := HS.out.2.1.cell 2
      clear hm12 hm20 hm30
      go_wp2_with fail
      refine (hp12.out).mono ?_
      rintro e w' ⟨rfl, hw'⟩
      subst hw'
      clear hp12
      go_wp2_with fail
      refine (hp1.out).mono ?_
      rintro e w' ⟨rfl, hw'⟩
      subst hw'
      go_wp2_with fail
      refine (hp2.out).mono ?_
      rintro e w' ⟨rfl, hw'⟩
      subst hw'
      obtain ⟨k2, hk2⟩ : ∃ k2, (if m20 = 19 then 1073741824 + m30 else m12 - 3) = k2 := ⟨_, rfl⟩
      have Hn := Lib.hid (And.intro hk2 (And.intro hm30b hm12b))
      clear hk2 hp1 hp2
      go_upto_if 152 with fail
      go_cut [12] from 145 to 186 (fun t we => Hid (t = .int .i64 k2 ∧ we = wc))
      case first =>
        rename_i hJ hMt
        have HJ := PLift.up hJ
        clear hJ
        by_cases h19 : m20 = 19
        · have h19b : (m20 == 19) = true := by rw [beq_iff_eq]; exact h19
          have HR := Lib.hid (show 1073741824 + m30 = k2 from by rw [← Hn.out.1, if_pos h19])
          clear h19
          go_wp2_with fail
          refine (hp3.out).mono ?_
          rintro e w' ⟨rfl, hw'⟩
          subst hw'
          go_wp2_with fail
          have hJ := HJ.down
          go_meet
          case rel => exact Lib.hid ⟨by first | rw [HR.out] | (rw [← HR.out]; go_num), rfl⟩
        · have h19b : (m20 == 19) = false := by rw [beq_eq_false_iff_ne]; exact h19
          have HR := Lib.hid (show m12 - 3 = k2 from by rw [← Hn.out.1, if_neg h19])
          clear h19
          go_wp2_with fail
          have hJ := HJ.down
          go_meet
          case rel => exact Lib.hid ⟨by first | rw [HR.out] | (rw [← HR.out]; go_num), rfl⟩
      case rest =>
        obtain ⟨rfl, rfl⟩ := hcut.out
        clear hcut qa qb hp3 hm12b hm30b Hn
        obtain ⟨h2, hx2, hg⟩ := HS.out
        obtain ⟨R1, hR1⟩ : ∃ R1, cur.R = R1 := ⟨_, rfl⟩
        obtain ⟨Q, hQ⟩ : ∃ Q, cur.Q = Q := ⟨_, rfl⟩
        have hbx : Bx wc.drew P 56 #[.pointer (some ⟨R1, 0, none⟩), .pointer (some ⟨Q, 0, none⟩), vk] := by rw [← hR1, ← hQ]; exact h2.box
        have hgd : ErrH wc.drew := (hg.below hg.lt h2.below : ErrH wc)
        have hd2 : St w wc.drew P cur kept vk := h2.kb (Below.refl _ _).drew
        have hbox : ∀ W1, Chg wc.drew W1 (GmS cur) → Bx W1 P 56 #[.pointer (some ⟨R1, 0, none⟩), .pointer (some ⟨Q, 0, none⟩), vk] := fun W1 hc => by rw [← hR1, ← hQ]; exact hd2.box1 hc
        obtain ⟨x, n2, tA, tB⟩ := grow_pair hd2 hgd hgw k2
        rw [hR1] at tA
        rw [hQ] at tB
        have hA := Lib.hid (show Calls Tryd.prog 39 #[.agg #[.pointer (some ⟨R1, 0, none⟩)], .int .i64 k2] wc.drew fun e w' => e = .returned (.int .i64 x) ∧ Hid (Half wc.drew w.heap.size cur n2 cur.ps w' ∧ Chg wc.drew w' (GmS cur)) from tA.mono (fun e w' ⟨a, b⟩ => ⟨a, b, b.chg⟩))
        have hB := Lib.hid tB
        obtain ⟨Au2, cu2, huu2, -, -, hrn2, hQc2, -, -⟩ := Rf.at_ (f := rowP cur.ps) h2.one.2
        obtain ⟨r2, hr2⟩ : ∃ r2, cur.n = r2 := ⟨_, rfl⟩
        rw [hQ, hr2] at hQc2
        rw [hr2] at hrn2
        have p1 : wc.cell? ⟨P, 1, none⟩ = some (.pointer (some ⟨Q, 0, none⟩)) := hbx.cell 1
        have HP0 := Lib.hid (show StepPost w P (.returned (.bool true)) wc from ⟨rfl, cur, kept, vk, h2⟩)
        have HD := Lib.hid hd2
        clear h2 hx2 hg hd2 hgd HS tA tB hr2 huu2
        obtain ⟨b, hb⟩ : ∃ b, (decide (1000 < r2) && decide (0 < k2) && decide (k2 < 20)) = b := ⟨_, rfl⟩
        have Hbb := Lib.hid hb
        clear hb
        go_upto_region 29 with fail
        go_cut [173] from 157 to 172 (fun t we => Hid (t = .bool b ∧ we = wc))
        case first =>
          rename_i hJ hMt
          have HJ := PLift.up hJ
          clear hJ
          by_cases g1 : 1000 < r2
          · have z1 : decide (1000 < r2) = true := decide_eq_true g1
            have z1' : decide ((1000 : Int) < (r2 : Int)) = true := decide_eq_true (by omega)
            clear g1
            by_cases g2 : 0 < k2
            · have z2 : decide (0 < k2) = true := decide_eq_true g2
              clear g2
              obtain ⟨b3', hb3'⟩ : ∃ b', decide (k2 < 20) = b' := ⟨_, rfl⟩
              have HR := Lib.hid (show b3' = b from by rw [← Hbb.out, z1, z2, hb3']; rfl)
              go_wp2_with fail
              have hJ := HJ.down
              go_meet
              case rel => exact Lib.hid ⟨by rw [HR.out], rfl⟩
            · have z2 : decide (0 < k2) = false := decide_eq_false g2
              clear g2
              have HR := Lib.hid (show false = b from by rw [← Hbb.out, z1, z2]; rfl)
              go_wp2_with fail
              have hJ := HJ.down
              go_meet
              case rel => exact Lib.hid ⟨by rw [HR.out], rfl⟩
          · have z1 : decide (1000 < r2) = false := decide_eq_false g1
            have z1' : decide ((1000 : Int) < (r2 : Int)) = false := decide_eq_false (by omega)
            clear g1
            have HR := Lib.hid (show false = b from by rw [← Hbb.out, z1]; rfl)
            go_wp2_with fail
            have hJ := HJ.down
            go_meet
            case rel => exact Lib.hid ⟨by rw [HR.out], rfl⟩
        case rest =>
          obtain ⟨rfl, rfl⟩ := hcut.out
          clear hcut Hbb p1 hQc2
          cases b with
          | true =>
            go_wp2_with fail
            go_ret
            exact HP0.out
          | false =>
            clear HP0
            go_upto_region 31 with fail
            refine wp_region_held (S := fun X => X.cell? ⟨P, 0, none⟩ = some (.pointer (some ⟨R1, 0, none⟩)) ∧ X.cell? ⟨P, 1, none⟩ = some (.pointer (some ⟨Q, 0, none⟩))) (by kernel_rfl) (show wpAnyH _ _ _ _ _ _ _ _ wc.drew from ?_)
            have hHeld : (fun X => X.cell? ⟨P, 0, none⟩ = some (.pointer (some ⟨R1, 0, none⟩)) ∧ X.cell? ⟨P, 1, none⟩ = some (.pointer (some ⟨Q, 0, none⟩))) wc.drew := ⟨hbx.cell 0, hbx.cell 1⟩
            refine wpAnyH_take (i := 0) (v := ?_) rfl (by kernel_rfl) (by kernel_rfl) (by kernel_rfl) (fun _ _ _ h => h) (Or.inl ⟨by kernel_rfl, ?_⟩) (by assumption) ?_
            rotate_left
            · rintro w ⟨q1, q2⟩; go_simp; (try with_reducible rfl)
            try simp only [List.getElem_toArray, List.getElem_cons_succ, List.getElem_cons_zero]
            try simp only [Act.put, List.setIfInBounds_toArray, List.set_cons_zero, List.set_cons_succ]
            refine wpAnyH_take (i := 1) (v := ?_) rfl (by kernel_rfl) (by kernel_rfl) (by kernel_rfl) (fun _ _ _ h => h) (Or.inl ⟨by kernel_rfl, ?_⟩) (by assumption) ?_
            rotate_left
            · rintro w ⟨q1, q2⟩; go_simp; (try with_reducible rfl)
            try simp only [List.getElem_toArray, List.getElem_cons_succ, List.getElem_cons_zero]
            try simp only [Act.put, List.setIfInBounds_toArray, List.set_cons_zero, List.set_cons_succ]
            refine wpAnyH_take (i := 2) (v := ?_) rfl (by kernel_rfl) (by kernel_rfl) (by kernel_rfl) (fun _ _ _ h => h) (Or.inl ⟨by kernel_rfl, ?_⟩) (by assumption) ?_
            rotate_left
            · rintro w ⟨q1, q2⟩; go_simp; (try with_reducible rfl)
            try simp only [List.getElem_toArray, List.getElem_cons_succ, List.getElem_cons_zero]
            try simp only [Act.put, List.setIfInBounds_toArray, List.set_cons_zero, List.set_cons_succ]
            refine wpAnyH_take (i := 3) (v := ?_) rfl (by kernel_rfl) (by kernel_rfl) (by kernel_rfl) (fun _ _ _ h => h) (Or.inl ⟨by kernel_rfl, ?_⟩) (by assumption) ?_
            rotate_left
            · rintro w ⟨q1, q2⟩; go_simp; (try with_reducible rfl)
            try simp only [List.getElem_toArray, List.getElem_cons_succ, List.getElem_cons_zero]
            try simp only [Act.put, List.setIfInBounds_toArray, List.set_cons_zero, List.set_cons_succ]
            refine wpAnyH_take (i := 4) (v := ?_) rfl (by kernel_rfl) (by kernel_rfl) (by kernel_rfl) (fun _ _ _ h => h) (Or.inl ⟨by kernel_rfl, ?_⟩) (by assumption) ?_
            rotate_left
            · rintro w ⟨q1, q2⟩; go_simp; (try with_reducible rfl)
            try simp only [List.getElem_toArray, List.getElem_cons_succ, List.getElem_cons_zero]
            try simp only [Act.put, List.setIfInBounds_toArray, List.set_cons_zero, List.set_cons_succ]
            refine wpAnyH_take (i := 6) (v := ?_) rfl (by kernel_rfl) (by kernel_rfl) (by kernel_rfl) (fun _ _ _ h => h) (Or.inl ⟨by kernel_rfl, ?_⟩) (by assumption) ?_
            rotate_left
            · rintro w ⟨q1, q2⟩; go_simp; (try with_reducible rfl)
            try simp only [List.getElem_toArray, List.getElem_cons_succ, List.getElem_cons_zero]
            try simp only [Act.put, List.setIfInBounds_toArray, List.set_cons_zero, List.set_cons_succ]
            refine wpAnyH_take (i := 7) (v := ?_) rfl (by kernel_rfl) (by kernel_rfl) (by kernel_rfl) (fun _ _ _ h => h) (Or.inl ⟨by kernel_rfl, ?_⟩) (by assumption) ?_
            rotate_left
            · rintro w ⟨q1, q2⟩; go_simp; (try with_reducible rfl)
            try simp only [List.getElem_toArray, List.getElem_cons_succ, List.getElem_cons_zero]
            try simp only [Act.put, List.setIfInBounds_toArray, List.set_cons_zero, List.set_cons_succ]
            refine wpAnyH_take (i := 8) (v := ?_) rfl (by kernel_rfl) (by kernel_rfl) (by kernel_rfl) (fun _ _ _ h => h) (Or.inl ⟨by kernel_rfl, ?_⟩) (by assumption) ?_
            rotate_left
            · rintro w ⟨q1, q2⟩; go_simp; (try with_reducible rfl)
            try simp only [List.getElem_toArray, List.getElem_cons_succ, List.getElem_cons_zero]
            try simp only [Act.put, List.setIfInBounds_toArray, List.set_cons_zero, List.set_cons_succ]
            refine wpAnyH_take (i := 9) (v := ?_) rfl (by kernel_rfl) (by kernel_rfl) (by kernel_rfl) (fun _ _ _ h => h) (Or.inl ⟨by kernel_rfl, ?_⟩) (by assumption) ?_
            rotate_left
            · rintro w ⟨q1, q2⟩; go_simp; (try with_reducible rfl)
            try simp only [List.getElem_toArray, List.getElem_cons_succ, List.getElem_cons_zero]
            try simp only [Act.put, List.setIfInBounds_toArray, List.set_cons_zero, List.set_cons_succ]
            refine wpAnyH_take (i := 10) (v := ?_) rfl (by kernel_rfl) (by kernel_rfl) (by kernel_rfl) (fun _ _ _ h => h) (Or.inl ⟨by kernel_rfl, ?_⟩) (by assumption) ?_
            rotate_left
            · rintro w ⟨q1, q2⟩; go_simp; (try with_reducible rfl)
            try simp only [List.getElem_toArray, List.getElem_cons_succ, List.getElem_cons_zero]
            try simp only [Act.put, List.setIfInBounds_toArray, List.set_cons_zero, List.set_cons_succ]
            refine wpAnyH_ready (rs := [5]) (by kernel_rfl) (by simp) ?_
            refine AllReadyH.cons rfl (fun K hK => ?_) AllReadyH.nil
            go_simp
            refine (hA.out).mono ?_
            rintro e W1 ⟨rfl, HH⟩
            have hb1 := hbox W1 HH.out.2
            refine hK.out _ _ ⟨hb1.cell 0, hb1.cell 1⟩ (fun hHeld2 => ?_)
            clear hK K
            try simp only [List.getElem_toArray, List.getElem_cons_succ, List.getElem_cons_zero]
            try simp only [Act.put, List.setIfInBounds_toArray, List.set_cons_zero, List.set_cons_succ]
            refine wpAnyH_ready (rs := [11]) (by kernel_rfl) (by simp) ?_
            refine AllReadyH.cons rfl (fun K hK => ?_) AllReadyH.nil
            go_simp
            refine (hB.out W1 HH.out.1).mono ?_
            rintro e W2 ⟨rfl, HF⟩
            obtain ⟨g', f1, f2, f3, f4, f5⟩ := HF.out
            have hb2 := hbox W2 f2
            have HP := Lib.hid (show StepPost w P (.returned (.bool true)) W2 from ⟨rfl, g', kept, vk, HD.out.turn f2 f1 f3 f4 f5⟩)
            clear f1 f2 f3 f4 f5 HF
            refine hK.out _ _ ⟨hb2.cell 0, hb2.cell 1⟩ (fun hHeld3 => ?_)
            clear hK K
            try simp only [List.getElem_toArray, List.getElem_cons_succ, List.getElem_cons_zero]
            try simp only [Act.put, List.setIfInBounds_toArray, List.set_cons_zero, List.set_cons_succ]
            refine wpAnyH_take (i := 12) (v := ?_) rfl (by kernel_rfl) (by kernel_rfl) (by kernel_rfl) (fun _ _ _ h => h) (Or.inl ⟨by kernel_rfl, ?_⟩) (by assumption) ?_
            rotate_left
            · rintro w ⟨q1, q2⟩; go_simp; (try with_reducible rfl)
            try simp only [List.getElem_toArray, List.getElem_cons_succ, List.getElem_cons_zero]
            try simp only [Act.put, List.setIfInBounds_toArray, List.set_cons_zero, List.set_cons_succ]
            refine wpAnyH_take (i := 13) (v := ?_) rfl (by kernel_rfl) (by kernel_rfl) (by kernel_rfl) (fun _ _ _ h => h) (Or.inl ⟨by kernel_rfl, ?_⟩) (by assumption) ?_
            rotate_left
            · rintro w ⟨q1, q2⟩; go_simp; (try with_reducible rfl)
            try simp only [List.getElem_toArray, List.getElem_cons_succ, List.getElem_cons_zero]
            try simp only [Act.put, List.setIfInBounds_toArray, List.set_cons_zero, List.set_cons_succ]
            refine wpAnyH_done (by kernel_rfl) ?_ _
            clear hHeld hHeld2 hHeld3 hb1 hb2
            go_wp2_with fail
            go_ret
            exact HP.out
    · obtain ⟨h2, hx2, hg⟩ := HS.out
      obtain ⟨R1, hR1⟩ : ∃ R1, cur.R = R1 := ⟨_, rfl⟩
      obtain ⟨Q, hQ⟩ : ∃ Q, cur.Q = Q := ⟨_, rfl⟩
      obtain ⟨Ak, ck, hvk, hck1, hck2, -⟩ := h2.own.at_
      obtain ⟨nk, hnk⟩ : ∃ nk, kept.length = nk := ⟨_, rfl⟩
      rw [hnk] at hvk hck1
      have hbx : Bx wc P 56 #[.pointer (some ⟨R1, 0, none⟩), .pointer (some ⟨Q, 0, none⟩), .slice Ak nk ck] := by rw [← hR1, ← hQ, ← hvk]; exact h2.box
      have p2 : wc.cell? ⟨P, 2, none⟩ = some (.slice Ak nk ck) := hbx.cell 2
      have hf2 := h2.few
      rw [hnk] at hf2
      have HP0 := Lib.hid (show StepPost w P (.returned (.bool true)) wc from ⟨rfl, cur, kept, vk, h2⟩)
      have HD := Lib.hid (show St w wc.drew P cur kept vk ∧ cur.R = R1 ∧ cur.Q = Q ∧ vk = .slice Ak nk ck ∧ kept.length = nk from ⟨h2.kb (Below.refl _ _).drew, hR1, hQ, hvk, hnk⟩)
      have hbd : Bx wc.drew P 56 #[.pointer (some ⟨R1, 0, none⟩), .pointer (some ⟨Q, 0, none⟩), .slice Ak nk ck] := hbx
      clear h2 hx2 hg HS hR1 hQ hvk hnk hbx
      by_cases h4 : nk < 4
      · have h4i : (nk : Int) < 4 := by omega
        clear hf2
        go_wp2_with fail
        refine (hp12.out).mono ?_
        rintro e w' ⟨rfl, hw'⟩
        subst hw'
        clear hp12
        go_upto_region 34 with fail
        have hsp := HD.out.1.one.1
        have hrf := HD.out.1.one.2
        have hA := Lib.hid (show Calls Tryd.prog 41 #[.agg #[.pointer (some ⟨R1, 0, none⟩)]] wc.drew fun e w' => ∃ R' v', e = .returned (.agg #[.pointer (some ⟨R', 0, none⟩)]) ∧ Hid (Sp w' wc.drew.heap.size R' v' cur.n cur.ps ∧ Below wc.drew.heap.size wc.drew w') from by
          rw [← HD.out.2.1]
          exact pCopy_calls wc.drew _ cur.R cur.v cur.n cur.ps hsp)
        have hB := Lib.hid (show ∀ W1, Below wc.drew.heap.size wc.drew W1 → Calls Tryd.prog 42 #[.pointer (some ⟨Q, 0, none⟩)] W1 fun e w' => ∃ Q' u', e = .returned (.pointer (some ⟨Q', 0, none⟩)) ∧ Hid (Rf w' W1.heap.size Q' u' (rows cur.n cur.ps) ∧ Below W1.heap.size W1 w') from fun W1 hb => by
          rw [← HD.out.2.2.1]
          exact rCopy_calls W1 _ cur.Q cur.u cur.n cur.ps (hrf.below hb))
        have hBx := Lib.hid (show ∀ W1, Below wc.drew.heap.size wc.drew W1 → Bx W1 P 56 #[.pointer (some ⟨R1, 0, none⟩), .pointer (some ⟨Q, 0, none⟩), .slice Ak nk ck] from fun W1 hb => hbd.below hb hbd.lt)
        have p2d : wc.drew.cell? ⟨P, 2, none⟩ = some (.slice Ak nk ck) := p2
        have f0 : wc.drew.cell? ⟨P, 0, none⟩ = some (.pointer (some ⟨R1, 0, none⟩)) ∧ wc.drew.cell? ⟨P, 1, none⟩ = some (.pointer (some ⟨Q, 0, none⟩)) := ⟨hbd.cell 0, hbd.cell 1⟩
        clear hsp hrf p2
        refine wp_region_held (S := fun X => X.cell? ⟨P, 0, none⟩ = some (.pointer (some ⟨R1, 0, none⟩)) ∧ X.cell? ⟨P, 1, none⟩ = some (.pointer (some ⟨Q, 0, none⟩))) (by kernel_rfl) (show wpAnyH _ _ _ _ _ _ _ _ wc.drew from ?_)
        have hHeld : (fun X => X.cell? ⟨P, 0, none⟩ = some (.pointer (some ⟨R1, 0, none⟩)) ∧ X.cell? ⟨P, 1, none⟩ = some (.pointer (some ⟨Q, 0, none⟩))) wc.drew := f0
        refine wpAnyH_take (i := 0) (v := ?_) rfl (by kernel_rfl) (by kernel_rfl) (by kernel_rfl) (fun _ _ _ h => h) (Or.inl ⟨by kernel_rfl, ?_⟩) (by assumption) ?_
        rotate_left
        · rintro w ⟨q1, q2⟩; go_simp; (try with_reducible rfl)
        try simp only [List.getElem_toArray, List.getElem_cons_succ, List.getElem_cons_zero]
        try simp only [Act.put, List.setIfInBounds_toArray, List.set_cons_zero, List.set_cons_succ]
        refine wpAnyH_take (i := 1) (v := ?_) rfl (by kernel_rfl) (by kernel_rfl) (by kernel_rfl) (fun _ _ _ h => h) (Or.inl ⟨by kernel_rfl, ?_⟩) (by assumption) ?_
        rotate_left
        · rintro w ⟨q1, q2⟩; go_simp; (try with_reducible rfl)
        try simp only [List.getElem_toArray, List.getElem_cons_succ, List.getElem_cons_zero]
        try simp only [Act.put, List.setIfInBounds_toArray, List.set_cons_zero, List.set_cons_succ]
        refine wpAnyH_take (i := 2) (v := ?_) rfl (by kernel_rfl) (by kernel_rfl) (by kernel_rfl) (fun _ _ _ h => h) (Or.inl ⟨by kernel_rfl, ?_⟩) (by assumption) ?_
        rotate_left
        · rintro w ⟨q1, q2⟩; go_simp; (try with_reducible rfl)
        try simp only [List.getElem_toArray, List.getElem_cons_succ, List.getElem_cons_zero]
        try simp only [Act.put, List.setIfInBounds_toArray, List.set_cons_zero, List.set_cons_succ]
        refine wpAnyH_take (i := 3) (v := ?_) rfl (by kernel_rfl) (by kernel_rfl) (by kernel_rfl) (fun _ _ _ h => h) (Or.inl ⟨by kernel_rfl, ?_⟩) (by assumption) ?_
        rotate_left
        · rintro w ⟨q1, q2⟩; go_simp; (try with_reducible rfl)
        try simp only [List.getElem_toArray, List.getElem_cons_succ, List.getElem_cons_zero]
        try simp only [Act.put, List.setIfInBounds_toArray, List.set_cons_zero, List.set_cons_succ]
        refine wpAnyH_take (i := 5) (v := ?_) rfl (by kernel_rfl) (by kernel_rfl) (by kernel_rfl) (fun _ _ _ h => h) (Or.inl ⟨by kernel_rfl, ?_⟩) (by assumption) ?_
        rotate_left
        · rintro w ⟨q1, q2⟩; go_simp; (try with_reducible rfl)
        try simp only [List.getElem_toArray, List.getElem_cons_succ, List.getElem_cons_zero]
        try simp only [Act.put, List.setIfInBounds_toArray, List.set_cons_zero, List.set_cons_succ]
        refine wpAnyH_take (i := 6) (v := ?_) rfl (by kernel_rfl) (by kernel_rfl) (by kernel_rfl) (fun _ _ _ h => h) (Or.inl ⟨by kernel_rfl, ?_⟩) (by assumption) ?_
        rotate_left
        · rintro w ⟨q1, q2⟩; go_simp; (try with_reducible rfl)
        try simp only [List.getElem_toArray, List.getElem_cons_succ, List.getElem_cons_zero]
        try simp only [Act.put, List.setIfInBounds_toArray, List.set_cons_zero, List.set_cons_succ]
        refine wpAnyH_take (i := 7) (v := ?_) rfl (by kernel_rfl) (by kernel_rfl) (by kernel_rfl) (fun _ _ _ h => h) (Or.inl ⟨by kernel_rfl, ?_⟩) (by assumption) ?_
        rotate_left
        · rintro w ⟨q1, q2⟩; go_simp; (try with_reducible rfl)
        try simp only [List.getElem_toArray, List.getElem_cons_succ, List.getElem_cons_zero]
        try simp only [Act.put, List.setIfInBounds_toArray, List.set_cons_zero, List.set_cons_succ]
        refine wpAnyH_take (i := 8) (v := ?_) rfl (by kernel_rfl) (by kernel_rfl) (by kernel_rfl) (fun _ _ _ h => h) (Or.inl ⟨by kernel_rfl, ?_⟩) (by assumption) ?_
        rotate_left
        · rintro w ⟨q1, q2⟩; go_simp; (try with_reducible rfl)
        try simp only [List.getElem_toArray, List.getElem_cons_succ, List.getElem_cons_zero]
        try simp only [Act.put, List.setIfInBounds_toArray, List.set_cons_zero, List.set_cons_succ]
        refine wpAnyH_take (i := 10) (v := ?_) rfl (by kernel_rfl) (by kernel_rfl) (by kernel_rfl) (fun _ _ _ h => h) (Or.inl ⟨by kernel_rfl, ?_⟩) (by assumption) ?_
        rotate_left
        · rintro w ⟨q1, q2⟩; go_simp; (try with_reducible rfl)
        try simp only [List.getElem_toArray, List.getElem_cons_succ, List.getElem_cons_zero]
        try simp only [Act.put, List.setIfInBounds_toArray, List.set_cons_zero, List.set_cons_succ]
        refine wpAnyH_take (i := 11) (v := ?_) rfl (by kernel_rfl) (by kernel_rfl) (by kernel_rfl) (fun _ _ _ h => h) (Or.inl ⟨by kernel_rfl, ?_⟩) (by assumption) ?_
        rotate_left
        · rintro w ⟨q1, q2⟩; go_simp; (try with_reducible rfl)
        try simp only [List.getElem_toArray, List.getElem_cons_succ, List.getElem_cons_zero]
        try simp only [Act.put, List.setIfInBounds_toArray, List.set_cons_zero, List.set_cons_succ]
        refine wpAnyH_take (i := 12) (v := ?_) rfl (by kernel_rfl) (by kernel_rfl) (by kernel_rfl) (fun _ _ _ h => h) (Or.inl ⟨by kernel_rfl, ?_⟩) (by assumption) ?_
        rotate_left
        · rintro w ⟨q1, q2⟩; go_simp; (try with_reducible rfl)
        try simp only [List.getElem_toArray, List.getElem_cons_succ, List.getElem_cons_zero]
        try simp only [Act.put, List.setIfInBounds_toArray, List.set_cons_zero, List.set_cons_succ]
        refine wpAnyH_take (i := 13) (v := ?_) rfl (by kernel_rfl) (by kernel_rfl) (by kernel_rfl) (fun _ _ _ h => h) (Or.inl ⟨by kernel_rfl, ?_⟩) (by assumption) ?_
        rotate_left
        · rintro w ⟨q1, q2⟩; go_simp; (try with_reducible rfl)
        try simp only [List.getElem_toArray, List.getElem_cons_succ, List.getElem_cons_zero]
        try simp only [Act.put, List.setIfInBounds_toArray, List.set_cons_zero, List.set_cons_succ]
        refine wpAnyH_ready (rs := [4, 9]) (by kernel_rfl) (by simp) ?_
        refine AllReadyH.cons rfl (fun K hK => ?_) (AllReadyH.cons rfl (fun K hK => ?_) AllReadyH.nil)
        · go_simp
          refine hK.out _ _ f0 (fun hHeldL0 => ?_)
          clear hK K
          try simp only [List.getElem_toArray, List.getElem_cons_succ, List.getElem_cons_zero]
          try simp only [Act.put, List.setIfInBounds_toArray, List.set_cons_zero, List.set_cons_succ]
          refine wpAnyH_ready (rs := [9]) (by kernel_rfl) (by simp) ?_
          refine AllReadyH.cons rfl (fun K hK => ?_) AllReadyH.nil
          go_simp
          refine (hA.out).mono ?_
          rintro e W1 ⟨R', v', rfl, HH⟩
          have hb1 := hBx.out W1 HH.out.2
          have f1 : W1.cell? ⟨P, 0, none⟩ = some (.pointer (some ⟨R1, 0, none⟩)) ∧ W1.cell? ⟨P, 1, none⟩ = some (.pointer (some ⟨Q, 0, none⟩)) := ⟨hb1.cell 0, hb1.cell 1⟩
          have p21 : W1.cell? ⟨P, 2, none⟩ = some (.slice Ak nk ck) := hb1.cell 2
          refine hK.out _ _ f1 (fun hHeldA => ?_)
          clear hK K hb1
          try simp only [List.getElem_toArray, List.getElem_cons_succ, List.getElem_cons_zero]
          try simp only [Act.put, List.setIfInBounds_toArray, List.set_cons_zero, List.set_cons_succ]
          refine wpAnyH_ready (rs := [14]) (by kernel_rfl) (by simp) ?_
          refine AllReadyH.cons rfl (fun K hK => ?_) AllReadyH.nil
          go_simp
          refine (hB.out W1 HH.out.2).mono ?_
          rintro e W2 ⟨Q', u', rfl, HI⟩
          have hb2 := hBx.out W2 (HH.out.2.trans (HI.out.2.mono HH.out.2.size))
          have f2 : W2.cell? ⟨P, 0, none⟩ = some (.pointer (some ⟨R1, 0, none⟩)) ∧ W2.cell? ⟨P, 1, none⟩ = some (.pointer (some ⟨Q, 0, none⟩)) := ⟨hb2.cell 0, hb2.cell 1⟩
          have p22 : W2.cell? ⟨P, 2, none⟩ = some (.slice Ak nk ck) := hb2.cell 2
          refine hK.out _ _ f2 (fun hHeldB => ?_)
          clear hK K hb2
          try simp only [List.getElem_toArray, List.getElem_cons_succ, List.getElem_cons_zero]
          try simp only [Act.put, List.setIfInBounds_toArray, List.set_cons_zero, List.set_cons_succ]
          refine wpAnyH_take (i := 15) (v := ?_) rfl (by kernel_rfl) (by kernel_rfl) (by kernel_rfl) (fun _ _ _ h => h) (Or.inl ⟨by kernel_rfl, ?_⟩) (by assumption) ?_
          rotate_left
          · rintro w ⟨q1, q2⟩; go_simp; (try with_reducible rfl)
          try simp only [List.getElem_toArray, List.getElem_cons_succ, List.getElem_cons_zero]
          try simp only [Act.put, List.setIfInBounds_toArray, List.set_cons_zero, List.set_cons_succ]
          refine wpAnyH_ready (rs := [16]) (by kernel_rfl) (by simp) ?_
          refine AllReadyH.cons rfl (fun K hK => ?_) AllReadyH.nil
          go_simp
          obtain ⟨b6, hb6⟩ : ∃ b6, W2.heap.size = b6 := ⟨_, rfl⟩
          obtain ⟨W3, hW3⟩ : ∃ W3, W2.alloc (.cells #[.pointer (some ⟨R', 0, none⟩), .pointer (some ⟨Q', 0, none⟩)] 83) = W3 := ⟨_, rfl⟩
          obtain ⟨h2, hR1, hQ, hvk, hnk⟩ := HD.out
          have hx3 : Bx W3 b6 83 #[.pointer (some ⟨R', 0, none⟩), .pointer (some ⟨Q', 0, none⟩)] := by rw [← hW3, ← hb6]; exact Bx.new _ _ _
          have hb02 : Below wc.drew.heap.size wc.drew W2 := HH.out.2.trans (HI.out.2.mono HH.out.2.size)
          have hb03 : Below wc.drew.heap.size wc.drew W3 := by rw [← hW3]; exact hb02.alloc hb02.size _
          have hb23 : Below W2.heap.size W2 W3 := by rw [← hW3]; exact (Below.refl _ _).alloc (Nat.le_refl _) _
          have h3 := h2.kb hb03
          obtain ⟨A4, n4, c4, W4, hrun, ho4, hg4⟩ := appendK W3 w.heap.size vk kept h3.own h3.below.size b6 ⟨R', v', cur.n, cur.ps, Q', u'⟩ hx3 h2.few
          have hgm : GmI W3 wc.drew.heap.size ⟨R', v', cur.n, cur.ps, Q', u'⟩ := GmI.below (w := W2) (g := ⟨R', v', cur.n, cur.ps, Q', u'⟩) ⟨HH.out.1.below HI.out.2, HI.out.1.mono HH.out.2.size⟩ hb23
          have hpush := h2.push (by rw [hnk]; exact h4) hb03 hgm ho4 hg4
          rw [hvk] at hrun
          have hb3x := hBx.out W3 hb03
          have hx4 : Bx W4 P 56 #[.pointer (some ⟨R1, 0, none⟩), .pointer (some ⟨Q, 0, none⟩), .slice Ak nk ck] := (hg4.block P hb3x.lt (fun e => by
            rcases h3.own.2 with ⟨e2, _⟩ | ⟨g, cap, C, e2, _, hg2, _⟩
            · rw [e2] at e; cases e
            · rw [e2] at e; cases e; exact bx_ne (show Bx W3 _ 83 C from hg2) hb3x (by decide) rfl)).trans hb3x
          have hx5 := hx4.set 2 (.slice A4 n4 c4)
          have f3 : W3.cell? ⟨P, 0, none⟩ = some (.pointer (some ⟨R1, 0, none⟩)) ∧ W3.cell? ⟨P, 1, none⟩ = some (.pointer (some ⟨Q, 0, none⟩)) := ⟨hb3x.cell 0, hb3x.cell 1⟩
          have f4 : W4.cell? ⟨P, 0, none⟩ = some (.pointer (some ⟨R1, 0, none⟩)) ∧ W4.cell? ⟨P, 1, none⟩ = some (.pointer (some ⟨Q, 0, none⟩)) := ⟨hx4.cell 0, hx4.cell 1⟩
          have f5 : (W4.setCell ⟨P, 2, none⟩ (.slice A4 n4 c4)).cell? ⟨P, 0, none⟩ = some (.pointer (some ⟨R1, 0, none⟩)) ∧ (W4.setCell ⟨P, 2, none⟩ (.slice A4 n4 c4)).cell? ⟨P, 1, none⟩ = some (.pointer (some ⟨Q, 0, none⟩)) := ⟨hx5.cell 0, hx5.cell 1⟩
          have p23 : W3.cell? ⟨P, 2, none⟩ = some (.slice Ak nk ck) := hb3x.cell 2
          have p24 : W4.cell? ⟨P, 2, none⟩ = some (.slice Ak nk ck) := hx4.cell 2
          have pf4 : W4.frozen? ⟨P, 2, none⟩ = false := hx4.frozen 2
          have Rn := Lib.hid hrun
          have HP := Lib.hid (show StepPost w P (.returned (.bool true)) (W4.setCell ⟨P, 2, none⟩ (.slice A4 n4 c4)) from ⟨rfl, cur, _, _, hpush⟩)
          clear hx3 hb02 hb03 hb23 h3 hrun ho4 hg4 hgm hpush hb3x hx4 hx5 h2 hR1 hQ hvk hnk
          try rw [hb6, hW3]
          refine hK.out _ _ f3 (fun hHeldC => ?_)
          clear hK K
          try simp only [List.getElem_toArray, List.getElem_cons_succ, List.getElem_cons_zero]
          try simp only [Act.put, List.setIfInBounds_toArray, List.set_cons_zero, List.set_cons_succ]
          refine wpAnyH_ready (rs := [17]) (by kernel_rfl) (by simp) ?_
          refine AllReadyH.cons rfl (fun K hK => ?_) AllReadyH.nil
          refine step_append_runD rfl (.tmp 199) (.tmp 211) 54 54 rfl (by rfl) (by rfl) (by exact Rn.out) ?_
          refine hK.out _ _ f4 (fun hHeldD => ?_)
          clear hK K
          try simp only [List.getElem_toArray, List.getElem_cons_succ, List.getElem_cons_zero]
          try simp only [Act.put, List.setIfInBounds_toArray, List.set_cons_zero, List.set_cons_succ]
          refine wpAnyH_take (i := 18) (v := ?_) rfl (by kernel_rfl) (by kernel_rfl) (by kernel_rfl) (fun _ _ _ h => h) (Or.inl ⟨by kernel_rfl, ?_⟩) (by assumption) ?_
          rotate_left
          · rintro w ⟨q1, q2⟩; go_simp; (try with_reducible rfl)
          try simp only [List.getElem_toArray, List.getElem_cons_succ, List.getElem_cons_zero]
          try simp only [Act.put, List.setIfInBounds_toArray, List.set_cons_zero, List.set_cons_succ]
          refine wpAnyH_take (i := 19) (v := ?_) rfl (by kernel_rfl) (by kernel_rfl) (by kernel_rfl) (fun _ _ _ h => h) (Or.inl ⟨by kernel_rfl, ?_⟩) (by assumption) ?_
          rotate_left
          · rintro w ⟨q1, q2⟩; go_simp; (try with_reducible rfl)
          try simp only [List.getElem_toArray, List.getElem_cons_succ, List.getElem_cons_zero]
          try simp only [Act.put, List.setIfInBounds_toArray, List.set_cons_zero, List.set_cons_succ]
          refine wpAnyH_ready (rs := [20]) (by kernel_rfl) (by simp) ?_
          refine AllReadyH.cons rfl (fun K hK => ?_) AllReadyH.nil
          go_simp
          refine hK.out _ _ f5 (fun hHeldE => ?_)
          clear hK K
          try simp only [List.getElem_toArray, List.getElem_cons_succ, List.getElem_cons_zero]
          try simp only [Act.put, List.setIfInBounds_toArray, List.set_cons_zero, List.set_cons_succ]
          refine wpAnyH_done (by kernel_rfl) ?_ _
          clear f3 f4 f5 p23 p24 pf4 hHeldC hHeldD hHeldE
          go_wp2_with fail
          go_ret
          exact HP.out
        · go_simp
          refine (hA.out).mono ?_
          rintro e W1 ⟨R', v', rfl, HH⟩
          have hb1 := hBx.out W1 HH.out.2
          have f1 : W1.cell? ⟨P, 0, none⟩ = some (.pointer (some ⟨R1, 0, none⟩)) ∧ W1.cell? ⟨P, 1, none⟩ = some (.pointer (some ⟨Q, 0, none⟩)) := ⟨hb1.cell 0, hb1.cell 1⟩
          have p21 : W1.cell? ⟨P, 2, none⟩ = some (.slice Ak nk ck) := hb1.cell 2
          refine hK.out _ _ f1 (fun hHeldA => ?_)
          clear hK K hb1
          try simp only [List.getElem_toArray, List.getElem_cons_succ, List.getElem_cons_zero]
          try simp only [Act.put, List.setIfInBounds_toArray, List.set_cons_zero, List.set_cons_succ]
          refine wpAnyH_ready (rs := [4, 14]) (by kernel_rfl) (by simp) ?_
          refine AllReadyH.cons rfl (fun K hK => ?_) (AllReadyH.cons rfl (fun K hK => ?_) AllReadyH.nil)
          · go_simp
            refine hK.out _ _ f1 (fun hHeldL1 => ?_)
            clear hK K
            try simp only [List.getElem_toArray, List.getElem_cons_succ, List.getElem_cons_zero]
            try simp only [Act.put, List.setIfInBounds_toArray, List.set_cons_zero, List.set_cons_succ]
            refine wpAnyH_ready (rs := [14]) (by kernel_rfl) (by simp) ?_
            refine AllReadyH.cons rfl (fun K hK => ?_) AllReadyH.nil
            go_simp
            refine (hB.out W1 HH.out.2).mono ?_
            rintro e W2 ⟨Q', u', rfl, HI⟩
            have hb2 := hBx.out W2 (HH.out.2.trans (HI.out.2.mono HH.out.2.size))
            have f2 : W2.cell? ⟨P, 0, none⟩ = some (.pointer (some ⟨R1, 0, none⟩)) ∧ W2.cell? ⟨P, 1, none⟩ = some (.pointer (some ⟨Q, 0, none⟩)) := ⟨hb2.cell 0, hb2.cell 1⟩
            have p22 : W2.cell? ⟨P, 2, none⟩ = some (.slice Ak nk ck) := hb2.cell 2
            refine hK.out _ _ f2 (fun hHeldB => ?_)
            clear hK K hb2
            try simp only [List.getElem_toArray, List.getElem_cons_succ, List.getElem_cons_zero]
            try simp only [Act.put, List.setIfInBounds_toArray, List.set_cons_zero, List.set_cons_succ]
            refine wpAnyH_take (i := 15) (v := ?_) rfl (by kernel_rfl) (by kernel_rfl) (by kernel_rfl) (fun _ _ _ h => h) (Or.inl ⟨by kernel_rfl, ?_⟩) (by assumption) ?_
            rotate_left
            · rintro w ⟨q1, q2⟩; go_simp; (try with_reducible rfl)
            try simp only [List.getElem_toArray, List.getElem_cons_succ, List.getElem_cons_zero]
            try simp only [Act.put, List.setIfInBounds_toArray, List.set_cons_zero, List.set_cons_succ]
            refine wpAnyH_ready (rs := [16]) (by kernel_rfl) (by simp) ?_
            refine AllReadyH.cons rfl (fun K hK => ?_) AllReadyH.nil
            go_simp
            obtain ⟨b6, hb6⟩ : ∃ b6, W2.heap.size = b6 := ⟨_, rfl⟩
            obtain ⟨W3, hW3⟩ : ∃ W3, W2.alloc (.cells #[.pointer (some ⟨R', 0, none⟩), .pointer (some ⟨Q', 0, none⟩)] 83) = W3 := ⟨_, rfl⟩
            obtain ⟨h2, hR1, hQ, hvk, hnk⟩ := HD.out
            have hx3 : Bx W3 b6 83 #[.pointer (some ⟨R', 0, none⟩), .pointer (some ⟨Q', 0, none⟩)] := by rw [← hW3, ← hb6]; exact Bx.new _ _ _
            have hb02 : Below wc.drew.heap.size wc.drew W2 := HH.out.2.trans (HI.out.2.mono HH.out.2.size)
            have hb03 : Below wc.drew.heap.size wc.drew W3 := by rw [← hW3]; exact hb02.alloc hb02.size _
            have hb23 : Below W2.heap.size W2 W3 := by rw [← hW3]; exact (Below.refl _ _).alloc (Nat.le_refl _) _
            have h3 := h2.kb hb03
            obtain ⟨A4, n4, c4, W4, hrun, ho4, hg4⟩ := appendK W3 w.heap.size vk kept h3.own h3.below.size b6 ⟨R', v', cur.n, cur.ps, Q', u'⟩ hx3 h2.few
            have hgm : GmI W3 wc.drew.heap.size ⟨R', v', cur.n, cur.ps, Q', u'⟩ := GmI.below (w := W2) (g := ⟨R', v', cur.n, cur.ps, Q', u'⟩) ⟨HH.out.1.below HI.out.2, HI.out.1.mono HH.out.2.size⟩ hb23
            have hpush := h2.push (by rw [hnk]; exact h4) hb03 hgm ho4 hg4
            rw [hvk] at hrun
            have hb3x := hBx.out W3 hb03
            have hx4 : Bx W4 P 56 #[.pointer (some ⟨R1, 0, none⟩), .pointer (some ⟨Q, 0, none⟩), .slice Ak nk ck] := (hg4.block P hb3x.lt (fun e => by
              rcases h3.own.2 with ⟨e2, _⟩ | ⟨g, cap, C, e2, _, hg2, _⟩
              · rw [e2] at e; cases e
              · rw [e2] at e; cases e; exact bx_ne (show Bx W3 _ 83 C from hg2) hb3x (by decide) rfl)).trans hb3x
            have hx5 := hx4.set 2 (.slice A4 n4 c4)
            have f3 : W3.cell? ⟨P, 0, none⟩ = some (.pointer (some ⟨R1, 0, none⟩)) ∧ W3.cell? ⟨P, 1, none⟩ = some (.pointer (some ⟨Q, 0, none⟩)) := ⟨hb3x.cell 0, hb3x.cell 1⟩
            have f4 : W4.cell? ⟨P, 0, none⟩ = some (.pointer (some ⟨R1, 0, none⟩)) ∧ W4.cell? ⟨P, 1, none⟩ = some (.pointer (some ⟨Q, 0, none⟩)) := ⟨hx4.cell 0, hx4.cell 1⟩
            have f5 : (W4.setCell ⟨P, 2, none⟩ (.slice A4 n4 c4)).cell? ⟨P, 0, none⟩ = some (.pointer (some ⟨R1, 0, none⟩)) ∧ (W4.setCell ⟨P, 2, none⟩ (.slice A4 n4 c4)).cell? ⟨P, 1, none⟩ = some (.pointer (some ⟨Q, 0, none⟩)) := ⟨hx5.cell 0, hx5.cell 1⟩
            have p23 : W3.cell? ⟨P, 2, none⟩ = some (.slice Ak nk ck) := hb3x.cell 2
            have p24 : W4.cell? ⟨P, 2, none⟩ = some (.slice Ak nk ck) := hx4.cell 2
            have pf4 : W4.frozen? ⟨P, 2, none⟩ = false := hx4.frozen 2
            have Rn := Lib.hid hrun
            have HP := Lib.hid (show StepPost w P (.returned (.bool true)) (W4.setCell ⟨P, 2, none⟩ (.slice A4 n4 c4)) from ⟨rfl, cur, _, _, hpush⟩)
            clear hx3 hb02 hb03 hb23 h3 hrun ho4 hg4 hgm hpush hb3x hx4 hx5 h2 hR1 hQ hvk hnk
            try rw [hb6, hW3]
            refine hK.out _ _ f3 (fun hHeldC => ?_)
            clear hK K
            try simp only [List.getElem_toArray, List.getElem_cons_succ, List.getElem_cons_zero]
            try simp only [Act.put, List.setIfInBounds_toArray, List.set_cons_zero, List.set_cons_succ]
            refine wpAnyH_ready (rs := [17]) (by kernel_rfl) (by simp) ?_
            refine AllReadyH.cons rfl (fun K hK => ?_) AllReadyH.nil
            refine step_append_runD rfl (.tmp 199) (.tmp 211) 54 54 rfl (by rfl) (by rfl) (by exact Rn.out) ?_
            refine hK.out _ _ f4 (fun hHeldD => ?_)
            clear hK K
            try simp only [List.getElem_toArray, List.getElem_cons_succ, List.getElem_cons_zero]
            try simp only [Act.put, List.setIfInBounds_toArray, List.set_cons_zero, List.set_cons_succ]
            refine wpAnyH_take (i := 18) (v := ?_) rfl (by kernel_rfl) (by kernel_rfl) (by kernel_rfl) (fun _ _ _ h => h) (Or.inl ⟨by kernel_rfl, ?_⟩) (by assumption) ?_
            rotate_left
            · rintro w ⟨q1, q2⟩; go_simp; (try with_reducible rfl)
            try simp only [List.getElem_toArray, List.getElem_cons_succ, List.getElem_cons_zero]
            try simp only [Act.put, List.setIfInBounds_toArray, List.set_cons_zero, List.set_cons_succ]
            refine wpAnyH_take (i := 19) (v := ?_) rfl (by kernel_rfl) (by kernel_rfl) (by kernel_rfl) (fun _ _ _ h => h) (Or.inl ⟨by kernel_rfl, ?_⟩) (by assumption) ?_
            rotate_left
            · rintro w ⟨q1, q2⟩; go_simp; (try with_reducible rfl)
            try simp only [List.getElem_toArray, List.getElem_cons_succ, List.getElem_cons_zero]
            try simp only [Act.put, List.setIfInBounds_toArray, List.set_cons_zero, List.set_cons_succ]
            refine wpAnyH_ready (rs := [20]) (by kernel_rfl) (by simp) ?_
            refine AllReadyH.cons rfl (fun K hK => ?_) AllReadyH.nil
            go_simp
            refine hK.out _ _ f5 (fun hHeldE => ?_)
            clear hK K
            try simp only [List.getElem_toArray, List.getElem_cons_succ, List.getElem_cons_zero]
            try simp only [Act.put, List.setIfInBounds_toArray, List.set_cons_zero, List.set_cons_succ]
            refine wpAnyH_done (by kernel_rfl) ?_ _
            clear f3 f4 f5 p23 p24 pf4 hHeldC hHeldD hHeldE
            go_wp2_with fail
            go_ret
            exact HP.out
          · go_simp
            refine (hB.out W1 HH.out.2).mono ?_
            rintro e W2 ⟨Q', u', rfl, HI⟩
            have hb2 := hBx.out W2 (HH.out.2.trans (HI.out.2.mono HH.out.2.size))
            have f2 : W2.cell? ⟨P, 0, none⟩ = some (.pointer (some ⟨R1, 0, none⟩)) ∧ W2.cell? ⟨P, 1, none⟩ = some (.pointer (some ⟨Q, 0, none⟩)) := ⟨hb2.cell 0, hb2.cell 1⟩
            have p22 : W2.cell? ⟨P, 2, none⟩ = some (.slice Ak nk ck) := hb2.cell 2
            refine hK.out _ _ f2 (fun hHeldB => ?_)
            clear hK K hb2
            try simp only [List.getElem_toArray, List.getElem_cons_succ, List.getElem_cons_zero]
            try simp only [Act.put, List.setIfInBounds_toArray, List.set_cons_zero, List.set_cons_succ]
            refine wpAnyH_take (i := 15) (v := ?_) rfl (by kernel_rfl) (by kernel_rfl) (by kernel_rfl) (fun _ _ _ h => h) (Or.inl ⟨by kernel_rfl, ?_⟩) (by assumption) ?_
            rotate_left
            · rintro w ⟨q1, q2⟩; go_simp; (try with_reducible rfl)
            try simp only [List.getElem_toArray, List.getElem_cons_succ, List.getElem_cons_zero]
            try simp only [Act.put, List.setIfInBounds_toArray, List.set_cons_zero, List.set_cons_succ]
            refine wpAnyH_ready (rs := [4, 16]) (by kernel_rfl) (by simp) ?_
            refine AllReadyH.cons rfl (fun K hK => ?_) (AllReadyH.cons rfl (fun K hK => ?_) AllReadyH.nil)
            · go_simp
              refine hK.out _ _ f2 (fun hHeldL2 => ?_)
              clear hK K
              try simp only [List.getElem_toArray, List.getElem_cons_succ, List.getElem_cons_zero]
              try simp only [Act.put, List.setIfInBounds_toArray, List.set_cons_zero, List.set_cons_succ]
              refine wpAnyH_ready (rs := [16]) (by kernel_rfl) (by simp) ?_
              refine AllReadyH.cons rfl (fun K hK => ?_) AllReadyH.nil
              go_simp
              obtain ⟨b6, hb6⟩ : ∃ b6, W2.heap.size = b6 := ⟨_, rfl⟩
              obtain ⟨W3, hW3⟩ : ∃ W3, W2.alloc (.cells #[.pointer (some ⟨R', 0, none⟩), .pointer (some ⟨Q', 0, none⟩)] 83) = W3 := ⟨_, rfl⟩
              obtain ⟨h2, hR1, hQ, hvk, hnk⟩ := HD.out
              have hx3 : Bx W3 b6 83 #[.pointer (some ⟨R', 0, none⟩), .pointer (some ⟨Q', 0, none⟩)] := by rw [← hW3, ← hb6]; exact Bx.new _ _ _
              have hb02 : Below wc.drew.heap.size wc.drew W2 := HH.out.2.trans (HI.out.2.mono HH.out.2.size)
              have hb03 : Below wc.drew.heap.size wc.drew W3 := by rw [← hW3]; exact hb02.alloc hb02.size _
              have hb23 : Below W2.heap.size W2 W3 := by rw [← hW3]; exact (Below.refl _ _).alloc (Nat.le_refl _) _
              have h3 := h2.kb hb03
              obtain ⟨A4, n4, c4, W4, hrun, ho4, hg4⟩ := appendK W3 w.heap.size vk kept h3.own h3.below.size b6 ⟨R', v', cur.n, cur.ps, Q', u'⟩ hx3 h2.few
              have hgm : GmI W3 wc.drew.heap.size ⟨R', v', cur.n, cur.ps, Q', u'⟩ := GmI.below (w := W2) (g := ⟨R', v', cur.n, cur.ps, Q', u'⟩) ⟨HH.out.1.below HI.out.2, HI.out.1.mono HH.out.2.size⟩ hb23
              have hpush := h2.push (by rw [hnk]; exact h4) hb03 hgm ho4 hg4
              rw [hvk] at hrun
              have hb3x := hBx.out W3 hb03
              have hx4 : Bx W4 P 56 #[.pointer (some ⟨R1, 0, none⟩), .pointer (some ⟨Q, 0, none⟩), .slice Ak nk ck] := (hg4.block P hb3x.lt (fun e => by
                rcases h3.own.2 with ⟨e2, _⟩ | ⟨g, cap, C, e2, _, hg2, _⟩
                · rw [e2] at e; cases e
                · rw [e2] at e; cases e; exact bx_ne (show Bx W3 _ 83 C from hg2) hb3x (by decide) rfl)).trans hb3x
              have hx5 := hx4.set 2 (.slice A4 n4 c4)
              have f3 : W3.cell? ⟨P, 0, none⟩ = some (.pointer (some ⟨R1, 0, none⟩)) ∧ W3.cell? ⟨P, 1, none⟩ = some (.pointer (some ⟨Q, 0, none⟩)) := ⟨hb3x.cell 0, hb3x.cell 1⟩
              have f4 : W4.cell? ⟨P, 0, none⟩ = some (.pointer (some ⟨R1, 0, none⟩)) ∧ W4.cell? ⟨P, 1, none⟩ = some (.pointer (some ⟨Q, 0, none⟩)) := ⟨hx4.cell 0, hx4.cell 1⟩
              have f5 : (W4.setCell ⟨P, 2, none⟩ (.slice A4 n4 c4)).cell? ⟨P, 0, none⟩ = some (.pointer (some ⟨R1, 0, none⟩)) ∧ (W4.setCell ⟨P, 2, none⟩ (.slice A4 n4 c4)).cell? ⟨P, 1, none⟩ = some (.pointer (some ⟨Q, 0, none⟩)) := ⟨hx5.cell 0, hx5.cell 1⟩
              have p23 : W3.cell? ⟨P, 2, none⟩ = some (.slice Ak nk ck) := hb3x.cell 2
              have p24 : W4.cell? ⟨P, 2, none⟩ = some (.slice Ak nk ck) := hx4.cell 2
              have pf4 : W4.frozen? ⟨P, 2, none⟩ = false := hx4.frozen 2
              have Rn := Lib.hid hrun
              have HP := Lib.hid (show StepPost w P (.returned (.bool true)) (W4.setCell ⟨P, 2, none⟩ (.slice A4 n4 c4)) from ⟨rfl, cur, _, _, hpush⟩)
              clear hx3 hb02 hb03 hb23 h3 hrun ho4 hg4 hgm hpush hb3x hx4 hx5 h2 hR1 hQ hvk hnk
              try rw [hb6, hW3]
              refine hK.out _ _ f3 (fun hHeldC => ?_)
              clear hK K
              try simp only [List.getElem_toArray, List.getElem_cons_succ, List.getElem_cons_zero]
              try simp only [Act.put, List.setIfInBounds_toArray, List.set_cons_zero, List.set_cons_succ]
              refine wpAnyH_ready (rs := [17]) (by kernel_rfl) (by simp) ?_
              refine AllReadyH.cons rfl (fun K hK => ?_) AllReadyH.nil
              refine step_append_runD rfl (.tmp 199) (.tmp 211) 54 54 rfl (by rfl) (by rfl) (by exact Rn.out) ?_
              refine hK.out _ _ f4 (fun hHeldD => ?_)
              clear hK K
              try simp only [List.getElem_toArray, List.getElem_cons_succ, List.getElem_cons_zero]
              try simp only [Act.put, List.setIfInBounds_toArray, List.set_cons_zero, List.set_cons_succ]
              refine wpAnyH_take (i := 18) (v := ?_) rfl (by kernel_rfl) (by kernel_rfl) (by kernel_rfl) (fun _ _ _ h => h) (Or.inl ⟨by kernel_rfl, ?_⟩) (by assumption) ?_
              rotate_left
              · rintro w ⟨q1, q2⟩; go_simp; (try with_reducible rfl)
              try simp only [List.getElem_toArray, List.getElem_cons_succ, List.getElem_cons_zero]
              try simp only [Act.put, List.setIfInBounds_toArray, List.set_cons_zero, List.set_cons_succ]
              refine wpAnyH_take (i := 19) (v := ?_) rfl (by kernel_rfl) (by kernel_rfl) (by kernel_rfl) (fun _ _ _ h => h) (Or.inl ⟨by kernel_rfl, ?_⟩) (by assumption) ?_
              rotate_left
              · rintro w ⟨q1, q2⟩; go_simp; (try with_reducible rfl)
              try simp only [List.getElem_toArray, List.getElem_cons_succ, List.getElem_cons_zero]
              try simp only [Act.put, List.setIfInBounds_toArray, List.set_cons_zero, List.set_cons_succ]
              refine wpAnyH_ready (rs := [20]) (by kernel_rfl) (by simp) ?_
              refine AllReadyH.cons rfl (fun K hK => ?_) AllReadyH.nil
              go_simp
              refine hK.out _ _ f5 (fun hHeldE => ?_)
              clear hK K
              try simp only [List.getElem_toArray, List.getElem_cons_succ, List.getElem_cons_zero]
              try simp only [Act.put, List.setIfInBounds_toArray, List.set_cons_zero, List.set_cons_succ]
              refine wpAnyH_done (by kernel_rfl) ?_ _
              clear f3 f4 f5 p23 p24 pf4 hHeldC hHeldD hHeldE
              go_wp2_with fail
              go_ret
              exact HP.out
            · go_simp
              obtain ⟨b6, hb6⟩ : ∃ b6, W2.heap.size = b6 := ⟨_, rfl⟩
              obtain ⟨W3, hW3⟩ : ∃ W3, W2.alloc (.cells #[.pointer (some ⟨R', 0, none⟩), .pointer (some ⟨Q', 0, none⟩)] 83) = W3 := ⟨_, rfl⟩
              obtain ⟨h2, hR1, hQ, hvk, hnk⟩ := HD.out
              have hx3 : Bx W3 b6 83 #[.pointer (some ⟨R', 0, none⟩), .pointer (some ⟨Q', 0, none⟩)] := by rw [← hW3, ← hb6]; exact Bx.new _ _ _
              have hb02 : Below wc.drew.heap.size wc.drew W2 := HH.out.2.trans (HI.out.2.mono HH.out.2.size)
              have hb03 : Below wc.drew.heap.size wc.drew W3 := by rw [← hW3]; exact hb02.alloc hb02.size _
              have hb23 : Below W2.heap.size W2 W3 := by rw [← hW3]; exact (Below.refl _ _).alloc (Nat.le_refl _) _
              have h3 := h2.kb hb03
              obtain ⟨A4, n4, c4, W4, hrun, ho4, hg4⟩ := appendK W3 w.heap.size vk kept h3.own h3.below.size b6 ⟨R', v', cur.n, cur.ps, Q', u'⟩ hx3 h2.few
              have hgm : GmI W3 wc.drew.heap.size ⟨R', v', cur.n, cur.ps, Q', u'⟩ := GmI.below (w := W2) (g := ⟨R', v', cur.n, cur.ps, Q', u'⟩) ⟨HH.out.1.below HI.out.2, HI.out.1.mono HH.out.2.size⟩ hb23
              have hpush := h2.push (by rw [hnk]; exact h4) hb03 hgm ho4 hg4
              rw [hvk] at hrun
              have hb3x := hBx.out W3 hb03
              have hx4 : Bx W4 P 56 #[.pointer (some ⟨R1, 0, none⟩), .pointer (some ⟨Q, 0, none⟩), .slice Ak nk ck] := (hg4.block P hb3x.lt (fun e => by
                rcases h3.own.2 with ⟨e2, _⟩ | ⟨g, cap, C, e2, _, hg2, _⟩
                · rw [e2] at e; cases e
                · rw [e2] at e; cases e; exact bx_ne (show Bx W3 _ 83 C from hg2) hb3x (by decide) rfl)).trans hb3x
              have hx5 := hx4.set 2 (.slice A4 n4 c4)
              have f3 : W3.cell? ⟨P, 0, none⟩ = some (.pointer (some ⟨R1, 0, none⟩)) ∧ W3.cell? ⟨P, 1, none⟩ = some (.pointer (some ⟨Q, 0, none⟩)) := ⟨hb3x.cell 0, hb3x.cell 1⟩
              have f4 : W4.cell? ⟨P, 0, none⟩ = some (.pointer (some ⟨R1, 0, none⟩)) ∧ W4.cell? ⟨P, 1, none⟩ = some (.pointer (some ⟨Q, 0, none⟩)) := ⟨hx4.cell 0, hx4.cell 1⟩
              have f5 : (W4.setCell ⟨P, 2, none⟩ (.slice A4 n4 c4)).cell? ⟨P, 0, none⟩ = some (.pointer (some ⟨R1, 0, none⟩)) ∧ (W4.setCell ⟨P, 2, none⟩ (.slice A4 n4 c4)).cell? ⟨P, 1, none⟩ = some (.pointer (some ⟨Q, 0, none⟩)) := ⟨hx5.cell 0, hx5.cell 1⟩
              have p23 : W3.cell? ⟨P, 2, none⟩ = some (.slice Ak nk ck) := hb3x.cell 2
              have p24 : W4.cell? ⟨P, 2, none⟩ = some (.slice Ak nk ck) := hx4.cell 2
              have pf4 : W4.frozen? ⟨P, 2, none⟩ = false := hx4.frozen 2
              have Rn := Lib.hid hrun
              have HP := Lib.hid (show StepPost w P (.returned (.bool true)) (W4.setCell ⟨P, 2, none⟩ (.slice A4 n4 c4)) from ⟨rfl, cur, _, _, hpush⟩)
              clear hx3 hb02 hb03 hb23 h3 hrun ho4 hg4 hgm hpush hb3x hx4 hx5 h2 hR1 hQ hvk hnk
              try rw [hb6, hW3]
              refine hK.out _ _ f3 (fun hHeldC => ?_)
              clear hK K
              try simp only [List.getElem_toArray, List.getElem_cons_succ, List.getElem_cons_zero]
              try simp only [Act.put, List.setIfInBounds_toArray, List.set_cons_zero, List.set_cons_succ]
              refine wpAnyH_ready (rs := [4]) (by kernel_rfl) (by simp) ?_
              refine AllReadyH.cons rfl (fun K hK => ?_) AllReadyH.nil
              go_simp
              refine hK.out _ _ f3 (fun hHeldL3 => ?_)
              clear hK K
              try simp only [List.getElem_toArray, List.getElem_cons_succ, List.getElem_cons_zero]
              try simp only [Act.put, List.setIfInBounds_toArray, List.set_cons_zero, List.set_cons_succ]
              refine wpAnyH_ready (rs := [17]) (by kernel_rfl) (by simp) ?_
              refine AllReadyH.cons rfl (fun K hK => ?_) AllReadyH.nil
              refine step_append_runD rfl (.tmp 199) (.tmp 211) 54 54 rfl (by rfl) (by rfl) (by exact Rn.out) ?_
              refine hK.out _ _ f4 (fun hHeldD => ?_)
              clear hK K
              try simp only [List.getElem_toArray, List.getElem_cons_succ, List.getElem_cons_zero]
              try simp only [Act.put, List.setIfInBounds_toArray, List.set_cons_zero, List.set_cons_succ]
              refine wpAnyH_take (i := 18) (v := ?_) rfl (by kernel_rfl) (by kernel_rfl) (by kernel_rfl) (fun _ _ _ h => h) (Or.inl ⟨by kernel_rfl, ?_⟩) (by assumption) ?_
              rotate_left
              · rintro w ⟨q1, q2⟩; go_simp; (try with_reducible rfl)
              try simp only [List.getElem_toArray, List.getElem_cons_succ, List.getElem_cons_zero]
              try simp only [Act.put, List.setIfInBounds_toArray, List.set_cons_zero, List.set_cons_succ]
              refine wpAnyH_take (i := 19) (v := ?_) rfl (by kernel_rfl) (by kernel_rfl) (by kernel_rfl) (fun _ _ _ h => h) (Or.inl ⟨by kernel_rfl, ?_⟩) (by assumption) ?_
              rotate_left
              · rintro w ⟨q1, q2⟩; go_simp; (try with_reducible rfl)
              try simp only [List.getElem_toArray, List.getElem_cons_succ, List.getElem_cons_zero]
              try simp only [Act.put, List.setIfInBounds_toArray, List.set_cons_zero, List.set_cons_succ]
              refine wpAnyH_ready (rs := [20]) (by kernel_rfl) (by simp) ?_
              refine AllReadyH.cons rfl (fun K hK => ?_) AllReadyH.nil
              go_simp
              refine hK.out _ _ f5 (fun hHeldE => ?_)
              clear hK K
              try simp only [List.getElem_toArray, List.getElem_cons_succ, List.getElem_cons_zero]
              try simp only [Act.put, List.setIfInBounds_toArray, List.set_cons_zero, List.set_cons_succ]
              refine wpAnyH_done (by kernel_rfl) ?_ _
              clear f3 f4 f5 p23 p24 pf4 hHeldC hHeldD hHeldE
              go_wp2_with fail
              go_ret
              exact HP.out
      · obtain rfl : nk = 4 := by omega
        clear h4 hf2
        go_wp2_with fail
        refine (hp12.out).mono ?_
        rintro e w' ⟨rfl, hw'⟩
        subst hw'
        clear hp12
        skip
        go_wp2_with fail
        go_ret
        exact HP0.out
    · obtain ⟨h2, hx2, hg⟩ := HS.out
      obtain ⟨R1, hR1⟩ : ∃ R1, cur.R = R1 := ⟨_, rfl⟩
      obtain ⟨Q, hQ⟩ : ∃ Q, cur.Q = Q := ⟨_, rfl⟩
      obtain ⟨Ak, ck, hvk, hck1, hck2, hat⟩ := h2.own.at_
      obtain ⟨nk, hnk⟩ : ∃ nk, kept.length = nk := ⟨_, rfl⟩
      have hvk2 : vk = .slice Ak nk ck := by rw [← hnk]; exact hvk
      have hbx : Bx wc P 56 #[.pointer (some ⟨R1, 0, none⟩), .pointer (some ⟨Q, 0, none⟩), .slice Ak nk ck] := by rw [← hR1, ← hQ, ← hvk2]; exact h2.box
      have p2 : wc.cell? ⟨P, 2, none⟩ = some (.slice Ak nk ck) := hbx.cell 2
      have qa : wc.cell? ⟨b3, 1, none⟩ = some (.int .i64 sa) := hx2.cell 1
      have hf2 := h2.few
      rw [hnk] at hf2 hck1
      have HP0 := Lib.hid (show StepPost w P (.returned (.bool true)) wc from ⟨rfl, cur, kept, vk, h2⟩)
      by_cases h0 : nk = 0
      · subst h0
        clear h2 hx2 hg HS hR1 hQ hvk hvk2 hbx hat hnk hck1 hck2 hf2
        go_wp2_with fail
        refine (hp12.out).mono ?_
        rintro e w' ⟨rfl, hw'⟩
        subst hw'
        clear hp12
        go_wp2_with fail
        go_ret
        exact HP0.out
      · obtain ⟨i, hi⟩ : ∃ i : Nat, sa % (nk : Int) = (i : Int) := ⟨(sa % (nk : Int)).toNat, by have := Int.emod_nonneg sa (b := (nk : Int)) (by omega); omega⟩
        have hib : i < nk := by have := Int.emod_lt_of_pos sa (b := (nk : Int)) (by omega); omega
        have hpk := lpick_calls sa (nk : Int) wc.drew HO.out.2.1.1 HO.out.2.1.2 (by omega) (by omega)
        rw [hi] at hpk
        have hpk := Lib.hid hpk
        have hil : i < kept.length := by rw [hnk]; exact hib
        obtain ⟨g, hA, hvg, hgw, g0, g1, gf, Cg, hCg⟩ := hat i hil
        subst hA
        obtain ⟨Ri, hRi⟩ : ∃ Ri, kept[i].R = Ri := ⟨_, rfl⟩
        obtain ⟨Qi, hQi⟩ : ∃ Qi, kept[i].Q = Qi := ⟨_, rfl⟩
        rw [hRi] at g0
        rw [hQi] at g1
        obtain ⟨b5, hb5⟩ : ∃ b5, wc.drew.heap.size = b5 := ⟨_, rfl⟩
        have hB0 : Bx (wc.alloc (.cells #[.pointer none, .pointer none] 83)).drew b5 83 #[.pointer none, .pointer none] := by rw [← hb5]; exact Bx.new _ _ _
        obtain ⟨W1, hW1⟩ : ∃ W1, (wc.alloc (.cells #[.pointer none, .pointer none] 83)).drew.setRow b5 #[.pointer (some ⟨Ri, 0, none⟩), .pointer (some ⟨Qi, 0, none⟩)] = W1 := ⟨_, rfl⟩
        have HB := Lib.hid (And.intro hB0 hW1)
        have hx5 : Bx W1.drew b5 83 #[.pointer (some ⟨Ri, 0, none⟩), .pointer (some ⟨Qi, 0, none⟩)] := by rw [← hW1]; exact hB0.put
        have hb01 : Below wc.heap.size wc W1.drew := by
          rw [← hW1]
          exact (below_put ((Below.refl _ _).alloc (Nat.le_refl _) _).drew (by rw [← hb5]; exact Nat.le_refl _) _).drew
        have hs1 := h2.kb hb01
        have hbx1 : Bx W1.drew P 56 #[.pointer (some ⟨R1, 0, none⟩), .pointer (some ⟨Q, 0, none⟩), .slice (some ⟨g, 0, none⟩) nk ck] := hbx.below hb01 hbx.lt
        have hg5 : g < b5 := by rw [← hb5]; exact hCg.lt
        have hP5 : P < b5 := by rw [← hb5]; exact hbx.lt
        have hPg : P ≠ g := fun e => bx_ne (show Bx wc P 83 Cg from by rw [e]; exact hCg) hbx (by decide) rfl
        obtain ⟨ho2, hc2, ht2⟩ := hs1.own.whole hvg hil cur
        rw [hR1, hQ] at ho2 hc2
        obtain ⟨W2, hW2⟩ : ∃ W2, W1.drew.setCells g (i * 2) [.pointer (some ⟨R1, 0, none⟩), .pointer (some ⟨Q, 0, none⟩)] = W2 := ⟨_, rfl⟩
        have HW := Lib.hid (show W1.drew.there g (i * 2) (#[.pointer (some ⟨R1, 0, none⟩), .pointer (some ⟨Q, 0, none⟩)] : Array Value).size ∧ W1.drew.setCells g (i * 2) (#[.pointer (some ⟨R1, 0, none⟩), .pointer (some ⟨Q, 0, none⟩)] : Array Value).toList = W2 from ⟨ht2, hW2⟩)
        rw [hW2] at ho2 hc2
        have hn2 : ∀ j, j ≠ g → ¬ (vk.ownBlock = some j) := fun j hj e => hj (Option.some.inj (e.symm.trans hvg))
        have hx52 : Bx W2.drew b5 83 #[.pointer (some ⟨Ri, 0, none⟩), .pointer (some ⟨Qi, 0, none⟩)] := (hc2.block b5 hx5.lt (hn2 _ (by omega))).trans hx5
        have hbx2 : Bx W2.drew P 56 #[.pointer (some ⟨R1, 0, none⟩), .pointer (some ⟨Q, 0, none⟩), .slice (some ⟨g, 0, none⟩) nk ck] := (hc2.block P hbx1.lt (hn2 _ hPg)).trans hbx1
        obtain ⟨W3, hW3⟩ : ∃ W3, W2.drew.setCell ⟨P, 0, none⟩ (.pointer (some ⟨Ri, 0, none⟩)) = W3 := ⟨_, rfl⟩
        obtain ⟨W4, hW4⟩ : ∃ W4, W3.setCell ⟨P, 1, none⟩ (.pointer (some ⟨Qi, 0, none⟩)) = W4 := ⟨_, rfl⟩
        have hbx3 : Bx W3 P 56 #[.pointer (some ⟨Ri, 0, none⟩), .pointer (some ⟨Q, 0, none⟩), .slice (some ⟨g, 0, none⟩) nk ck] := by rw [← hW3]; exact hbx2.set 0 _
        have hbx4 : Bx W4 P 56 #[.pointer (some ⟨Ri, 0, none⟩), .pointer (some ⟨Qi, 0, none⟩), .slice (some ⟨g, 0, none⟩) nk ck] := by rw [← hW4]; exact hbx3.set 1 _
        have hx53 : Bx W3 b5 83 #[.pointer (some ⟨Ri, 0, none⟩), .pointer (some ⟨Qi, 0, none⟩)] := by rw [← hW3]; exact hx52.other (by omega) _ _
        have hx54 : Bx W4 b5 83 #[.pointer (some ⟨Ri, 0, none⟩), .pointer (some ⟨Qi, 0, none⟩)] := by rw [← hW4]; exact hx53.other (by omega) _ _
        have hc34 : Chg W2 W4 (fun j => j = P) := by
          rw [← hW4, ← hW3]
          exact (Chg.ofBelow (Below.refl _ W2).drew _).trans ((Chg.setCell W2.drew P 0 _).trans (Chg.setCell _ _ _ _))
        have hcall : Chg wc W4 (fun j => j = P ∨ j = g) := ((Chg.ofBelow hb01 _).trans (hc2.mono (fun j _ e => .inr (Option.some.inj (hvg.symm.trans e)).symm))).trans (hc34.mono (fun j _ e => .inl e))
        have ho4 : OwnK W4 w.heap.size vk (kept.set i cur) := ho2.chg hc34 (fun k C e hk e2 => hPg (by rw [← e2]; exact Option.some.inj (e.symm.trans hvg)))
        have hst := h2.swap i hil hvg hcall (by rw [hRi, hQi, hvk2]; exact hbx4) ho4
        have hI := pIs_calls W4 Ri
        have HI := Lib.hid (show Calls Tryd.prog 43 #[.agg #[.pointer (some ⟨Ri, 0, none⟩)]] W4 fun e w' => e = .returned (.bool true) ∧ Hid (StepPost w P e w') from hI.mono (fun e w' ⟨a, b⟩ => ⟨a, by rw [a]; exact ⟨rfl, _, _, _, hst.kb b⟩⟩))
        have p2d : wc.drew.cell? ⟨P, 2, none⟩ = some (.slice (some ⟨g, 0, none⟩) nk ck) := p2
        have g0d : wc.drew.cell? ⟨g, i * 2, none⟩ = some (.pointer (some ⟨Ri, 0, none⟩)) := g0
        have g1d : wc.drew.cell? ⟨g, i * 2 + 1, none⟩ = some (.pointer (some ⟨Qi, 0, none⟩)) := g1
        have f1 : W1.drew.cell? ⟨P, 0, none⟩ = some (.pointer (some ⟨R1, 0, none⟩)) ∧ W1.drew.cell? ⟨P, 1, none⟩ = some (.pointer (some ⟨Q, 0, none⟩)) ∧ W1.drew.cell? ⟨P, 2, none⟩ = some (.slice (some ⟨g, 0, none⟩) nk ck) := ⟨hbx1.cell 0, hbx1.cell 1, hbx1.cell 2⟩
        have f2 : W2.cell? ⟨P, 0, none⟩ = some (.pointer (some ⟨R1, 0, none⟩)) ∧ W2.cell? ⟨P, 1, none⟩ = some (.pointer (some ⟨Q, 0, none⟩)) ∧ W2.cell? ⟨P, 2, none⟩ = some (.slice (some ⟨g, 0, none⟩) nk ck) := ⟨hbx2.cell 0, hbx2.cell 1, hbx2.cell 2⟩
        have e2 : W2.drew.cell? ⟨b5, 0, none⟩ = some (.pointer (some ⟨Ri, 0, none⟩)) ∧ W2.drew.cell? ⟨b5, 1, none⟩ = some (.pointer (some ⟨Qi, 0, none⟩)) := ⟨hx52.cell 0, hx52.cell 1⟩
        have e3 : W3.cell? ⟨b5, 0, none⟩ = some (.pointer (some ⟨Ri, 0, none⟩)) ∧ W3.cell? ⟨b5, 1, none⟩ = some (.pointer (some ⟨Qi, 0, none⟩)) := ⟨hx53.cell 0, hx53.cell 1⟩
        have e4 : W4.cell? ⟨b5, 0, none⟩ = some (.pointer (some ⟨Ri, 0, none⟩)) ∧ W4.cell? ⟨b5, 1, none⟩ = some (.pointer (some ⟨Qi, 0, none⟩)) := ⟨hx54.cell 0, hx54.cell 1⟩
        have pf2 : W2.drew.frozen? ⟨P, 0, none⟩ = false := hbx2.frozen 0
        have c20 : W2.drew.cell? ⟨P, 0, none⟩ = some (.pointer (some ⟨R1, 0, none⟩)) := hbx2.cell 0
        have pf3 : W3.frozen? ⟨P, 1, none⟩ = false := hbx3.frozen 1
        have c31 : W3.cell? ⟨P, 1, none⟩ = some (.pointer (some ⟨Q, 0, none⟩)) := hbx3.cell 1
        have c40 : W4.cell? ⟨P, 0, none⟩ = some (.pointer (some ⟨Ri, 0, none⟩)) := hbx4.cell 0
        have HW34 := Lib.hid (And.intro (show (W2.setCell ⟨P, 0, none⟩ (.pointer (some ⟨Ri, 0, none⟩))).drew = W3 from hW3) hW4)
        have h0i : ¬ (nk : Int) = 0 := by omega
        have h0b : ((nk : Int) == 0) = false := by rw [beq_eq_false_iff_ne]; omega
        have hibi : (i : Int) < (nk : Int) := by omega
        clear h2 hx2 hg HS hR1 hQ hvk hvk2 hbx hat hnk hck1 hf2 HP0 hi hil hgw g0 g1 gf hCg hRi hQi hx5 hb01 hs1 hbx1 hg5 hP5 hPg ho2 hc2 ht2 hW2 hn2 hx52 hbx2 hbx3 hbx4 hx53 hx54 hc34 hcall ho4 hst hI hW3 hW4 hvg hB0 hW1
        go_wp2_with fail
        refine (hp12.out).mono ?_
        rintro e w' ⟨rfl, hw'⟩
        subst hw'
        clear hp12
        go_upto_region 39 with fail
        refine wp_region_held (S := fun X => X.cell? ⟨P, 2, none⟩ = some (.slice (some ⟨g, 0, none⟩) nk ck) ∧ X.cell? ⟨b3, 1, none⟩ = some (.int .i64 sa)) (by kernel_rfl) (show wpAnyH _ _ _ _ _ _ _ _ wc.drew from ?_)
        have hHeld : (fun X => X.cell? ⟨P, 2, none⟩ = some (.slice (some ⟨g, 0, none⟩) nk ck) ∧ X.cell? ⟨b3, 1, none⟩ = some (.int .i64 sa)) wc.drew := ⟨p2d, qa⟩
        refine wpAnyH_take (i := 0) (v := ?_) rfl (by kernel_rfl) (by kernel_rfl) (by kernel_rfl) (fun _ _ _ h => h) (Or.inl ⟨by kernel_rfl, ?_⟩) (by assumption) ?_
        rotate_left
        · rintro w ⟨q1, q2⟩; go_simp; (try with_reducible rfl)
        try simp only [List.getElem_toArray, List.getElem_cons_succ, List.getElem_cons_zero]
        try simp only [Act.put, List.setIfInBounds_toArray, List.set_cons_zero, List.set_cons_succ]
        refine wpAnyH_take (i := 1) (v := ?_) rfl (by kernel_rfl) (by kernel_rfl) (by kernel_rfl) (fun _ _ _ h => h) (Or.inl ⟨by kernel_rfl, ?_⟩) (by assumption) ?_
        rotate_left
        · rintro w ⟨q1, q2⟩; go_simp; (try with_reducible rfl)
        try simp only [List.getElem_toArray, List.getElem_cons_succ, List.getElem_cons_zero]
        try simp only [Act.put, List.setIfInBounds_toArray, List.set_cons_zero, List.set_cons_succ]
        refine wpAnyH_take (i := 2) (v := ?_) rfl (by kernel_rfl) (by kernel_rfl) (by kernel_rfl) (fun _ _ _ h => h) (Or.inl ⟨by kernel_rfl, ?_⟩) (by assumption) ?_
        rotate_left
        · rintro w ⟨q1, q2⟩; go_simp; (try with_reducible rfl)
        try simp only [List.getElem_toArray, List.getElem_cons_succ, List.getElem_cons_zero]
        try simp only [Act.put, List.setIfInBounds_toArray, List.set_cons_zero, List.set_cons_succ]
        refine wpAnyH_take (i := 3) (v := ?_) rfl (by kernel_rfl) (by kernel_rfl) (by kernel_rfl) (fun _ _ _ h => h) (Or.inl ⟨by kernel_rfl, ?_⟩) (by assumption) ?_
        rotate_left
        · rintro w ⟨q1, q2⟩; go_simp; (try with_reducible rfl)
        try simp only [List.getElem_toArray, List.getElem_cons_succ, List.getElem_cons_zero]
        try simp only [Act.put, List.setIfInBounds_toArray, List.set_cons_zero, List.set_cons_succ]
        refine wpAnyH_take (i := 4) (v := ?_) rfl (by kernel_rfl) (by kernel_rfl) (by kernel_rfl) (fun _ _ _ h => h) (Or.inl ⟨by kernel_rfl, ?_⟩) (by assumption) ?_
        rotate_left
        · rintro w ⟨q1, q2⟩; go_simp; (try with_reducible rfl)
        try simp only [List.getElem_toArray, List.getElem_cons_succ, List.getElem_cons_zero]
        try simp only [Act.put, List.setIfInBounds_toArray, List.set_cons_zero, List.set_cons_succ]
        refine wpAnyH_take (i := 5) (v := ?_) rfl (by kernel_rfl) (by kernel_rfl) (by kernel_rfl) (fun _ _ _ h => h) (Or.inl ⟨by kernel_rfl, ?_⟩) (by assumption) ?_
        rotate_left
        · rintro w ⟨q1, q2⟩; go_simp; (try with_reducible rfl)
        try simp only [List.getElem_toArray, List.getElem_cons_succ, List.getElem_cons_zero]
        try simp only [Act.put, List.setIfInBounds_toArray, List.set_cons_zero, List.set_cons_succ]
        refine wpAnyH_take (i := 6) (v := ?_) rfl (by kernel_rfl) (by kernel_rfl) (by kernel_rfl) (fun _ _ _ h => h) (Or.inl ⟨by kernel_rfl, ?_⟩) (by assumption) ?_
        rotate_left
        · rintro w ⟨q1, q2⟩; go_simp; (try with_reducible rfl)
        try simp only [List.getElem_toArray, List.getElem_cons_succ, List.getElem_cons_zero]
        try simp only [Act.put, List.setIfInBounds_toArray, List.set_cons_zero, List.set_cons_succ]
        refine wpAnyH_ready (rs := [7]) (by kernel_rfl) (by simp) ?_
        refine AllReadyH.cons rfl (fun K hK => ?_) AllReadyH.nil
        go_simp
        refine (hpk.out).mono ?_
        rintro e w' ⟨rfl, hw'⟩
        subst hw'
        refine hK.out _ _ ⟨p2d, qa⟩ (fun hHeld2 => ?_)
        clear hK K
        try simp only [List.getElem_toArray, List.getElem_cons_succ, List.getElem_cons_zero]
        try simp only [Act.put, List.setIfInBounds_toArray, List.set_cons_zero, List.set_cons_succ]
        refine wpAnyH_take (i := 8) (v := ?_) rfl (by kernel_rfl) (by kernel_rfl) (by kernel_rfl) (fun _ _ _ h => h) (Or.inl ⟨by kernel_rfl, ?_⟩) (by assumption) ?_
        rotate_left
        · rintro w ⟨q1, q2⟩; go_simp; (try with_reducible rfl)
        try simp only [List.getElem_toArray, List.getElem_cons_succ, List.getElem_cons_zero]
        try simp only [Act.put, List.setIfInBounds_toArray, List.set_cons_zero, List.set_cons_succ]
        refine wpAnyH_done (by kernel_rfl) ?_ _
        clear hHeld hHeld2 hpk
        go_upto_region 41 with (refine wpList_store_box HB rfl 83 (.tmp 14) (.tmp 237) rfl rfl rfl (by kernel_rfl) rfl (okA_one Ri Qi) ?_)
        clear hb5 HB
        refine wp_region_held (S := fun X => X.cell? ⟨P, 0, none⟩ = some (.pointer (some ⟨R1, 0, none⟩)) ∧ X.cell? ⟨P, 1, none⟩ = some (.pointer (some ⟨Q, 0, none⟩)) ∧ X.cell? ⟨P, 2, none⟩ = some (.slice (some ⟨g, 0, none⟩) nk ck)) (by kernel_rfl) (show wpAnyH _ _ _ _ _ _ _ _ W1.drew from ?_)
        have hHeld : (fun X => X.cell? ⟨P, 0, none⟩ = some (.pointer (some ⟨R1, 0, none⟩)) ∧ X.cell? ⟨P, 1, none⟩ = some (.pointer (some ⟨Q, 0, none⟩)) ∧ X.cell? ⟨P, 2, none⟩ = some (.slice (some ⟨g, 0, none⟩) nk ck)) W1.drew := f1
        refine wpAnyH_take (i := 0) (v := ?_) rfl (by kernel_rfl) (by kernel_rfl) (by kernel_rfl) (fun _ _ _ h => h) (Or.inl ⟨by kernel_rfl, ?_⟩) (by assumption) ?_
        rotate_left
        · rintro w ⟨q1, q2, q3⟩; go_simp; (try with_reducible rfl)
        try simp only [List.getElem_toArray, List.getElem_cons_succ, List.getElem_cons_zero]
        try simp only [Act.put, List.setIfInBounds_toArray, List.set_cons_zero, List.set_cons_succ]
        refine wpAnyH_take (i := 1) (v := ?_) rfl (by kernel_rfl) (by kernel_rfl) (by kernel_rfl) (fun _ _ _ h => h) (Or.inl ⟨by kernel_rfl, ?_⟩) (by assumption) ?_
        rotate_left
        · rintro w ⟨q1, q2, q3⟩; go_simp; (try with_reducible rfl)
        try simp only [List.getElem_toArray, List.getElem_cons_succ, List.getElem_cons_zero]
        try simp only [Act.put, List.setIfInBounds_toArray, List.set_cons_zero, List.set_cons_succ]
        refine wpAnyH_take (i := 2) (v := ?_) rfl (by kernel_rfl) (by kernel_rfl) (by kernel_rfl) (fun _ _ _ h => h) (Or.inl ⟨by kernel_rfl, ?_⟩) (by assumption) ?_
        rotate_left
        · rintro w ⟨q1, q2, q3⟩; go_simp; (try with_reducible rfl)
        try simp only [List.getElem_toArray, List.getElem_cons_succ, List.getElem_cons_zero]
        try simp only [Act.put, List.setIfInBounds_toArray, List.set_cons_zero, List.set_cons_succ]
        refine wpAnyH_take (i := 3) (v := ?_) rfl (by kernel_rfl) (by kernel_rfl) (by kernel_rfl) (fun _ _ _ h => h) (Or.inl ⟨by kernel_rfl, ?_⟩) (by assumption) ?_
        rotate_left
        · rintro w ⟨q1, q2, q3⟩; go_simp; (try with_reducible rfl)
        try simp only [List.getElem_toArray, List.getElem_cons_succ, List.getElem_cons_zero]
        try simp only [Act.put, List.setIfInBounds_toArray, List.set_cons_zero, List.set_cons_succ]
        refine wpAnyH_take (i := 4) (v := ?_) rfl (by kernel_rfl) (by kernel_rfl) (by kernel_rfl) (fun _ _ _ h => h) (Or.inl ⟨by kernel_rfl, ?_⟩) (by assumption) ?_
        rotate_left
        · rintro w ⟨q1, q2, q3⟩; go_simp; (try with_reducible rfl)
        try simp only [List.getElem_toArray, List.getElem_cons_succ, List.getElem_cons_zero]
        try simp only [Act.put, List.setIfInBounds_toArray, List.set_cons_zero, List.set_cons_succ]
        refine wpAnyH_take (i := 5) (v := ?_) rfl (by kernel_rfl) (by kernel_rfl) (by kernel_rfl) (fun _ _ _ h => h) (Or.inl ⟨by kernel_rfl, ?_⟩) (by assumption) ?_
        rotate_left
        · rintro w ⟨q1, q2, q3⟩; go_simp; (try with_reducible rfl)
        try simp only [List.getElem_toArray, List.getElem_cons_succ, List.getElem_cons_zero]
        try simp only [Act.put, List.setIfInBounds_toArray, List.set_cons_zero, List.set_cons_succ]
        refine wpAnyH_take (i := 6) (v := ?_) rfl (by kernel_rfl) (by kernel_rfl) (by kernel_rfl) (fun _ _ _ h => h) (Or.inl ⟨by kernel_rfl, ?_⟩) (by assumption) ?_
        rotate_left
        · rintro w ⟨q1, q2, q3⟩; go_simp; (try with_reducible rfl)
        try simp only [List.getElem_toArray, List.getElem_cons_succ, List.getElem_cons_zero]
        try simp only [Act.put, List.setIfInBounds_toArray, List.set_cons_zero, List.set_cons_succ]
        refine wpAnyH_take (i := 7) (v := ?_) rfl (by kernel_rfl) (by kernel_rfl) (by kernel_rfl) (fun _ _ _ h => h) (Or.inl ⟨by kernel_rfl, ?_⟩) (by assumption) ?_
        rotate_left
        · rintro w ⟨q1, q2, q3⟩; go_simp; (try with_reducible rfl)
        try simp only [List.getElem_toArray, List.getElem_cons_succ, List.getElem_cons_zero]
        try simp only [Act.put, List.setIfInBounds_toArray, List.set_cons_zero, List.set_cons_succ]
        refine wpAnyH_take (i := 8) (v := ?_) rfl (by kernel_rfl) (by kernel_rfl) (by kernel_rfl) (fun _ _ _ h => h) (Or.inl ⟨by kernel_rfl, ?_⟩) (by assumption) ?_
        rotate_left
        · rintro w ⟨q1, q2, q3⟩; go_simp; (try with_reducible rfl)
        try simp only [List.getElem_toArray, List.getElem_cons_succ, List.getElem_cons_zero]
        try simp only [Act.put, List.setIfInBounds_toArray, List.set_cons_zero, List.set_cons_succ]
        refine wpAnyH_take (i := 9) (v := ?_) rfl (by kernel_rfl) (by kernel_rfl) (by kernel_rfl) (fun _ _ _ h => h) (Or.inl ⟨by kernel_rfl, ?_⟩) (by assumption) ?_
        rotate_left
        · rintro w ⟨q1, q2, q3⟩; go_simp; (try with_reducible rfl)
        try simp only [List.getElem_toArray, List.getElem_cons_succ, List.getElem_cons_zero]
        try simp only [Act.put, List.setIfInBounds_toArray, List.set_cons_zero, List.set_cons_succ]
        refine wpAnyH_take (i := 10) (v := ?_) rfl (by kernel_rfl) (by kernel_rfl) (by kernel_rfl) (fun _ _ _ h => h) (Or.inl ⟨by kernel_rfl, ?_⟩) (by assumption) ?_
        rotate_left
        · rintro w ⟨q1, q2, q3⟩; go_simp; (try with_reducible rfl)
        try simp only [List.getElem_toArray, List.getElem_cons_succ, List.getElem_cons_zero]
        try simp only [Act.put, List.setIfInBounds_toArray, List.set_cons_zero, List.set_cons_succ]
        refine wpAnyH_take (i := 11) (v := ?_) rfl (by kernel_rfl) (by kernel_rfl) (by kernel_rfl) (fun _ _ _ h => h) (Or.inl ⟨by kernel_rfl, ?_⟩) (by assumption) ?_
        rotate_left
        · rintro w ⟨q1, q2, q3⟩; go_simp; (try with_reducible rfl)
        try simp only [List.getElem_toArray, List.getElem_cons_succ, List.getElem_cons_zero]
        try simp only [Act.put, List.setIfInBounds_toArray, List.set_cons_zero, List.set_cons_succ]
        refine wpAnyH_take (i := 12) (v := ?_) rfl (by kernel_rfl) (by kernel_rfl) (by kernel_rfl) (fun _ _ _ h => h) (Or.inl ⟨by kernel_rfl, ?_⟩) (by assumption) ?_
        rotate_left
        · rintro w ⟨q1, q2, q3⟩; go_simp; (try with_reducible rfl)
        try simp only [List.getElem_toArray, List.getElem_cons_succ, List.getElem_cons_zero]
        try simp only [Act.put, List.setIfInBounds_toArray, List.set_cons_zero, List.set_cons_succ]
        refine wpAnyH_take (i := 13) (v := ?_) rfl (by kernel_rfl) (by kernel_rfl) (by kernel_rfl) (fun _ _ _ h => h) (Or.inl ⟨by kernel_rfl, ?_⟩) (by assumption) ?_
        rotate_left
        · rintro w ⟨q1, q2, q3⟩; go_simp; (try with_reducible rfl)
        try simp only [List.getElem_toArray, List.getElem_cons_succ, List.getElem_cons_zero]
        try simp only [Act.put, List.setIfInBounds_toArray, List.set_cons_zero, List.set_cons_succ]
        refine wpAnyH_take (i := 14) (v := ?_) rfl (by kernel_rfl) (by kernel_rfl) (by kernel_rfl) (fun _ _ _ h => h) (Or.inl ⟨by kernel_rfl, ?_⟩) (by assumption) ?_
        rotate_left
        · rintro w ⟨q1, q2, q3⟩; go_simp; (try with_reducible rfl)
        try simp only [List.getElem_toArray, List.getElem_cons_succ, List.getElem_cons_zero]
        try simp only [Act.put, List.setIfInBounds_toArray, List.set_cons_zero, List.set_cons_succ]
        refine wpAnyH_ready (rs := [15]) (by kernel_rfl) (by simp) ?_
        refine AllReadyH.cons rfl (fun K hK => ?_) AllReadyH.nil
        refine step_store_rw HW rfl 83 (.tmp 252) (.tmp 251) rfl rfl rfl (by kernel_rfl) (okA_one R1 Q) ?_
        refine hK.out _ _ f2 (fun hHeld2 => ?_)
        clear hK K
        try simp only [List.getElem_toArray, List.getElem_cons_succ, List.getElem_cons_zero]
        try simp only [Act.put, List.setIfInBounds_toArray, List.set_cons_zero, List.set_cons_succ]
        refine wpAnyH_done (by kernel_rfl) ?_ _
        clear hHeld hHeld2 HW f1 f2
        go_upto_region 42 with fail
        refine wp_region_held (S := fun X => X.cell? ⟨b5, 0, none⟩ = some (.pointer (some ⟨Ri, 0, none⟩)) ∧ X.cell? ⟨b5, 1, none⟩ = some (.pointer (some ⟨Qi, 0, none⟩))) (by kernel_rfl) (show wpAnyH _ _ _ _ _ _ _ _ W2.drew from ?_)
        have hHeld : (fun X => X.cell? ⟨b5, 0, none⟩ = some (.pointer (some ⟨Ri, 0, none⟩)) ∧ X.cell? ⟨b5, 1, none⟩ = some (.pointer (some ⟨Qi, 0, none⟩))) W2.drew := e2
        refine wpAnyH_take (i := 0) (v := ?_) rfl (by kernel_rfl) (by kernel_rfl) (by kernel_rfl) (fun _ _ _ h => h) (Or.inl ⟨by kernel_rfl, ?_⟩) (by assumption) ?_
        rotate_left
        · rintro w ⟨q1, q2⟩; go_simp; (try with_reducible rfl)
        try simp only [List.getElem_toArray, List.getElem_cons_succ, List.getElem_cons_zero]
        try simp only [Act.put, List.setIfInBounds_toArray, List.set_cons_zero, List.set_cons_succ]
        refine wpAnyH_take (i := 1) (v := ?_) rfl (by kernel_rfl) (by kernel_rfl) (by kernel_rfl) (fun _ _ _ h => h) (Or.inl ⟨by kernel_rfl, ?_⟩) (by assumption) ?_
        rotate_left
        · rintro w ⟨q1, q2⟩; go_simp; (try with_reducible rfl)
        try simp only [List.getElem_toArray, List.getElem_cons_succ, List.getElem_cons_zero]
        try simp only [Act.put, List.setIfInBounds_toArray, List.set_cons_zero, List.set_cons_succ]
        refine wpAnyH_take (i := 2) (v := ?_) rfl (by kernel_rfl) (by kernel_rfl) (by kernel_rfl) (fun _ _ _ h => h) (Or.inl ⟨by kernel_rfl, ?_⟩) (by assumption) ?_
        rotate_left
        · rintro w ⟨q1, q2⟩; go_simp; (try with_reducible rfl)
        try simp only [List.getElem_toArray, List.getElem_cons_succ, List.getElem_cons_zero]
        try simp only [Act.put, List.setIfInBounds_toArray, List.set_cons_zero, List.set_cons_succ]
        refine wpAnyH_take (i := 3) (v := ?_) rfl (by kernel_rfl) (by kernel_rfl) (by kernel_rfl) (fun _ _ _ h => h) (Or.inl ⟨by kernel_rfl, ?_⟩) (by assumption) ?_
        rotate_left
        · rintro w ⟨q1, q2⟩; go_simp; (try with_reducible rfl)
        try simp only [List.getElem_toArray, List.getElem_cons_succ, List.getElem_cons_zero]
        try simp only [Act.put, List.setIfInBounds_toArray, List.set_cons_zero, List.set_cons_succ]
        refine wpAnyH_take (i := 4) (v := ?_) rfl (by kernel_rfl) (by kernel_rfl) (by kernel_rfl) (fun _ _ _ h => h) (Or.inl ⟨by kernel_rfl, ?_⟩) (by assumption) ?_
        rotate_left
        · rintro w ⟨q1, q2⟩; go_simp; (try with_reducible rfl)
        try simp only [List.getElem_toArray, List.getElem_cons_succ, List.getElem_cons_zero]
        try simp only [Act.put, List.setIfInBounds_toArray, List.set_cons_zero, List.set_cons_succ]
        refine wpAnyH_take (i := 5) (v := ?_) rfl (by kernel_rfl) (by kernel_rfl) (by kernel_rfl) (fun _ _ _ h => h) (Or.inl ⟨by kernel_rfl, ?_⟩) (by assumption) ?_
        rotate_left
        · rintro w ⟨q1, q2⟩; go_simp; (try with_reducible rfl)
        try simp only [List.getElem_toArray, List.getElem_cons_succ, List.getElem_cons_zero]
        try simp only [Act.put, List.setIfInBounds_toArray, List.set_cons_zero, List.set_cons_succ]
        refine wpAnyH_take (i := 6) (v := ?_) rfl (by kernel_rfl) (by kernel_rfl) (by kernel_rfl) (fun _ _ _ h => h) (Or.inl ⟨by kernel_rfl, ?_⟩) (by assumption) ?_
        rotate_left
        · rintro w ⟨q1, q2⟩; go_simp; (try with_reducible rfl)
        try simp only [List.getElem_toArray, List.getElem_cons_succ, List.getElem_cons_zero]
        try simp only [Act.put, List.setIfInBounds_toArray, List.set_cons_zero, List.set_cons_succ]
        refine wpAnyH_take (i := 7) (v := ?_) rfl (by kernel_rfl) (by kernel_rfl) (by kernel_rfl) (fun _ _ _ h => h) (Or.inl ⟨by kernel_rfl, ?_⟩) (by assumption) ?_
        rotate_left
        · rintro w ⟨q1, q2⟩; go_simp; (try with_reducible rfl)
        try simp only [List.getElem_toArray, List.getElem_cons_succ, List.getElem_cons_zero]
        try simp only [Act.put, List.setIfInBounds_toArray, List.set_cons_zero, List.set_cons_succ]
        refine wpAnyH_ready (rs := [8]) (by kernel_rfl) (by simp) ?_
        refine AllReadyH.cons rfl (fun K hK => ?_) AllReadyH.nil
        go_simp
        rw [HW34.out.1]
        refine hK.out _ _ e3 (fun hHeld2 => ?_)
        clear hK K
        try simp only [List.getElem_toArray, List.getElem_cons_succ, List.getElem_cons_zero]
        try simp only [Act.put, List.setIfInBounds_toArray, List.set_cons_zero, List.set_cons_succ]
        refine wpAnyH_take (i := 9) (v := ?_) rfl (by kernel_rfl) (by kernel_rfl) (by kernel_rfl) (fun _ _ _ h => h) (Or.inl ⟨by kernel_rfl, ?_⟩) (by assumption) ?_
        rotate_left
        · rintro w ⟨q1, q2⟩; go_simp; (try with_reducible rfl)
        try simp only [List.getElem_toArray, List.getElem_cons_succ, List.getElem_cons_zero]
        try simp only [Act.put, List.setIfInBounds_toArray, List.set_cons_zero, List.set_cons_succ]
        refine wpAnyH_take (i := 10) (v := ?_) rfl (by kernel_rfl) (by kernel_rfl) (by kernel_rfl) (fun _ _ _ h => h) (Or.inl ⟨by kernel_rfl, ?_⟩) (by assumption) ?_
        rotate_left
        · rintro w ⟨q1, q2⟩; go_simp; (try with_reducible rfl)
        try simp only [List.getElem_toArray, List.getElem_cons_succ, List.getElem_cons_zero]
        try simp only [Act.put, List.setIfInBounds_toArray, List.set_cons_zero, List.set_cons_succ]
        refine wpAnyH_ready (rs := [11]) (by kernel_rfl) (by simp) ?_
        refine AllReadyH.cons rfl (fun K hK => ?_) AllReadyH.nil
        go_simp
        rw [HW34.out.2]
        refine hK.out _ _ e4 (fun hHeld3 => ?_)
        clear hK K
        try simp only [List.getElem_toArray, List.getElem_cons_succ, List.getElem_cons_zero]
        try simp only [Act.put, List.setIfInBounds_toArray, List.set_cons_zero, List.set_cons_succ]
        refine wpAnyH_done (by kernel_rfl) ?_ _
        clear hHeld hHeld2 hHeld3 e2 e3 e4 HW34
        go_wp2_with fail
        refine (HI.out).mono ?_
        rintro e w' ⟨rfl, hp⟩
        go_wp2_with fail
        go_ret
        exact hp.out
    · obtain ⟨h2, hx2, hg⟩ := HS.out
      have HL := Lib.hid (loads_calls w wc P cur kept vk h2 hg)
      clear h2 hx2 hg HS
      go_wp2_with fail
      refine (hp12.out).mono ?_
      rintro e w' ⟨rfl, hw'⟩
      subst hw'
      clear hp12
      go_wp2_with fail
      refine (HL.out).mono ?_
      rintro e w' ⟨rfl, hp⟩
      have HP := Lib.hid hp
      clear hp HL
      go_wp2_with fail
      go_ret
      exact ⟨rfl, HP.out⟩
end Go.Proofs.YtgkamdgegfioiaaDoor
