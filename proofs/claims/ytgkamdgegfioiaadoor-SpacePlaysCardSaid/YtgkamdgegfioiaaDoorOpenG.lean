/- The walk of the law SpacePlays. Condition: errors.errorType holds its handle. -/
/- A script of steps, opened; the walk of SpacePlays as its row asks it. -/
import Derived.Test.YtgkamdgegfioiaaDoorGspw
import Derived.Test.YtgkamdgegfioiaaDoorGtl
import Derived.Test.YtgkamdgegfioiaaDoorRwg
import Derived.Deep.DeepCutAuto
import Derived.Deep.Slices
import Derived.ChangeArms
import Derived.SizedLaws
namespace Go.Proofs.YtgkamdgegfioiaaDoor
open Go.RowKit Go.Shelf
set_option linter.unusedSimpArgs false
set_option linter.unusedVariables false
theorem tdiv_nn (n k : Int) (h : 0 ≤ n) : n.tdiv k = n / k := Int.tdiv_eq_ediv_of_nonneg h
theorem tdiv_np (n k : Int) (h : n ≤ 0) : n.tdiv k = -((-n) / k) := by
  have h1 : (-(-n)).tdiv k = -((-n).tdiv k) := Int.neg_tdiv ..
  rw [Int.neg_neg, tdiv_nn (-n) k (by omega)] at h1
  exact h1
theorem tmod_np (n k : Int) (h : n ≤ 0) : n.tmod k = -((-n) % k) := by
  have h1 : (-(-n)).tmod k = -((-n).tmod k) := Int.neg_tmod ..
  rw [Int.neg_neg, Int.tmod_eq_emod_of_nonneg (a := -n) (by omega)] at h1
  exact h1
set_option maxHeartbeats 8000000 in
set_option maxRecDepth 100000 in
theorem spacePlays_calls (w : World) (n : Int) (A : Option Addr) (c : Nat) (l : List StD) (hn : i64b n) (hr : RdT w A l) (hl : l.length * 48 ≤ 140737488351232) (hc : l.length ≤ c) (hok : ∀ s ∈ l, s.ok) (hg : ErrH w) :
    Calls Tryd.prog 5 #[.int .i64 n, .slice A l.length c] w fun e w' => e = .returned (.bool true) ∧ Below w.heap.size w w' := by
  obtain ⟨N, hN⟩ : ∃ N, l.length = N := ⟨_, rfl⟩
  have HA := Lib.hid (And.intro hr (And.intro hok (And.intro hg hN)))
  rw [hN] at hl hc ⊢
  clear hr hok hN
  have hpk := Lib.hid (lpick_calls n 30 w hn.1 hn.2 (by omega) (by omega))
  by_cases h29 : n % 30 = 29
  · have htb : -9223372036854775808 ≤ n.tdiv 30 ∧ n.tdiv 30 ≤ 9223372036854775807 := by
      obtain ⟨g1, g2⟩ := hn
      rcases Int.le_total 0 n with h | h
      · rw [tdiv_nn n 30 h]; omega
      · rw [tdiv_np n 30 h]; omega
    have hp2 := lpick_calls (n.tdiv 30) 1099511627776 w htb.1 htb.2 (by omega) (by omega)
    obtain ⟨q, hq⟩ : ∃ q, (n.tdiv 30) % 1099511627776 = q := ⟨_, rfl⟩
    have hqb : 0 ≤ q ∧ q < 1099511627776 := by omega
    rw [hq] at hp2
    have hp2 := Lib.hid hp2
    have hbd := Lib.hid (fun m h => spaceNew_bad m w h hg)
    obtain ⟨tq, htq⟩ : ∃ tq, n.tdiv 30 = tq := ⟨_, rfl⟩
    have hw1 : IntKind.i64.wrap (n.tdiv 30) = tq := by rw [htq, IntKind.wrap_i64]; omega
    have hb29 : (n % 30 == 29) = true := by rw [h29]; rfl
    obtain ⟨m30, hm30⟩ : ∃ m, n % 30 = m := ⟨_, rfl⟩
    rw [hm30] at hpk hb29
    rw [htq] at hp2
    clear hq hm30 h29 hg htq htb
    go_enter Tryd.func5, Tryd.ntmps5
    go_wp2_with fail
    refine (hpk.out).mono ?_
    rintro e w' ⟨rfl, hw'⟩
    subst hw'
    go_wp2_with fail
    refine (hp2.out).mono ?_
    rintro e w' ⟨rfl, hw'⟩
    subst hw'
    clear hp2 hpk
    obtain ⟨n1, hn1⟩ : ∃ n1, -1 - q = n1 := ⟨_, rfl⟩
    have hn1b : -1099511627776 ≤ n1 ∧ n1 ≤ -1 := by omega
    have hw2 : IntKind.i64.wrap (-1 - q) = n1 := by rw [hn1, IntKind.wrap_i64]; omega
    have hm2 := tmod_np n1 2 (by omega)
    have hd2 := tdiv_np n1 2 (by omega)
    obtain ⟨m2, hm2'⟩ : ∃ m2, n1.tmod 2 = m2 := ⟨_, rfl⟩
    obtain ⟨d2, hd2'⟩ : ∃ d2, n1.tdiv 2 = d2 := ⟨_, rfl⟩
    rw [hm2'] at hm2
    rw [hd2'] at hd2
    have hw3 : IntKind.i64.wrap m2 = m2 := by rw [IntKind.wrap_i64]; omega
    have hw4 : IntKind.i64.wrap d2 = d2 := by rw [IntKind.wrap_i64]; omega
    by_cases h20 : m2 = 0
    · have h20b : (m2 == 0) = true := by rw [beq_iff_eq]; exact h20
      obtain ⟨n3, hn3⟩ : ∃ n3, 1073741824 - d2 = n3 := ⟨_, rfl⟩
      have hw5 : IntKind.i64.wrap (1073741824 - d2) = n3 := by rw [hn3, IntKind.wrap_i64]; omega
      have HB := Lib.hid (hbd.out n3 (by omega))
      clear hm2 hd2 h20 hn1b hqb hn3 hn1 hbd hw1
      go_wp2_with fail
      refine (HB.out).mono ?_
      rintro e W1 ⟨rfl, hb1⟩
      have HE := Lib.hid (show ∀ o, Below w.heap.size w (W1.alloc o) from fun o => hb1.alloc hb1.size _)
      clear hb1 HB
      go_wp2_with fail
      go_ret
      exact ⟨rfl, HE.out _⟩
    · have h20b : (m2 == 0) = false := by rw [beq_eq_false_iff_ne]; exact h20
      have HB := Lib.hid (hbd.out n1 (by omega))
      clear hm2 hd2 h20 hn1b hqb hn1 hbd hw1
      go_wp2_with fail
      refine (HB.out).mono ?_
      rintro e W1 ⟨rfl, hb1⟩
      have HE := Lib.hid (show ∀ o, Below w.heap.size w (W1.alloc o) from fun o => hb1.alloc hb1.size _)
      clear hb1 HB
      go_wp2_with fail
      go_ret
      exact ⟨rfl, HE.out _⟩
  · have hb29 : (n % 30 == 29) = false := by rw [beq_eq_false_iff_ne]; exact h29
    obtain ⟨m30, hm30⟩ : ∃ m, n % 30 = m := ⟨_, rfl⟩
    rw [hm30] at hpk hb29
    have hp2 := Lib.hid (lpick_calls n 200 w hn.1 hn.2 (by omega) (by omega))
    obtain ⟨nn, hnn⟩ : ∃ nn : Nat, n % 200 = (nn : Int) := ⟨(n % 200).toNat, by omega⟩
    have hn200 : nn < 200 := by omega
    rw [hnn] at hp2
    have hq := Lib.hid (spaceNew_calls nn w (by omega))
    clear hm30 hnn hn h29 hg
    go_enter Tryd.func5, Tryd.ntmps5
    go_wp2_with fail
    refine (hpk.out).mono ?_
    rintro e w' ⟨rfl, hw'⟩
    subst hw'
    go_wp2_with fail
    refine (hp2.out).mono ?_
    rintro e w' ⟨rfl, hw'⟩
    subst hw'
    go_wp2_with fail
    refine (hq.out).mono ?_
    rintro e W2 ⟨R, rfl, hs, hb2⟩
    obtain ⟨b7, hb7⟩ : ∃ b7, W2.heap.size = b7 := ⟨_, rfl⟩
    obtain ⟨W3, hW3⟩ : ∃ W3, W2.alloc (.cells #[.pointer (some ⟨R, 0, none⟩)] 26) = W3 := ⟨_, rfl⟩
    have hx3 : Bx W3 b7 26 #[.pointer (some ⟨R, 0, none⟩)] := by rw [← hW3, ← hb7]; exact Bx.new _ _ _
    have hb3 : Below w.heap.size w W3 := by rw [← hW3]; exact hb2.alloc hb2.size _
    have hs3 : Sp W3 w.heap.size R (.slice none 0 0) nn [] := by rw [← hW3]; exact hs.below ((Below.refl _ _).alloc (Nat.le_refl _) _)
    have y7 : W3.drew.cell? ⟨b7, 0, none⟩ = some (.pointer (some ⟨R, 0, none⟩)) := hx3.cell 0
    have hq2 := Lib.hid (newSpace_calls W3.drew nn (by omega))
    have H3 := Lib.hid (And.intro hx3 (And.intro hb3 hs3))
    clear hx3 hb3 hs3 hs hb2 hpk hp2 hq
    go_upto_region 11 with fail
    try rw [hW3]
    try rw [hb7]
    clear hW3 hb7
    refine wp_region_held (S := fun X => X.cell? ⟨b7, 0, none⟩ = some (.pointer (some ⟨R, 0, none⟩))) (by kernel_rfl) (show wpAnyH _ _ _ _ _ _ _ _ W3.drew from ?_)
    have hHeld : (fun X => X.cell? ⟨b7, 0, none⟩ = some (.pointer (some ⟨R, 0, none⟩))) W3.drew := y7
    refine wpAnyH_take (i := 0) (v := ?_) rfl (by kernel_rfl) (by kernel_rfl) (by kernel_rfl) (fun _ _ _ h => h) (Or.inl ⟨by kernel_rfl, ?_⟩) (by assumption) ?_
    rotate_left
    · rintro w q1; go_simp; (try with_reducible rfl)
    try simp only [List.getElem_toArray, List.getElem_cons_succ, List.getElem_cons_zero]
    try simp only [Act.put, List.setIfInBounds_toArray, List.set_cons_zero, List.set_cons_succ]
    refine wpAnyH_take (i := 1) (v := ?_) rfl (by kernel_rfl) (by kernel_rfl) (by kernel_rfl) (fun _ _ _ h => h) (Or.inl ⟨by kernel_rfl, ?_⟩) (by assumption) ?_
    rotate_left
    · rintro w q1; go_simp; (try with_reducible rfl)
    try simp only [List.getElem_toArray, List.getElem_cons_succ, List.getElem_cons_zero]
    try simp only [Act.put, List.setIfInBounds_toArray, List.set_cons_zero, List.set_cons_succ]
    refine wpAnyH_ready (rs := [2]) (by kernel_rfl) (by simp) ?_
    refine AllReadyH.cons rfl (fun K hK => ?_) AllReadyH.nil
    go_simp
    refine (hq2.out).mono ?_
    rintro e W4 ⟨Q, u, rfl, hrf, hb4⟩
    obtain ⟨hx3, hb3, hs3⟩ := H3.out
    have hb34 : Below W3.heap.size W3 W4 := (Below.refl _ W3).drew.trans hb4
    have hx4 := hx3.below hb34 hx3.lt
    have y4 : W4.cell? ⟨b7, 0, none⟩ = some (.pointer (some ⟨R, 0, none⟩)) := hx4.cell 0
    refine hK.out _ _ y4 (fun hHeld2 => ?_)
    clear hK K
    try simp only [List.getElem_toArray, List.getElem_cons_succ, List.getElem_cons_zero]
    try simp only [Act.put, List.setIfInBounds_toArray, List.set_cons_zero, List.set_cons_succ]
    refine wpAnyH_take (i := 3) (v := ?_) rfl (by kernel_rfl) (by kernel_rfl) (by kernel_rfl) (fun _ _ _ h => h) (Or.inl ⟨by kernel_rfl, ?_⟩) (by assumption) ?_
    rotate_left
    · rintro w q1; go_simp; (try with_reducible rfl)
    try simp only [List.getElem_toArray, List.getElem_cons_succ, List.getElem_cons_zero]
    try simp only [Act.put, List.setIfInBounds_toArray, List.set_cons_zero, List.set_cons_succ]
    refine wpAnyH_ready (rs := [4]) (by kernel_rfl) (by simp) ?_
    refine AllReadyH.cons rfl (fun K hK => ?_) AllReadyH.nil
    go_simp
    obtain ⟨P, hP⟩ : ∃ P, W4.heap.size = P := ⟨_, rfl⟩
    obtain ⟨W5, hW5⟩ : ∃ W5, W4.alloc (.cells #[.pointer (some ⟨R, 0, none⟩), .pointer (some ⟨Q, 0, none⟩), .slice none 0 0] 56) = W5 := ⟨_, rfl⟩
    have hb45 : Below W4.heap.size W4 W5 := by rw [← hW5]; exact (Below.refl _ _).alloc (Nat.le_refl _) _
    have hx5 : Bx W5 P 56 #[.pointer (some ⟨R, 0, none⟩), .pointer (some ⟨Q, 0, none⟩), .slice none 0 0] := by rw [← hW5, ← hP]; exact Bx.new _ _ _
    have hb35 := hb34.trans (hb45.mono hb34.size)
    have hx7 := hx3.below hb35 hx3.lt
    have y5 : W5.cell? ⟨b7, 0, none⟩ = some (.pointer (some ⟨R, 0, none⟩)) := hx7.cell 0
    have hi : GmI W5 w.heap.size ⟨R, .slice none 0 0, nn, [], Q, u⟩ := ⟨hs3.below hb35, (hrf.below hb45).mono hb3.size⟩
    have h0 := Lib.hid (show ∃ cur kept vk, St w W5 P cur kept vk from ⟨⟨R, .slice none 0 0, nn, [], Q, u⟩, [], .slice none 0 0, ⟨by rw [← hP]; exact (hb3.trans (hb34.mono hb3.size)).size, hx5, World.ownsRow_nil _ _ _ 2, hi, fun g hg => (by cases hg), List.pairwise_singleton _ _, hb3.trans (hb35.mono hb3.size), Nat.zero_le _⟩⟩)
    try rw [hP, hW5]
    clear hx3 hb3 hs3 hb34 hx4 hb45 hx5 hb35 hx7 hi hW5 hP hrf hb4
    refine hK.out _ _ y5 (fun hHeld3 => ?_)
    clear hK K
    try simp only [List.getElem_toArray, List.getElem_cons_succ, List.getElem_cons_zero]
    try simp only [Act.put, List.setIfInBounds_toArray, List.set_cons_zero, List.set_cons_succ]
    refine wpAnyH_take (i := 5) (v := ?_) rfl (by kernel_rfl) (by kernel_rfl) (by kernel_rfl) (fun _ _ _ h => h) (Or.inl ⟨by kernel_rfl, ?_⟩) (by assumption) ?_
    rotate_left
    · rintro w q1; go_simp; (try with_reducible rfl)
    try simp only [List.getElem_toArray, List.getElem_cons_succ, List.getElem_cons_zero]
    try simp only [Act.put, List.setIfInBounds_toArray, List.set_cons_zero, List.set_cons_succ]
    refine wpAnyH_done (by kernel_rfl) ?_ _
    clear hHeld hHeld2 hHeld3 y7 y4 y5 H3 hq2
    go_wp2_with fail
    have hNb : N ≤ 9223372036854775807 := by omega
    go_loopg [10] N (fun k t10 wl => ∃ i : Nat, t10 = .int .i64 (i : Int) ∧ i + k = N ∧ Hid (∃ cur kept vk, St w wl P cur kept vk))
    case atStart => exact ⟨0, rfl, by omega, h0⟩
    case round =>
      clear h0
      rename World => wl
      rename Nat => gk
      obtain ⟨i, rfl, hik, H⟩ := hrel
      by_cases hlt : i < N ∧ i < 65536
      · obtain ⟨hlt1, hlt2⟩ := hlt
        obtain ⟨hr, hok, hg, hN⟩ := HA.out
        obtain ⟨cur, kept, vk, hS⟩ := H.out
        obtain ⟨ad, hA, hst⟩ := (hr.below hS.below) i (by omega)
        subst hA
        obtain ⟨s, hs⟩ : ∃ s, l[i]'(by omega) = s := ⟨_, rfl⟩
        have hso := hok _ (List.getElem_mem (l := l) (n := i) (by omega))
        rw [hs] at hst hso
        have hq1 := step_calls w wl P cur kept vk s hS hg hso
        obtain ⟨sd, sa, sb, sc, st⟩ := s
        obtain ⟨z0, z1, z2, z3, z4⟩ := hst
        simp only at z0 z1 z2 z3 z4 hq1
        have hq1 := Lib.hid hq1
        have hi1 : (i : Int) < (N : Int) := by omega
        have hi2 : (i : Int) < 65536 := by omega
        have HG := Lib.hid (And.intro hg hik)
        clear hr hok hg hN hS hik hs H hso
        go_upto_region 15 with fail
        clear hi2 hlt2
        go_wp2_with fail
        refine (hq1.out).mono ?_
        rintro e W6 ⟨rfl, cur2, kept2, vk2, hS2⟩
        have hq2 := Lib.hid (tells_calls w W6 P cur2 kept2 vk2 hS2 HG.out.1)
        have H6 := Lib.hid hS2
        clear hS2 hq1 z0 z1 z2 z3 z4
        go_wp2_with fail
        refine (hq2.out).mono ?_
        rintro e W7 ⟨rfl, hb7⟩
        have HN := Lib.hid (show ∃ cur kept vk, St w W7 P cur kept vk from ⟨cur2, kept2, vk2, H6.out.kb hb7⟩)
        have hk1 := HG.out.2
        obtain ⟨k2, rfl⟩ : ∃ k2, gk = k2 + 1 := ⟨gk - 1, by omega⟩
        have hik2 : i + 1 + k2 = N := by omega
        clear hb7 H6 hq2 HG hk1
        go_wp2_with fail
        go_roundg k2
        case measure => omega
        case rel => exact ⟨i + 1, by go_num, hik2, HN⟩
      · obtain ⟨cur, kept, vk, hS⟩ := H.out
        have HE := Lib.hid hS.below
        have hend : (N : Int) ≤ (i : Int) ∨ ((i : Int) < (N : Int) ∧ decide (i < 65536) = false ∧ decide ((i : Int) < 65536) = false) := by
          by_cases h : i < N
          · exact .inr ⟨by omega, decide_eq_false (by omega), decide_eq_false (by omega)⟩
          · exact .inl (by omega)
        clear hS hik H hlt
        rcases hend with hend | ⟨hend, hd1, hd2⟩
        all_goals
          go_wp2_with fail
          go_ret
          exact ⟨rfl, HE.out⟩
end Go.Proofs.YtgkamdgegfioiaaDoor

namespace Go.Proofs.YtgkamdgegfioiaaDoor
open Go.RowKit Go.ChangeShapes Go.WideShapes Go.Deep
set_option linter.unusedSimpArgs false
set_option linter.unusedVariables false
set_option linter.constructorNameAsVariable false
def StepsV (w : World) (v : Value) : Prop := ∃ A c l, v = .slice A l.length c ∧ RdT w A l ∧ l.length * 48 ≤ 140737488351232 ∧ (∀ s ∈ l, s.ok) ∧ l.length ≤ c
theorem listS_of {Q : Nat → StD → Prop} : ∀ n, (∀ i, i < n → ∃ p, Q i p) → ∃ l : List StD, l.length = n ∧ ∀ i (hi : i < l.length), Q i l[i]
  | 0, _ => ⟨[], rfl, fun i hi => by simp at hi⟩
  | n + 1, h => by
    obtain ⟨l, hl, hq⟩ := listS_of n (fun i hi => h i (by omega))
    obtain ⟨p, hp⟩ := h n (by omega)
    refine ⟨l ++ [p], by simp [hl], fun i hi => ?_⟩
    by_cases hil : i < l.length
    · rw [List.getElem_append_left hil]
      exact hq i hil
    · have hil2 : i = n := by simp at hi; omega
      subst hil2
      rw [List.getElem_append_right (by omega)]
      simpa [hl] using hp
theorem addS (a : Addr) (n : Nat) : a.add (n + 1) = ⟨a.block, a.off + (n + 1), none⟩ := by unfold Addr.add; simp
theorem bounds_i64 {n : Int} (h : (Lit.int .i64 n).wf = true) : i64b n := by
  have := h
  simp [Lit.wf, IntKind.min, IntKind.max, IntKind.signed, IntKind.bits] at this
  exact this
theorem open_steps {H : Type} {enc : TypeId × Value → H} {P : Program} {W : World} {base : Nat} {spare : Nat → Bool} {held : Bool} {r : Reach} {b0 : Nat} {v : Value} {d : DataW H} {ps : List MemPlace} {t e : TypeId} {f0 f1 f2 f3 f4 : Field}
    (ht : P.underlying t = some (.slice e)) (he : P.underlying e = some (.struct #[f0, f1, f2, f3, f4])) (hk : P.underlying f0.type = some (.int .i64)) (hk1 : P.underlying f1.type = some (.int .i64)) (hk2 : P.underlying f2.type = some (.int .i64)) (hk3 : P.underlying f3.type = some (.int .i64)) (hst : P.underlying f4.type = some .string)
    (o0 : f0.offset = 0) (o1 : f1.offset = 1) (o2 : f2.offset = 2) (o3 : f3.offset = 3) (o4 : f4.offset = 4) (c0 : P.cellsOf f0.type = 1) (c1 : P.cellsOf f1.type = 1) (c2 : P.cellsOf f2.type = 1) (c3 : P.cellsOf f3.type = 1) (c4 : P.cellsOf f4.type = 1) (ce : P.cellsOf e = 5) (hbe : P.bytesOf e = 48)
    (hval : Value.okWide P W r b0 t v) (h : DataW.Trod enc P W base spare held t v d ps)
    (hs : ∀ elems sp, d = .slice elems sp → (elems.length + sp.length) * P.bytesOf e ≤ reachBytes) : StepsV W v := by
  obtain ⟨a, len, cap, rfl⟩ := okWide_slice ht hval
  obtain ⟨fuel, hf⟩ := h
  rcases open_slice ht hf with ⟨hc, hx⟩ | ⟨a', len', cap', m, n, D, Pl, hc, hb, hl, hm, hmm, hx, hi⟩
  · simp [Value.cells] at hc
    obtain ⟨rfl, rfl, rfl⟩ := hc
    exact ⟨none, 0, [], rfl, fun j hj => by simp at hj, by simp, fun p hp => (by cases hp), Nat.le_refl _⟩
  · simp [Value.cells] at hc
    obtain ⟨rfl, rfl, rfl⟩ := hc
    have hlm : len ≤ m := by rw [hmm]; split <;> omega
    have hsz := hs _ _ (congrArg Prod.fst hx)
    rw [hbe] at hsz
    simp only [List.length_map, List.length_range] at hsz
    have hrb : reachBytes = 140737488351232 := rfl
    have each : ∀ i, i < len → ∃ p : StD, StAt W (a'.add (i * 5)) p ∧ p.ok := by
      intro i hil
      obtain ⟨cs', h1, h2⟩ := hi i (by omega)
      rw [ce] at h1
      obtain ⟨_, hlen, hcell⟩ := World.cells?_some h1
      obtain ⟨xs, k, hk', hxy, _, hxl, hf2⟩ := DataW.trod_struct he h2
      match xs, hxl, cs', hlen with
      | [y0, y1, y2, y3, y4], _, [v0, v1, v2, v3, v4], _ =>
        have g0 := hf2 0 f0 rfl
        have g1 := hf2 1 f1 rfl
        have g2 := hf2 2 f2 rfl
        have g3 := hf2 3 f3 rfl
        have g4 := hf2 4 f4 rfl
        simp [o0, o1, o2, o3, o4, c0, c1, c2, c3, c4] at g0 g1 g2 g3 g4
        have e0 := hcell 0 (by omega)
        have e1 := hcell 1 (by omega)
        have e2 := hcell 2 (by omega)
        have e3 := hcell 3 (by omega)
        have e4 := hcell 4 (by omega)
        obtain ⟨n0, q0, _, w0⟩ := DataW.trod_int hk g0
        obtain ⟨n1, q1, _, w1⟩ := DataW.trod_int hk1 g1
        obtain ⟨n2, q2, _, w2⟩ := DataW.trod_int hk2 g2
        obtain ⟨n3, q3, _, w3⟩ := DataW.trod_int hk3 g3
        obtain ⟨s4, q4, _, _⟩ := DataW.trod_string hst g4
        simp at q0 q1 q2 q3 q4
        subst q0 q1 q2 q3 q4
        refine ⟨⟨n0, n1, n2, n3, s4⟩, ⟨?_, ?_, ?_, ?_, ?_⟩, bounds_i64 w0, bounds_i64 w1, bounds_i64 w2, bounds_i64 w3⟩
        · exact e0
        · have := e1; rw [show (1 : Nat) = 0 + 1 from rfl, addS] at this; simpa using this
        · have := e2; rw [show (2 : Nat) = 1 + 1 from rfl, addS] at this; simpa using this
        · have := e3; rw [show (3 : Nat) = 2 + 1 from rfl, addS] at this; simpa using this
        · have := e4; rw [show (4 : Nat) = 3 + 1 from rfl, addS] at this; simpa using this
    obtain ⟨l, hll, hq⟩ := listS_of len each
    subst hll
    refine ⟨some a', cap, l, rfl, fun j hj => ⟨a', rfl, (hq j hj).1⟩, by omega, fun p hp => ?_, hl⟩
    obtain ⟨j, hj, rfl⟩ := List.getElem_of_mem hp
    exact (hq j hj).2
theorem spacePlays_walk (a0 : Int) (v1 : Value) (w : World) (w0 : (Lit.int .i64 a0).wf = true) (w1 : StepsV w v1) (hL : w.cell? ⟨0, 0, none⟩ = some (.iface 139 (.agg #[.pointer (some ⟨1, 62, none⟩)]))) :
    Calls Tryd.prog 5 #[.int .i64 a0, v1] w fun e w' => e = .returned (.bool true) ∧ Below w.heap.size w w' := by
  obtain ⟨A, c, l, rfl, hr, hs, hok, hc⟩ := w1
  exact spacePlays_calls w a0 A c l (bounds_i64 w0) hr hs hc hok hL
end Go.Proofs.YtgkamdgegfioiaaDoor
