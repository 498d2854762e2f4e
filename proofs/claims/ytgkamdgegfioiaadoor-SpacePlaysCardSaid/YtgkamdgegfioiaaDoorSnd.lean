/- The walk of bedrockkeep.sound: a space is sound. -/
import Derived.Test.YtgkamdgegfioiaaDoorSls
import Derived.Test.YtgkamdgegfioiaaDoorLdp
import Derived.BigQuiet
namespace Go.Proofs.YtgkamdgegfioiaaDoor
open Go.RowKit Go.Shelf
set_option linter.unusedSimpArgs false
set_option linter.unusedVariables false
theorem wf_at : ∀ {xs : List Pc} {r a : Nat}, Wf r a xs → ∀ i (hi : i < xs.length), endS a (xs.take i) ≤ xs[i].at_ ∧ endS a (xs.take (i + 1)) = xs[i].fin
  | [], _, _, _, i, hi => absurd hi (by simp)
  | p :: ps, _, _, h, 0, _ => ⟨h.1, rfl⟩
  | p :: ps, _, _, h, i + 1, hi => wf_at h.2.2.2.2 i (by simpa using hi)
theorem usedS_live : ∀ (ps : List Pc), usedS (live ps) = usedS ps
  | [] => rfl
  | p :: ps => by
    have ih := usedS_live ps
    unfold live at ih ⊢
    rw [List.filter_cons]
    by_cases h : p.cnt = 0
    · simp only [h, usedS]
      simpa using ih
    · simp only [h, usedS]
      simpa [h, usedS] using ih
set_option maxRecDepth 100000 in
set_option maxHeartbeats 8000000 in
theorem sound_calls (w : World) (B R r : Nat) (v : Value) (ps : List Pc) (hS : Sp w B R v r ps) :
    Calls Tryd.prog 12 #[.agg #[.pointer (some ⟨R, 0, none⟩)], .int .i64 (r : Int)] w fun e w' => e = .returned (.bool true) ∧ Below w.heap.size w w' := by
  obtain ⟨W0, hW0⟩ : ∃ W0, w.alloc (.cells #[.pointer (some ⟨R, 0, none⟩)] 26) = W0 := ⟨_, rfl⟩
  have hb0 : Below w.heap.size w W0 := by rw [← hW0]; exact (Below.refl _ w).alloc (Nat.le_refl _) _
  have hx0 : Bx W0 w.heap.size 26 #[.pointer (some ⟨R, 0, none⟩)] := by rw [← hW0]; exact Bx.new _ _ _
  have hsz0 : W0.heap.size = w.heap.size + 1 := by rw [← hW0]; simp
  have hS0 := hS.below hb0
  have hq := Lib.hid (show Calls Tryd.prog 13 #[.agg #[.pointer (some ⟨R, 0, none⟩)], .int .i64 0] W0 fun e w' => LsPost W0 ps 0 e w' from pRuns_calls W0 B R r 0 v ps hS0 (by omega))
  have hrr := hS.hr
  have hwf := live_wf hS.wf
  have hsum := sums_le hS.wf
  have e0 : W0.cell? ⟨w.heap.size, 0, none⟩ = some (.pointer (some ⟨R, 0, none⟩)) := hx0.cell 0
  obtain ⟨H0, hH0⟩ : ∃ H0, w.heap.size = H0 := ⟨_, rfl⟩
  obtain ⟨xs, hxs⟩ : ∃ xs, live ps = xs := ⟨_, rfl⟩
  obtain ⟨M, hM⟩ : ∃ M, xs.length = M := ⟨_, rfl⟩
  have hul := usedS_live ps
  rw [hxs] at hwf hul
  have hMr := hwf.len
  have hcnt : ∀ p ∈ xs, p.cnt ≠ 0 := by rw [← hxs]; exact live_cnt
  have HA := Lib.hid (And.intro hb0 (And.intro hx0 (And.intro hsz0 (And.intro hS0 (And.intro hwf (And.intro hsum (And.intro hul (And.intro hcnt (And.intro hM (And.intro hxs hH0))))))))))
  clear hb0 hx0 hsz0 hS0 hwf hsum hul hcnt
  rw [hH0] at e0
  go_enter Tryd.func12, Tryd.ntmps12
  go_wp2_with fail
  try rw [hW0]
  try rw [hH0]
  clear hH0 hW0 hS
  go_wp2_with fail
  refine (hq.out).mono ?_
  rintro e W1 ⟨v6, v7, rfl, -, ho, hb⟩
  obtain ⟨A, c, rfl, hc1, hc2, hrd⟩ := ho.rd
  rw [hxs] at hc1 hrd ⊢
  have Hrd := Lib.hid hrd
  have Hb := Lib.hid hb
  rw [hM] at hc1 hMr ⊢
  have HM := Lib.hid hM
  clear hq ho hrd hb hxs hM
  have hc3 : c ≤ 9223372036854775807 := by unfold maxLen at hc2; omega
  go_wp2_with fail
  go_loopw [7, 8, 9] (fun t7 t8 t9 wr => ∃ i en u : Nat, t7 = .int .i64 (en : Int) ∧ t8 = .int .i64 (u : Int) ∧ t9 = .int .i64 (i : Int) ∧ i ≤ M ∧ Hid (endS 0 (xs.take i) = en ∧ usedS (xs.take i) = u ∧ Below W1.heap.size W1 wr)) (fun _ _ t9 _ => M - (intOf t9).toNat)
  case atStart => exact ⟨0, 0, 0, rfl, rfl, rfl, by omega, ⟨rfl, rfl, Below.refl _ _⟩⟩
  case round =>
    rename World => wr
    obtain ⟨i, en, u, rfl, rfl, rfl, hi, G⟩ := hrel
    by_cases hlt : i < M
    · have hlti : (i : Int) < (M : Int) := by omega
      obtain ⟨-, -, -, -, hwf, hsum, hul, hcnt, hM, -⟩ := HA.out
      have hlx : i < xs.length := by rw [hM]; exact hlt
      obtain ⟨g, hA, hgw, hgc⟩ := (Hrd.out.below' G.out.2.2) i hlx
      subst hA
      obtain ⟨h1, h2⟩ := wf_at hwf i hlx
      have h3 := hwf.all xs[i] (List.getElem_mem hlx)
      have h4 := hcnt xs[i] (List.getElem_mem hlx)
      have hts := take_snocP (ps := xs) (i := i) hlx
      have hsu := sums_take (i := i + 1) hwf
      obtain ⟨⟨a, n, cn, tg, o⟩, hp⟩ : ∃ p, xs[i] = p := ⟨_, rfl⟩
      rw [hp] at h1 h2 h3 h4 hts hgc
      have hus : usedS (xs.take (i + 1)) = u + n := by
        rw [hts, usedS_append, G.out.2.1]
        simp [usedS, show cn ≠ 0 from h4]
      rw [G.out.1] at h1
      have h2' : endS 0 (xs.take (i + 1)) = a + n := h2
      have h31 : 1 ≤ n := h3.2.1
      have h32 : cn ≤ 65535 := h3.2.2.1
      have h33 : a + n ≤ r := h3.2.2.2.2
      have h41 : 1 ≤ cn := Nat.pos_of_ne_zero h4
      have h11 : en ≤ a := h1
      rw [hus] at hsu
      have hun : u + n ≤ r := by omega
      have g0 : wr.cell? ⟨g, i * 4, none⟩ = some (.int .i64 (a : Int)) := hgc 0 (by omega)
      have g1 : wr.cell? ⟨g, i * 4 + 1, none⟩ = some (.int .i64 (n : Int)) := hgc 1 (by omega)
      have g2 : wr.cell? ⟨g, i * 4 + 2, none⟩ = some (.int .i64 (cn : Int)) := hgc 2 (by omega)
      have d0 : wr.drew.cell? ⟨g, i * 4, none⟩ = some (.int .i64 (a : Int)) := g0
      have d1 : wr.drew.cell? ⟨g, i * 4 + 1, none⟩ = some (.int .i64 (n : Int)) := g1
      have d2 : wr.drew.cell? ⟨g, i * 4 + 2, none⟩ = some (.int .i64 (cn : Int)) := g2
      have k0 : wr.drew.drew.cell? ⟨g, i * 4, none⟩ = some (.int .i64 (a : Int)) := g0
      have k1 : wr.drew.drew.cell? ⟨g, i * 4 + 1, none⟩ = some (.int .i64 (n : Int)) := g1
      have z1 : decide (a < en) = false := decide_eq_false (by omega)
      have z2 : decide (n < 1) = false := decide_eq_false (by omega)
      have z3 : decide (r < n) = false := decide_eq_false (by omega)
      have z5 : decide (cn < 1) = false := decide_eq_false (by omega)
      have z6 : decide (65535 < cn) = false := decide_eq_false (by omega)
      have c1 : decide ((a : Int) < (en : Int)) = false := decide_eq_false (by omega)
      have c2 : decide ((n : Int) < 1) = false := decide_eq_false (by omega)
      have c3 : decide ((r : Int) < (n : Int)) = false := decide_eq_false (by omega)
      have c4 : decide ((r : Int) - (n : Int) < (a : Int)) = false := decide_eq_false (by omega)
      have c5 : decide ((cn : Int) < 1) = false := decide_eq_false (by omega)
      have c6 : decide ((65535 : Int) < (cn : Int)) = false := decide_eq_false (by omega)
      have HG := Lib.hid (And.intro h2' (And.intro hus G.out.2.2))
      clear G hwf hsum hul hcnt hM hgc h1 h2 h3 h4 hts hsu hp h2' hus
      go_wp2_with fail
      go_quiet (fail)
      go_wp2_with fail
      go_quiet (fail)
      go_wp2_with fail
      refine ⟨⟨i + 1, a + n, u + n, by go_num, by go_num, by go_num, by omega, ⟨HG.out.1, HG.out.2.1, HG.out.2.2.trans ⟨rfl, rfl, rfl, Nat.le_refl _, fun _ _ => rfl⟩⟩⟩, by simp [intOf]; omega⟩
    · obtain rfl : i = M := by omega
      obtain ⟨hb0, hx0, hsz0, hS0, hwf, hsum, hul, hcnt, hM, hxs, hH0⟩ := HA.out
      obtain ⟨-, hu, hbw⟩ := G.out
      rw [List.take_of_length_le (by rw [hM]; exact Nat.le_refl _), hul] at hu
      have hb2 : Below W0.heap.size W0 wr := Hb.out.trans (hbw.mono Hb.out.size)
      have hS2 := hS0.below hb2
      have hbx : Bx wr H0 26 #[.pointer (some ⟨R, 0, none⟩)] := by
        rw [← hH0]
        exact hx0.below hb2 (by rw [hsz0]; omega)
      have e2 : wr.cell? ⟨H0, 0, none⟩ = some (.pointer (some ⟨R, 0, none⟩)) := hbx.cell 0
      have Hw := Lib.hid (show Below w.heap.size w wr from hb0.trans (hb2.mono (by rw [hsz0]; omega)))
      have hq := Lib.hid (pRows_calls wr B R v r ps hS2)
      rw [hu] at hq
      rw [hu] at hsum
      obtain ⟨hh, hhh⟩ : ∃ hh, heldS ps = hh := ⟨_, rfl⟩
      rw [hhh] at hq hsum
      obtain ⟨f, hf⟩ : ∃ f, r - u - hh = f := ⟨_, rfl⟩
      rw [hf] at hq
      have hs1 : (u : Int) + (hh : Int) + (f : Int) = (r : Int) := by omega
      have hu2 : u ≤ r := by omega
      have hh2 : hh ≤ r := by omega
      have hf2 : f ≤ r := by omega
      have hh0 : (0 : Int) ≤ (hh : Int) := by omega
      have hf0 : (0 : Int) ≤ (f : Int) := by omega
      clear hb0 hx0 hsz0 hS0 hwf hul hcnt hM hxs hH0 G hbw hb2 hS2 hbx hu hhh hf HA e0
      go_wp2_with fail
      refine (hq.out).mono ?_
      rintro e w' ⟨rfl, hb3⟩
      have Hb3 := Lib.hid (Hw.out.trans (hb3.mono Hw.out.size))
      clear hb3 hq
      go_wp2_with fail
      all_goals go_ret
      exact ⟨rfl, Hb3.out.alloc Hb3.out.size _⟩
end Go.Proofs.YtgkamdgegfioiaaDoor
