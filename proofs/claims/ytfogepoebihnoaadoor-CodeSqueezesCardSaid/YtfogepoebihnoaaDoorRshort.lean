/- The walk of bedrockref.Short: what it answers is one of the bounds. Condition: the slice reads as at most 4096 bytes. -/
import Derived.Test.YtfogepoebihnoaaDoorSqm
namespace Go.Proofs.YtfogepoebihnoaaDoor
open Go.RowKit
set_option linter.unusedSimpArgs false
set_option linter.unusedVariables false
/-- one of the bounds -/
def ShV (b : List UInt8) (v : Nat) : Prop := v = b.length + (b.length + 127) / 128 ∨ ∃ p, Per b p ∧ v = p + 8 + 3 * (b.length / 130)
def PerT (b : List UInt8) (p k : Nat) (bb : Bool) : Prop := bb = true ↔ ∀ j, p ≤ j → j < k → b.getD j 0 = b.getD (j - p) 0
def ShPost (b : List UInt8) (w : World) (e : Ending) (w' : World) : Prop := ∃ v : Nat, e = .returned (.int .i64 (v : Int)) ∧ ShV b v ∧ Sm w w'
theorem ShV.le {b : List UInt8} {v : Nat} (h : ShV b v) : v ≤ b.length + (b.length + 127) / 128 + 72 + 3 * (b.length / 130) := by
  rcases h with rfl | ⟨p, hp, rfl⟩
  · omega
  · have := hp.2.1; omega
set_option maxHeartbeats 4000000 in
set_option maxRecDepth 100000 in
theorem short_calls (A : Option Addr) (c : Nat) (b : List UInt8) (w : World) (hr : Rd w A b) (hb : b.length ≤ 4096) :
    Calls Tryd.prog 18 #[.slice A b.length c] w fun e w' => ShPost b w e w' := by
  obtain ⟨N, hN⟩ : ∃ N, b.length = N := ⟨_, rfl⟩
  have HN := Lib.hid hN
  have Hr := Lib.hid hr
  have H0 := Lib.hid (show Sm w w ∧ ShV b (N + (N + 127) / 128) from ⟨Sm.refl _, .inl (by rw [hN])⟩)
  have hq1 : ((N : Int) + 127).tdiv 128 = (((N + 127) / 128 : Nat) : Int) := by
    rw [Int.tdiv_eq_ediv_of_nonneg (by omega)]; omega
  have hq2 : (N : Int).tdiv 130 = ((N / 130 : Nat) : Int) := by
    rw [Int.tdiv_eq_ediv_of_nonneg (by omega)]; omega
  have hq1b : ((N : Int) + 127) / 128 = (((N + 127) / 128 : Nat) : Int) := by omega
  have hq2b : (N : Int) / 130 = ((N / 130 : Nat) : Int) := by omega
  have hs1 : (N + 127) / 128 ≤ 33 := by rw [hN] at hb; omega
  have hs2 : N / 130 ≤ 32 := by rw [hN] at hb; omega
  rw [hN] at hb ⊢
  obtain ⟨s1, hs1e⟩ : ∃ s1, (N + 127) / 128 = s1 := ⟨_, rfl⟩
  obtain ⟨s2, hs2e⟩ : ∃ s2, N / 130 = s2 := ⟨_, rfl⟩
  have Hs2 := Lib.hid hs2e
  rw [hs1e] at hq1 hq1b hs1 H0
  rw [hs2e] at hq2 hq2b hs2
  have hsum : (N : Int) + (s1 : Int) = ((N + s1 : Nat) : Int) := by omega
  have H0 := Lib.hid (show ∃ v : Nat, v ≤ 20000 ∧ (N : Int) + (s1 : Int) = (v : Int) ∧ Sm w w ∧ ShV b v from ⟨N + s1, by omega, by omega, H0.out⟩)
  clear hr hN hs1e hs2e hsum
  go_enter Tryd.func18, Tryd.ntmps18
  go_wp2_with fail
  go_loopw [3, 4] (fun x i wr => ∃ p v : Nat, 1 ≤ p ∧ p ≤ 65 ∧ v ≤ 20000 ∧ i = .int .i64 p ∧ x = .int .i64 v ∧ Hid (Sm w wr ∧ ShV b v)) (fun _ i _ => 65 - (intOf i).toNat)
  case atStart =>
    obtain ⟨v, h1, h2, h3⟩ := H0.out
    exact ⟨1, v, by omega, by omega, h1, rfl, by first | rw [h2] | rfl, Lib.hid h3⟩
  case round =>
    clear H0
    rename World => wo
    obtain ⟨p, v, hp1, hp2, hv, rfl, rfl, H⟩ := hrel
    by_cases hgo : p ≤ 64 ∧ p ≤ N
    · obtain ⟨h64, hpN⟩ := hgo
      have hpi : (p : Int) ≤ 64 := by omega
      have hpNi : (p : Int) ≤ (N : Int) := by omega
      have H1 := Lib.hid (show Sm w wo ∧ PerT b p p true from ⟨H.out.1, ⟨fun _ j h1 h2 => by omega, fun _ => rfl⟩⟩)
      have Hv := Lib.hid H.out.2
      clear H
      go_wp2_with fail
      go_loopw [5, 6] (fun a i wr => ∃ (k : Nat) (bb : Bool), p ≤ k ∧ k ≤ N ∧ i = .int .i64 k ∧ a = .bool bb ∧ Hid (Sm w wr ∧ PerT b p k bb)) (fun _ i _ => N - (intOf i).toNat)
      case atStart => exact ⟨p, true, by omega, by omega, rfl, rfl, H1⟩
      case round =>
        clear H1
        rename World => wr
        obtain ⟨k, bb, hk1, hk2, rfl, rfl, H2⟩ := hrel
        cases bb with
        | false =>
          have HN2 := Lib.hid (And.intro H2.out.1 Hv.out)
          by_cases hlt : k < N
          · have hki : (k : Int) < (N : Int) := by omega
            go_wp2_with fail
            exact ⟨⟨p + 1, v, by omega, by omega, hv, by go_num, rfl, HN2⟩, by simp [intOf]; omega⟩
          · obtain rfl : k = N := by omega
            go_wp2_with fail
            exact ⟨⟨p + 1, v, by omega, by omega, hv, by go_num, rfl, HN2⟩, by simp [intOf]; omega⟩
        | true =>
          by_cases hlt : k < N
          · have hki : (k : Int) < (N : Int) := by omega
            obtain ⟨q, hq⟩ : ∃ q, k - p = q := ⟨_, rfl⟩
            have e2 : IntKind.i64.wrap ((k : Int) - (p : Int)) = (q : Int) := by rw [IntKind.wrap_i64]; omega
            have e2b : (k : Int) - (p : Int) = (q : Int) := by omega
            have e2c : IntKind.i64.wrap (q : Int) = (q : Int) := by rw [IntKind.wrap_i64]; omega
            have hqN : q < N := by omega
            have hqi : (q : Int) < (N : Int) := by omega
            obtain ⟨ad, hA, hx⟩ := (H2.out.1.drew.rd Hr.out) k (by rw [HN.out]; exact hlt)
            subst hA
            obtain ⟨ad2, hA2, hy⟩ := (H2.out.1.drew.rd Hr.out) q (by rw [HN.out]; exact hqN)
            cases hA2
            have gx : b.getD k 0 = b[k]'(by rw [HN.out]; exact hlt) := by simp [List.getD, show k < b.length by rw [HN.out]; exact hlt]
            have gy : b.getD q 0 = b[q]'(by rw [HN.out]; exact hqN) := by simp [List.getD, show q < b.length by rw [HN.out]; exact hqN]
            simp only [vb] at hx hy
            rw [← gx] at hx
            rw [← gy] at hy
            have hx2 : wr.cell? (ad.add k) = some (.int .u8 ((b.getD k 0).toNat : Int)) := hx
            have hy2 : wr.cell? (ad.add q) = some (.int .u8 ((b.getD q 0).toNat : Int)) := hy
            have HN2 := Lib.hid (show Sm w wr.drew ∧ PerT b p (k + 1) (((b.getD k 0).toNat : Int) == ((b.getD q 0).toNat : Int)) from ⟨H2.out.1.drew, by
              unfold PerT
              rw [beq_iff_eq]
              constructor
              · intro h j h1 h2
                rcases Nat.lt_or_ge j k with h3 | h3
                · exact H2.out.2.1 rfl j h1 h3
                · obtain rfl : j = k := by omega
                  rw [hq]; exact UInt8.toNat_inj.1 (by omega)
              · intro h
                have := h k hk1 (by omega)
                rw [hq] at this
                rw [this]⟩)
            clear gx gy H2
            generalize (b.getD k 0).toNat = x at *
            generalize (b.getD q 0).toNat = y at *
            go_wp2_with fail
            go_region_held3 (fun w' => w'.cell? (ad.add k) = some (.int .u8 (x : Int)) ∧ w'.cell? (ad.add q) = some (.int .u8 (y : Int))) (first | exact ⟨hx, hy⟩ | exact ⟨hx2, hy2⟩ | go_keep) (first | fail)
            all_goals
              go_wp2_with fail
              exact ⟨⟨k + 1, _, by omega, by omega, by go_num, rfl, HN2⟩, by simp [intOf]; omega⟩
          · obtain rfl : k = N := by omega
            have hper : Per b p := ⟨hp1, h64, by rw [HN.out]; omega, fun i h1 h2 => H2.out.2.1 rfl i h1 (by rw [HN.out] at h2; exact h2)⟩
            have HN2 := Lib.hid (show Sm w wr ∧ ∃ v' : Nat, v' ≤ 20000 ∧ min (v : Int) ((p : Int) + 8 + 3 * (s2 : Int)) = (v' : Int) ∧ ShV b v' from ⟨H2.out.1, min v (p + 8 + 3 * s2), by omega, by omega, by
              rcases Nat.le_total v (p + 8 + 3 * s2) with h | h
              · rw [Nat.min_eq_left h]; exact Hv.out
              · rw [Nat.min_eq_right h]; exact .inr ⟨p, hper, by rw [HN.out, Hs2.out]⟩⟩)
            clear H2 hper
            go_wp2_with fail
            obtain ⟨h1, v', h2, h3, h4⟩ := HN2.out
            exact ⟨⟨p + 1, v', by omega, by omega, h2, by go_num, by rw [← h3]; congr 1; split <;> omega, Lib.hid ⟨h1, h4⟩⟩, by simp [intOf]; omega⟩
    · rcases (show (p ≤ 64 ∧ ¬ p ≤ N) ∨ ¬ p ≤ 64 by omega) with ⟨h1, h2⟩ | h1
      · have hpi : (p : Int) ≤ 64 := by omega
        have hpNi : ¬ (p : Int) ≤ (N : Int) := by omega
        go_wp2_with fail
        go_ret
        exact ⟨v, rfl, H.out.2, H.out.1⟩
      · have hpi : ¬ (p : Int) ≤ 64 := by omega
        go_wp2_with fail
        go_ret
        exact ⟨v, rfl, H.out.2, H.out.1⟩
end Go.Proofs.YtfogepoebihnoaaDoor
