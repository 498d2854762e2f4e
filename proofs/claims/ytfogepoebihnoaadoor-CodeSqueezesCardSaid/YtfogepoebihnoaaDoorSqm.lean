/- The walk of (*squeezer).match. Conditions: the squeezer's first field reads as the bytes; the distance is no more than the place. -/
import Derived.Test.YtfogepoebihnoaaDoorLent
import Derived.Test.YtfogepoebihnoaaDoorOwn
import Derived.Test.YtfogepoebihnoaaDoorSqp
import Derived.IntWalk
import Derived.Deep.RegionHeld3
namespace Go.Proofs.YtfogepoebihnoaaDoor
open Go.RowKit
set_option linter.unusedSimpArgs false
set_option linter.unusedVariables false
/-- alike but for draws -/
structure Sm (w w' : World) : Prop where
  os : w'.os = w.os
  tape : w'.tape = w.tape
  output : w'.output = w.output
  heap : w'.heap = w.heap
theorem Sm.refl (w : World) : Sm w w := ⟨rfl, rfl, rfl, rfl⟩
theorem Sm.trans {a b c : World} (h : Sm a b) (k : Sm b c) : Sm a c := ⟨k.os.trans h.os, k.tape.trans h.tape, k.output.trans h.output, k.heap.trans h.heap⟩
theorem Sm.drew {a b : World} (h : Sm a b) : Sm a b.drew := ⟨h.os, h.tape, h.output, h.heap⟩
theorem Sm.drewN {a b : World} (h : Sm a b) (n : Nat) : Sm a (b.drewN n) := ⟨h.os, h.tape, h.output, h.heap⟩
theorem Sm.below {a b : World} (h : Sm a b) (B : Nat) : Below B a b := ⟨h.os, h.tape, h.output, by rw [h.heap]; exact Nat.le_refl _, fun k _ => by rw [h.heap]⟩
theorem Sm.cell {a b : World} (h : Sm a b) (x : Addr) : b.cell? x = a.cell? x := by simp only [World.cell?, h.heap]
theorem Sm.rd {a b : World} {A : Option Addr} {bs : List UInt8} (h : Sm a b) (hr : Rd a A bs) : Rd b A bs := fun j hj => by
  obtain ⟨ad, e, hc⟩ := hr j hj
  exact ⟨ad, e, (h.cell _).trans hc⟩
/-- n bytes at at_ are as those d ahead; no more of them are, or may be -/
def Mt (b : List UInt8) (at_ d n : Nat) : Prop := n ≤ 130 ∧ at_ + n ≤ b.length ∧ (∀ j, j < n → b.getD (at_ + j) 0 = b.getD (at_ + j - d) 0) ∧ (n = 130 ∨ at_ + n = b.length ∨ b.getD (at_ + n) 0 ≠ b.getD (at_ + n - d) 0)
def MtPost (b : List UInt8) (at_ d : Nat) (w : World) (e : Ending) (w' : World) : Prop := ∃ n : Nat, e = .returned (.int .i64 (n : Int)) ∧ Mt b at_ d n ∧ Sm w w'
set_option maxHeartbeats 4000000 in
set_option maxRecDepth 100000 in
theorem match_calls (R : Nat) (A : Option Addr) (c : Nat) (b : List UInt8) (at_ d : Nat) (w : World) (hR : w.cell? ⟨R, 0, none⟩ = some (.slice A b.length c)) (hr : Rd w A b) (hd : 1 ≤ d) (hda : d ≤ at_) (hl : at_ ≤ b.length) (hb : b.length ≤ 4096) :
    Calls Tryd.prog 37 #[.pointer (some ⟨R, 0, none⟩), .int .i64 at_, .int .i64 d] w fun e w' => MtPost b at_ d w e w' := by
  have H0 := Lib.hid (show Sm w w ∧ ∀ j, j < 0 → b.getD (at_ + j) 0 = b.getD (at_ + j - d) 0 from ⟨Sm.refl _, fun j hj => absurd hj (Nat.not_lt_zero j)⟩)
  have HR := Lib.hid hR
  have Hr := Lib.hid hr
  clear hR hr
  obtain ⟨N, hN⟩ : ∃ N, b.length = N := ⟨_, rfl⟩
  have HN := Lib.hid hN
  rw [hN] at hl hb HR
  clear hN
  go_enter Tryd.func37, Tryd.ntmps37
  go_wp2_with fail
  go_loopw [7] (fun i wr => ∃ k : Nat, k ≤ 130 ∧ at_ + k ≤ N ∧ i = .int .i64 k ∧ Hid (Sm w wr ∧ ∀ j, j < k → b.getD (at_ + j) 0 = b.getD (at_ + j - d) 0)) (fun i _ => 130 - (intOf i).toNat)
  case atStart => exact ⟨0, by omega, by omega, rfl, H0⟩
  case round =>
    clear H0
    rename World => wr
    obtain ⟨k, hk, hkN, rfl, H⟩ := hrel
    have hc1 : wr.cell? ⟨R, 0, none⟩ = some (.slice A N c) := (H.out.1.cell _).trans HR.out
    have hc1d : wr.drew.cell? ⟨R, 0, none⟩ = some (.slice A N c) := hc1
    have HS := Lib.hid (show Sm w wr.drew from H.out.1.drew)
    by_cases h130 : k < 130
    · have hk130 : (k : Int) < 130 := by omega
      obtain ⟨p, hp⟩ : ∃ p, at_ + k = p := ⟨_, rfl⟩
      have e1 : IntKind.i64.wrap ((at_ : Int) + (k : Int)) = (p : Int) := by
        rw [IntKind.wrap_i64]; omega
      have e1b : (at_ : Int) + (k : Int) = (p : Int) := by omega
      have e1c : IntKind.i64.wrap (p : Int) = (p : Int) := by rw [IntKind.wrap_i64]; omega
      by_cases hpN : p < N
      · obtain ⟨q, hq⟩ : ∃ q, p - d = q := ⟨_, rfl⟩
        have e2 : IntKind.i64.wrap ((p : Int) - (d : Int)) = (q : Int) := by
          rw [IntKind.wrap_i64]; omega
        have e2b : (p : Int) - (d : Int) = (q : Int) := by omega
        have e2c : IntKind.i64.wrap (q : Int) = (q : Int) := by rw [IntKind.wrap_i64]; omega
        have hqN : q < N := by omega
        obtain ⟨ad, hA, hx⟩ := (HS.out.rd Hr.out) p (by rw [HN.out]; exact hpN)
        subst hA
        obtain ⟨ad2, hA2, hy⟩ := (HS.out.rd Hr.out) q (by rw [HN.out]; exact hqN)
        cases hA2
        have hc1 : wr.cell? ⟨R, 0, none⟩ = some (.slice (some ad) N c) := hc1
        have gx : b.getD p 0 = b[p]'(by rw [HN.out]; exact hpN) := by simp [List.getD, show p < b.length by rw [HN.out]; exact hpN]
        have gy : b.getD q 0 = b[q]'(by rw [HN.out]; exact hqN) := by simp [List.getD, show q < b.length by rw [HN.out]; exact hqN]
        simp only [vb] at hx hy
        rw [← gx] at hx
        rw [← gy] at hy
        have hx2 : wr.cell? (ad.add p) = some (.int .u8 ((b.getD p 0).toNat : Int)) := hx
        have hy2 : wr.cell? (ad.add q) = some (.int .u8 ((b.getD q 0).toNat : Int)) := hy
        have hpi : (p : Int) < (N : Int) := by omega
        have hqi : (q : Int) < (N : Int) := by omega
        by_cases hxy : b.getD p 0 = b.getD q 0
        · have HN2 := Lib.hid (show Sm w wr.drew ∧ ∀ j, j < k + 1 → b.getD (at_ + j) 0 = b.getD (at_ + j - d) 0 from ⟨HS.out, fun j hj => by
            rcases Nat.lt_or_ge j k with h | h
            · exact H.out.2 j h
            · obtain rfl : j = k := by omega
              rw [hp, hq]; exact hxy⟩)
          rw [← hxy] at hy hy2
          clear H hxy gx gy
          generalize (b.getD p 0).toNat = x at *
          go_wp2_with fail
          go_region_held3 (fun w' => w'.cell? ⟨R, 0, none⟩ = some (.slice (some ad) N c) ∧ w'.cell? (ad.add p) = some (.int .u8 (x : Int)) ∧ w'.cell? (ad.add q) = some (.int .u8 (x : Int))) (first | exact ⟨hc1d, hx, hy⟩ | exact ⟨hc1, hx2, hy2⟩ | go_keep) (first | fail)
          go_wp2_with fail
          exact ⟨⟨k + 1, by omega, by omega, by go_num, HN2⟩, by simp [intOf]; omega⟩
        · have HN2 := Lib.hid (show Mt b at_ d k ∧ ∀ nq, Sm w (wr.drewN nq) from ⟨⟨hk, by rw [HN.out]; omega, H.out.2, .inr (.inr (by rw [hp, hq]; exact hxy))⟩, fun nq => H.out.1.drewN nq⟩)
          have hne : (((b.getD p 0).toNat : Int) == ((b.getD q 0).toNat : Int)) = false := by
            rw [beq_eq_false_iff_ne]
            intro h
            exact hxy (UInt8.toNat_inj.1 (by omega))
          clear H hxy gx gy
          generalize (b.getD p 0).toNat = x at *
          generalize (b.getD q 0).toNat = y at *
          go_wp2_with fail
          go_region_held3 (fun w' => w'.cell? ⟨R, 0, none⟩ = some (.slice (some ad) N c) ∧ w'.cell? (ad.add p) = some (.int .u8 (x : Int)) ∧ w'.cell? (ad.add q) = some (.int .u8 (y : Int))) (first | exact ⟨hc1d, hx, hy⟩ | exact ⟨hc1, hx2, hy2⟩ | go_keep) (first | fail)
          go_wp2_with fail
          go_ret
          exact ⟨k, rfl, HN2.out.1, HN2.out.2 1⟩
      · have HN2 := Lib.hid (show Mt b at_ d k ∧ ∀ nq, Sm w (wr.drewN nq) from ⟨⟨hk, by rw [HN.out]; omega, H.out.2, .inr (.inl (by rw [HN.out]; omega))⟩, fun nq => H.out.1.drewN nq⟩)
        obtain rfl : p = N := by omega
        clear H
        go_wp2_with fail
        go_region
        all_goals
          go_wp2_with fail
          go_ret
          exact ⟨k, rfl, HN2.out.1, HN2.out.2 1⟩
    · have HN2 := Lib.hid (show Mt b at_ d k ∧ ∀ nq, Sm w (wr.drewN nq) from ⟨⟨hk, by rw [HN.out]; omega, H.out.2, .inl (by omega)⟩, fun nq => H.out.1.drewN nq⟩)
      obtain rfl : k = 130 := by omega
      clear H
      go_wp2_with fail
      go_region
      all_goals
        go_wp2_with fail
        go_ret
        exact ⟨130, rfl, HN2.out.1, HN2.out.2 1⟩
end Go.Proofs.YtfogepoebihnoaaDoor
