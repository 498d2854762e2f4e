/- Walks of parity.double, bedrockref.Times, bedrockref.power: what they compute is what Gf tells. -/
import Derived.Test.YtfajgnaphekdhaaDoorLent
import Derived.Test.YtfajgnaphekdhaaDoorOwn
import Derived.Test.YtfajgnaphekdhaaDoorGf
namespace Go.Proofs.YtfajgnaphekdhaaDoor
open Go.RowKit
set_option linter.unusedSimpArgs false
set_option linter.unusedVariables false
set_option maxRecDepth 10000
theorem dbl_hi (x : Nat) (h : 128 ≤ x) (hx : x < 256) : (x * 2 % 256) ^^^ 29 = dbl x ∧ x &&& 128 = 128 := by
  have hall : ((List.range 256).all fun x => decide (x < 128) || ((x * 2 % 256) ^^^ 29 == dbl x && x &&& 128 == 128)) = true := by kernel_rfl
  have := List.all_eq_true.1 hall x (List.mem_range.2 hx)
  simp only [Bool.or_eq_true, Bool.and_eq_true, beq_iff_eq, decide_eq_true_eq] at this
  rcases this with h' | h'
  · omega
  · exact h'
theorem dbl_lo (x : Nat) (hx : x < 128) : x * 2 = dbl x ∧ x &&& 128 = 0 := by
  have hall : ((List.range 128).all fun x => (x * 2 == dbl x && x &&& 128 == 0)) = true := by kernel_rfl
  have := List.all_eq_true.1 hall x (List.mem_range.2 hx)
  simp only [Bool.and_eq_true, beq_iff_eq] at this
  exact this
theorem double_calls (x : Nat) (hx : x < 256) (w : World) :
    Calls Tryd.prog 48 #[.int .u8 x] w fun e w' => e = .returned (.int .u8 (dbl x : Nat)) ∧ w = w' := by
  have hand : bits .and .u8 (x : Int) 128 = ((x &&& 128 : Nat) : Int) := u8_and_nat x 128 hx (by omega)
  by_cases h : 128 ≤ x
  · obtain ⟨h1, h2⟩ := dbl_hi x h hx
    have hxo : bits .xor .u8 ((x : Int) * 2 % 256) 29 = ((dbl x : Nat) : Int) := by
      rw [← h1, show (x : Int) * 2 % 256 = ((x * 2 % 256 : Nat) : Int) by omega]
      exact u8_xor_nat _ 29 (by omega) (by omega)
    rw [h2] at hand
    have hand : bits .and .u8 (x : Int) 128 = 128 := hand
    clear h1 h2
    generalize dbl x = d at *
    go_enter Tryd.func48, Tryd.ntmps48
    go_wp2_with fail
    go_ret
    exact ⟨rfl, rfl⟩
  · obtain ⟨h1, h2⟩ := dbl_lo x (by omega)
    rw [h2] at hand
    have hand : bits .and .u8 (x : Int) 128 = 0 := hand
    have hm : (x : Int) * 2 = ((dbl x : Nat) : Int) := by rw [← h1]; omega
    clear h1 h2
    generalize dbl x = d at *
    go_enter Tryd.func48, Tryd.ntmps48
    go_wp2_with fail
    go_ret
    exact ⟨by rw [← hm]; rfl, rfl⟩
theorem i64_xor_nat (a b : Nat) (ha : a < 4611686018427387904) (hb : b < 4611686018427387904) : bits .xor .i64 (a : Int) (b : Int) = ((a ^^^ b : Nat) : Int) := by
  have hx : a ^^^ b < 2 ^ 62 := Nat.xor_lt_two_pow (by omega) (by omega)
  show IntKind.i64.wrap ((BitVec.ofInt 64 (a : Int) ^^^ BitVec.ofInt 64 (b : Int)).toNat : Int) = _
  rw [BitVec.toNat_xor, ofInt_u64 a (by omega), ofInt_u64 b (by omega)]
  simp [IntKind.wrap, IntKind.bits, IntKind.signed]
  omega
theorem i64_and_nat (a b : Nat) (ha : a < 4611686018427387904) (hb : b < 4611686018427387904) : bits .and .i64 (a : Int) (b : Int) = ((a &&& b : Nat) : Int) := by
  have hx : a &&& b < 2 ^ 62 := Nat.and_lt_two_pow _ (by omega)
  show IntKind.i64.wrap ((BitVec.ofInt 64 (a : Int) &&& BitVec.ofInt 64 (b : Int)).toNat : Int) = _
  rw [BitVec.toNat_and, ofInt_u64 a (by omega), ofInt_u64 b (by omega)]
  simp [IntKind.wrap, IntKind.bits, IntKind.signed]
  omega
theorem polyN_lt (x y : Nat) (hx : x < 256) : ∀ n, n ≤ 8 → polyN x y n < 32768
  | 0, _ => by show 0 < 32768; omega
  | n + 1, h => by
    have ih := polyN_lt x y hx n (by omega)
    simp only [polyN]
    split
    · have h2 : x <<< n < 2 ^ 15 := by
        rw [Nat.shiftLeft_eq]
        have : 2 ^ n ≤ 2 ^ 7 := Nat.pow_le_pow_right (by omega) (by omega)
        calc x * 2 ^ n ≤ 255 * 2 ^ 7 := Nat.mul_le_mul (by omega) this
          _ < 2 ^ 15 := by decide
      exact Nat.xor_lt_two_pow (n := 15) ih h2
    · exact ih
theorem stp_lt (i c r : Nat) (hc : c < 32768) (hr : r < 32768) : stp i c r < 32768 := by
  unfold stp
  split
  · exact Nat.xor_lt_two_pow (n := 15) hr hc
  · exact hr
theorem redN_lt (p : Nat) (hp : p < 32768) : ∀ n, n ≤ 7 → redN n p < 32768
  | 0, _ => hp
  | n + 1, h => by
    have ih := redN_lt p hp n (by omega)
    simp only [redN]
    refine stp_lt _ _ _ ?_ ih
    rw [Nat.shiftLeft_eq]
    have : 2 ^ (6 - n) ≤ 2 ^ 6 := Nat.pow_le_pow_right (by omega) (by omega)
    calc 285 * 2 ^ (6 - n) ≤ 285 * 2 ^ 6 := Nat.mul_le_mul (Nat.le_refl _) this
      _ < 32768 := by decide
theorem sumD_lt (x y : Nat) (hx : x < 256) : ∀ n, sumD x y n < 256
  | 0 => by show 0 < 256; omega
  | n + 1 => by
    have ih := sumD_lt x y hx n
    simp only [sumD]
    split
    · exact Nat.xor_lt_two_pow (n := 8) ih (dblN_lt n x hx)
    · exact ih
theorem mulN_lt (x y : Nat) (hx : x < 256) : mulN x y < 256 := by
  rw [mulN_sum x y hx]; exact sumD_lt x y hx 8
theorem bit_u8 (y k : Nat) (hy : y < 256) : (bits .and .u8 ((y : Int) / 2 ^ k) 1 == 1) = y.testBit k := by
  have e : (y : Int) / 2 ^ k = ((y / 2 ^ k : Nat) : Int) := by norm_cast
  have hl : y / 2 ^ k < 256 := Nat.lt_of_le_of_lt (Nat.div_le_self _ _) hy
  have h1 : bits .and .u8 ((y / 2 ^ k : Nat) : Int) 1 = ((y / 2 ^ k &&& 1 : Nat) : Int) := u8_and_nat _ 1 hl (by omega)
  rw [e, h1, Nat.and_one_is_mod, Nat.testBit_eq_decide_div_mod_eq]
  rcases Nat.mod_two_eq_zero_or_one (y / 2 ^ k) with h | h <;> rw [h] <;> rfl
theorem bit_i64 (y k : Nat) (hy : y < 32768) : (bits .and .i64 ((y : Int) / 2 ^ k) 1 == 1) = y.testBit k := by
  have e : (y : Int) / 2 ^ k = ((y / 2 ^ k : Nat) : Int) := by norm_cast
  have hl : y / 2 ^ k < 32768 := Nat.lt_of_le_of_lt (Nat.div_le_self _ _) hy
  have h1 : bits .and .i64 ((y / 2 ^ k : Nat) : Int) 1 = ((y / 2 ^ k &&& 1 : Nat) : Int) := i64_and_nat _ 1 (by omega) (by omega)
  rw [e, h1, Nat.and_one_is_mod, Nat.testBit_eq_decide_div_mod_eq]
  rcases Nat.mod_two_eq_zero_or_one (y / 2 ^ k) with h | h <;> rw [h] <;> rfl
theorem shl_wrap (x k : Nat) (hx : x < 512) (hk : k ≤ 8) : wrap64 ((x : Int) * 2 ^ k) = ((x <<< k : Nat) : Int) ∧ x <<< k < 131072 := by
  have h1 : x <<< k < 131072 := by
    rw [Nat.shiftLeft_eq]
    have : 2 ^ k ≤ 2 ^ 8 := Nat.pow_le_pow_right (by omega) (by omega)
    calc x * 2 ^ k ≤ 511 * 2 ^ 8 := Nat.mul_le_mul (by omega) this
      _ < 131072 := by decide
  have e : (x : Int) * 2 ^ k = ((x <<< k : Nat) : Int) := by rw [Nat.shiftLeft_eq]; norm_cast
  refine ⟨?_, h1⟩
  rw [e]
  clear e
  generalize x <<< k = z at *
  unfold wrap64
  omega
set_option maxHeartbeats 1000000 in
theorem times_calls (x y : Nat) (hx : x < 256) (hy : y < 256) (w : World) :
    Calls Tryd.prog 36 #[.int .u8 x, .int .u8 y] w fun e w' => e = .returned (.int .u8 (mulN x y : Nat)) ∧ w = w' := by
  go_enter Tryd.func36, Tryd.ntmps36
  go_wp2_with fail
  go_loopw [5, 6] (fun r i wr => wr = w ∧ ∃ k : Nat, k ≤ 8 ∧ i = .int .i64 k ∧ r = .int .i64 (polyN x y k : Nat)) (fun _ i _ => 8 - (intOf i).toNat)
  case atStart => exact ⟨rfl, 0, by omega, rfl, rfl⟩
  case round =>
    obtain ⟨rfl, k, hk, rfl, rfl⟩ := hrel
    by_cases hlt : k < 8
    · have hp := polyN_lt x y hx k hk
      have hb := bit_u8 y k hy
      obtain ⟨hw, hwl⟩ := shl_wrap x k (by omega) (by omega)
      have hstep : polyN x y (k + 1) = if y.testBit k then polyN x y k ^^^ (x <<< k) else polyN x y k := rfl
      have hxo := i64_xor_nat (polyN x y k) (x <<< k) (by omega) (by omega)
      cases ht : y.testBit k
      · rw [ht] at hb hstep
        have Hst := Lib.hid hstep
        clear hstep hxo hw
        go_wp2_with fail
        exact ⟨⟨trivial, k + 1, by omega, by go_num, by rw [Hst.out]; rfl⟩, by simp [intOf]; omega⟩
      · rw [ht] at hb hstep
        rw [← hw] at hxo
        have Hst := Lib.hid hstep
        have Hxo := Lib.hid hxo
        clear hstep hxo hw
        go_wp2_with fail
        exact ⟨⟨trivial, k + 1, by omega, by go_num, by rw [Hst.out, Hxo.out]; rfl⟩, by simp [intOf]; omega⟩
    · obtain rfl : k = 8 := by omega
      have hP := polyN_lt x y hx 8 (by omega)
      have Hml := Lib.hid (mulN_lt x y hx)
      have HM := Lib.hid (show redN 7 (polyN x y 8) = mulN x y from rfl)
      generalize polyN x y 8 = p at *
      obtain ⟨M, hM⟩ : ∃ M, mulN x y = M := ⟨_, rfl⟩
      rw [hM] at Hml HM
      have HM2 := Lib.hid hM
      clear hM
      rename World => wo
      go_wp2_with fail
      go_loopw [5, 7] (fun r i wr => wr = wo ∧ ∃ m : Nat, 7 ≤ m ∧ m ≤ 14 ∧ i = .int .i64 m ∧ r = .int .i64 (redN (14 - m) p : Nat)) (fun _ i _ => (intOf i).toNat)
      case atStart => exact ⟨rfl, 14, by omega, by omega, rfl, rfl⟩
      case round =>
        obtain ⟨rfl, m, hm, hm2, rfl, rfl⟩ := hrel
        by_cases hlt : 8 ≤ m
        · obtain ⟨q, rfl⟩ : ∃ q, m = q + 8 := ⟨m - 8, by omega⟩
          have hp := redN_lt p hP (14 - (q + 8)) (by omega)
          have hb := bit_i64 (redN (14 - (q + 8)) p) (q + 8) hp
          obtain ⟨hw, hwl⟩ := shl_wrap 285 q (by omega) (by omega)
          have hw : wrap64 (285 * 2 ^ q) = ((285 <<< q : Nat) : Int) := hw
          have hstep : redN (14 - (q + 7)) p = if (redN (14 - (q + 8)) p).testBit (q + 8) then redN (14 - (q + 8)) p ^^^ (285 <<< q) else redN (14 - (q + 8)) p := by
            rw [show 14 - (q + 7) = (14 - (q + 8)) + 1 by omega]
            show stp (14 - (14 - (q + 8))) (285 <<< (6 - (14 - (q + 8)))) (redN (14 - (q + 8)) p) = _
            rw [show 14 - (14 - (q + 8)) = q + 8 by omega, show 6 - (14 - (q + 8)) = q by omega]
            rfl
          have hxo := i64_xor_nat (redN (14 - (q + 8)) p) (285 <<< q) (by omega) (by omega)
          rw [← hw] at hxo
          have Hxo := Lib.hid hxo
          clear hxo hw
          generalize redN (14 - (q + 8)) p = r at *
          cases ht : r.testBit (q + 8)
          · rw [ht] at hb hstep
            have Hst := Lib.hid hstep
            clear hstep
            go_wp2_with fail
            exact ⟨⟨trivial, q + 7, by omega, by omega, by go_num, by rw [Hst.out]; rfl⟩, by simp [intOf]; omega⟩
          · rw [ht] at hb hstep
            have Hst := Lib.hid hstep
            clear hstep
            go_wp2_with fail
            exact ⟨⟨trivial, q + 7, by omega, by omega, by go_num, by rw [Hst.out, Hxo.out]; rfl⟩, by simp [intOf]; omega⟩
        · obtain rfl : m = 7 := by omega
          have hr : redN (14 - 7) p = M := HM.out
          rw [hr]
          have hml := Hml.out
          clear hr
          go_wp2_with fail
          go_ret
          exact ⟨by rw [HM2.out]; rfl, rfl⟩
theorem power_calls (n : Nat) (hn : n ≤ 1000) (w : World) :
    Calls Tryd.prog 37 #[.int .i64 n] w fun e w' => e = .returned (.int .u8 (dblN n 1 : Nat)) ∧ w = w' := by
  go_enter Tryd.func37, Tryd.ntmps37
  go_wp2_with fail
  go_loopw [0, 3] (fun i x wr => wr = w ∧ ∃ k m : Nat, k + m = n ∧ i = .int .i64 m ∧ x = .int .u8 (dblN k 1 : Nat)) (fun i _ _ => (intOf i).toNat)
  case atStart => exact ⟨rfl, 0, n, by omega, rfl, rfl⟩
  case round =>
    obtain ⟨rfl, k, m, hkm, rfl, rfl⟩ := hrel
    by_cases hlt : 0 < m
    · obtain ⟨m, rfl⟩ : ∃ j, m = j + 1 := ⟨m - 1, by omega⟩
      have hl := dblN_lt k 1 (by omega)
      have ht := times_calls (dblN k 1) 2 hl (by omega) wr
      rw [mulN_two _ hl] at ht
      have Ht := Lib.hid (show Calls Tryd.prog 36 #[.int .u8 (dblN k 1 : Nat), .int .u8 2] wr fun e w' => e = .returned (.int .u8 (dblN (k + 1) 1 : Nat)) ∧ wr = w' from ht)
      clear ht
      obtain ⟨d2, hd2⟩ : ∃ d2, dblN (k + 1) 1 = d2 := ⟨_, rfl⟩
      rw [hd2] at Ht
      have Hd2 := Lib.hid hd2
      clear hd2
      generalize dblN k 1 = d at *
      have Hkm := Lib.hid hkm
      have hmb : (m : Int) ≤ 1000 := by omega
      clear hkm
      go_wp2_with fail
      refine (Ht.out).mono ?_
      rintro e w' ⟨rfl, rfl⟩
      go_wp2_with fail
      exact ⟨⟨trivial, k + 1, m, by have := Hkm.out; omega, by go_num, by rw [Hd2.out]⟩, by simp [intOf]⟩
    · obtain rfl : m = 0 := by omega
      obtain rfl : k = n := by omega
      go_wp2_with fail
      go_ret
      exact ⟨rfl, rfl⟩
end Go.Proofs.YtfajgnaphekdhaaDoor
