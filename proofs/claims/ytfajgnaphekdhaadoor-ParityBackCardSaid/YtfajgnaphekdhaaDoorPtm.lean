/- Walks of parity.times, parity.power, parity.inverse, pad.by. Conditions: numbers of eight bits; the row of a pad. -/
import Derived.Test.YtfajgnaphekdhaaDoorPsums
import Derived.Test.YtfajgnaphekdhaaDoorGfd
import Derived.Deep.RegionWith
namespace Go.Proofs.YtfajgnaphekdhaaDoor
open Go.RowKit
set_option linter.unusedSimpArgs false
set_option linter.unusedVariables false
set_option maxRecDepth 10000
theorem sumD_stop (x y k : Nat) (h : y / 2 ^ k = 0) : ∀ d, sumD x y (k + d) = sumD x y k
  | 0 => rfl
  | d + 1 => by
    rw [← Nat.add_assoc]
    simp only [sumD]
    have hlt : y < 2 ^ k := Nat.lt_of_div_eq_zero (Nat.two_pow_pos k) h
    rw [Nat.testBit_lt_two_pow (Nat.lt_of_lt_of_le hlt (Nat.pow_le_pow_right (by omega) (by omega)))]
    rw [if_neg (by decide)]
    exact sumD_stop x y k h d
set_option maxHeartbeats 1000000 in
theorem ptimes_calls (x y : Nat) (hx : x < 256) (hy : y < 256) (w : World) :
    Calls Tryd.prog 50 #[.int .u8 x, .int .u8 y] w fun e w' => e = .returned (.int .u8 (mulN x y : Nat)) ∧ w = w' := by
  rw [mulN_sum x y hx]
  go_enter Tryd.func50, Tryd.ntmps50
  go_wp2_with fail
  go_loopw [0, 1, 5] (fun a b r wr => wr = w ∧ ∃ k m : Nat, k ≤ 8 ∧ m < 2 ^ (8 - k) ∧ a = .int .u8 (dblN k x : Nat) ∧ b = .int .u8 m ∧ r = .int .u8 (sumD x y k : Nat) ∧ Hid (m = y / 2 ^ k)) (fun _ b _ _ => (intOf b).toNat)
  case atStart => exact ⟨rfl, 0, y, by omega, by simpa using hy, rfl, rfl, rfl, Lib.hid (by simp)⟩
  case round =>
    obtain ⟨rfl, k, m, hk, hml, rfl, rfl, rfl, HM⟩ := hrel
    have hm256 : m < 256 := Nat.lt_of_lt_of_le hml (Nat.pow_le_pow_right (n := 2) (j := 8) (by omega) (by omega))
    by_cases hm0 : m = 0
    · have hend : sumD x y 8 = sumD x y k := by
        have := sumD_stop x y k (by rw [← HM.out]; exact hm0) (8 - k)
        rwa [show k + (8 - k) = 8 by omega] at this
      have Hend := Lib.hid hend
      generalize sumD x y k = r at *
      clear hend
      subst hm0
      go_wp2_with fail
      go_ret
      exact ⟨by rw [Hend.out]; rfl, rfl⟩
    · have hk8 : k < 8 := by
        rcases Nat.lt_or_ge k 8 with h | h
        · exact h
        · obtain rfl : k = 8 := by omega
          simp at hml; omega
      have hb0 : ((m : Int) != 0) = true := by simpa using (show ¬ (m : Int) = 0 by omega)
      have hand : bits .and .u8 (m : Int) 1 = ((m % 2 : Nat) : Int) := by
        have := u8_and_nat m 1 hm256 (by omega)
        rw [Nat.and_one_is_mod] at this
        exact this
      have hbit : y.testBit k = decide (m % 2 = 1) := by
        rw [HM.out, Nat.testBit_eq_decide_div_mod_eq]
      have hst : sumD x y (k + 1) = if y.testBit k then sumD x y k ^^^ dblN k x else sumD x y k := rfl
      have hrl := sumD_lt x y hx k
      have hdl := dblN_lt k x hx
      have hxo := u8_xor_nat (sumD x y k) (dblN k x) hrl hdl
      have Hdc := Lib.hid (fun W => double_calls (dblN k x) hdl W)
      have Hd1 := Lib.hid (show dbl (dblN k x) = dblN (k + 1) x from rfl)
      have HM2 := Lib.hid (show m / 2 = y / 2 ^ (k + 1) by rw [HM.out, Nat.div_div_eq_div_mul, Nat.pow_succ])
      have hml2 : m / 2 < 2 ^ (8 - (k + 1)) := by
        rw [show 8 - k = (8 - (k + 1)) + 1 by omega, Nat.pow_succ] at hml
        omega
      rw [hbit] at hst
      generalize sumD x y k = r at *
      generalize dblN k x = d at *
      by_cases h1 : m % 2 = 1
      · rw [h1] at hand
        rw [h1, decide_eq_true (rfl), if_pos rfl] at hst
        have Hst := Lib.hid hst
        have hand : bits .and .u8 (m : Int) 1 = 1 := hand
        clear hst hbit h1
        go_wp2_with fail
        refine (Hdc.out _).mono ?_
        rintro e w' ⟨rfl, rfl⟩
        go_wp2_with fail
        exact ⟨⟨trivial, k + 1, m / 2, by omega, hml2, by rw [Hd1.out], by rfl, by rw [Hst.out], HM2⟩, by simp [intOf]; omega⟩
      · rw [show m % 2 = 0 by omega] at hand
        rw [decide_eq_false h1, if_neg (by decide)] at hst
        have Hst := Lib.hid hst
        have hand : bits .and .u8 (m : Int) 1 = 0 := hand
        clear hst hbit h1 hxo
        go_wp2_with fail
        refine (Hdc.out _).mono ?_
        rintro e w' ⟨rfl, rfl⟩
        go_wp2_with fail
        exact ⟨⟨trivial, k + 1, m / 2, by omega, hml2, by rw [Hd1.out], by rfl, by rw [Hst.out], HM2⟩, by simp [intOf]; omega⟩
theorem ppower_calls (n : Nat) (hn : n ≤ 1000) (w : World) :
    Calls Tryd.prog 44 #[.int .i64 n] w fun e w' => e = .returned (.int .u8 (dblN n 1 : Nat)) ∧ w = w' := by
  go_enter Tryd.func44, Tryd.ntmps44
  go_wp2_with fail
  go_loopw [3, 5] (fun x i wr => wr = w ∧ ∃ k : Nat, k ≤ n ∧ i = .int .i64 k ∧ x = .int .u8 (dblN k 1 : Nat)) (fun _ i _ => n - (intOf i).toNat)
  case atStart => exact ⟨rfl, 0, by omega, rfl, rfl⟩
  case round =>
    obtain ⟨rfl, k, hk, rfl, rfl⟩ := hrel
    have hl := dblN_lt k 1 (by omega)
    by_cases hlt : k < n
    · have Hdc := Lib.hid (fun W => double_calls (dblN k 1) hl W)
      have Hd1 := Lib.hid (show dbl (dblN k 1) = dblN (k + 1) 1 from rfl)
      generalize dblN k 1 = d at *
      go_wp2_with fail
      refine (Hdc.out _).mono ?_
      rintro e w' ⟨rfl, rfl⟩
      go_wp2_with fail
      exact ⟨⟨trivial, k + 1, by omega, by go_num, by rw [Hd1.out]⟩, by simp [intOf]; omega⟩
    · obtain rfl : k = n := by omega
      go_wp2_with fail
      go_ret
      exact ⟨rfl, rfl⟩
theorem inverse_calls (x : Nat) (hx : x < 256) (w : World) :
    Calls Tryd.prog 43 #[.int .u8 x] w fun e w' => e = .returned (.int .u8 (iterM x 254 : Nat)) ∧ w = w' := by
  obtain ⟨N, hN⟩ : ∃ N : Nat, N = 254 := ⟨254, rfl⟩
  rw [show iterM x 254 = iterM x N by rw [hN]]
  go_enter Tryd.func43, Tryd.ntmps43
  go_wp2_with fail
  go_loopw [3, 4] (fun r i wr => wr = w ∧ ∃ k : Nat, k ≤ N ∧ i = .int .i64 k ∧ r = .int .u8 (iterM x k : Nat)) (fun _ i _ => N - (intOf i).toNat)
  case atStart => exact ⟨rfl, 0, by omega, rfl, rfl⟩
  case round =>
    obtain ⟨rfl, k, hk, rfl, rfl⟩ := hrel
    have hl := iterM_lt x k
    by_cases hlt : k < N
    · have Htm := Lib.hid (fun W => ptimes_calls (iterM x k) x hl hx W)
      have Hd1 := Lib.hid (show mulN (iterM x k) x = iterM x (k + 1) from rfl)
      have hk2 : (k : Int) < 254 := by omega
      generalize iterM x k = d at *
      go_wp2_with fail
      refine (Htm.out _).mono ?_
      rintro e w' ⟨rfl, rfl⟩
      go_wp2_with fail
      exact ⟨⟨trivial, k + 1, by omega, by go_num, by rw [Hd1.out]⟩, by simp [intOf]; omega⟩
    · obtain rfl : k = N := by omega
      have hk2 : ¬ (k : Int) < 254 := by omega
      go_wp2_with fail
      go_ret
      exact ⟨rfl, rfl⟩
/-- a row doubled n times -/
def mapK (n : Nat) (L : List UInt8) : List UInt8 := L.map fun x => UInt8.ofNat (dblN n x.toNat)
theorem mapK_step (n : Nat) (L : List UInt8) (k : Nat) (hk : k < L.length) : (mapK n (L.take k) ++ L.drop k).getD k 0 = L.getD k 0 ∧ (mapK n (L.take k) ++ L.drop k).set k (UInt8.ofNat (dblN n (L.getD k 0).toNat)) = mapK n (L.take (k + 1)) ++ L.drop (k + 1) ∧ (mapK n (L.take k) ++ L.drop k).length = L.length := by
  have hml : (mapK n (L.take k)).length = k := by simp [mapK]; omega
  have hd : L.drop k = L[k] :: L.drop (k + 1) := List.drop_eq_getElem_cons hk
  have hg : L.getD k 0 = L[k] := by simp [List.getD, hk]
  refine ⟨?_, ?_, ?_⟩
  · rw [hd, hg, List.getD, List.getElem?_append_right (by omega), hml, Nat.sub_self, List.getElem?_cons_zero]
    rfl
  · rw [hd, hg, List.set_append_right _ _ (by omega), hml, Nat.sub_self, List.set_cons_zero]
    have : mapK n (L.take (k + 1)) = mapK n (L.take k) ++ [UInt8.ofNat (dblN n L[k].toNat)] := by
      rw [List.take_succ_eq_append_getElem hk]
      exact List.map_append
    rw [this, List.append_assoc]
    rfl
  · rw [List.length_append, hml, List.length_drop]; omega
set_option maxHeartbeats 1000000 in
set_option maxRecDepth 100000 in
theorem by_calls (w : World) (g : Nat) (L : List UInt8) (n cap : Nat) (m : Nat) (hrow : w.heap[g]? = some (.cells (bArr L) 5 (0, 0))) (hm : m ≤ L.length) (hs : m ≤ 4096) :
    Calls Tryd.prog 42 #[.slice (some ⟨g, 0, none⟩) m cap, .int .u8 (dblN n 1 : Nat)] w fun e w' => e = .returned (.tuple #[]) ∧ w' = w.setRow g (bArr (mapK n (L.take m) ++ L.drop m)) := by
  have H0 := Lib.hid (show w = w.setRow g (bArr (mapK n (L.take 0) ++ L.drop 0)) by
    rw [List.take_zero, List.drop_zero]
    show _ = w.setRow g (bArr L)
    rw [setRow_self w g _ 5 (0, 0) hrow])
  have Hrow := Lib.hid hrow
  clear hrow
  have hd1 := dblN_lt n 1 (by omega)
  have HT := Lib.hid (fun (a : Nat) (ha : a < 256) W => show Calls Tryd.prog 50 #[.int .u8 a, .int .u8 (dblN n 1 : Nat)] W fun e w' => e = .returned (.int .u8 (dblN n a : Nat)) ∧ W = w' by
    have := ptimes_calls a (dblN n 1) ha hd1 W
    rwa [mulN_right a n ha] at this)
  generalize dblN n 1 = c at *
  have Hm := Lib.hid hm
  clear hm
  go_enter Tryd.func42, Tryd.ntmps42
  go_wp2_with fail
  go_loopw [7] (fun i wr => ∃ k : Nat, k ≤ m ∧ i = .int .i64 k ∧ Hid (wr = w.setRow g (bArr (mapK n (L.take k) ++ L.drop k)))) (fun i _ => m - (intOf i).toNat)
  case atStart => exact ⟨0, by omega, rfl, H0⟩
  case round =>
    clear H0
    obtain ⟨k, hk, rfl, H⟩ := hrel
    by_cases hlt : k < m
    · have hkL : k < L.length := by have := Hm.out; omega
      obtain ⟨hs1, hs2, hs3⟩ := mapK_step n L k hkL
      have hrow2 : wr.heap[g]? = some (.cells (bArr (mapK n (L.take k) ++ L.drop k)) 5 (0, 0)) := by
        rw [H.out]; exact setRow_heap w g _ _ 5 _ Hrow.out
      have h1 : wr.cell? ⟨g, k, none⟩ = some (.int .u8 ((L.getD k 0).toNat : Int)) := by
        rw [cell_of_row _ _ _ _ _ _ hrow2, bArr_getD _ _ (by rw [hs3]; exact hkL), hs1]
      have hf : wr.frozen? ⟨g, k, none⟩ = false := frozen_of_row _ g k _ 5 hrow2
      have hal := (L.getD k 0).toNat_lt
      have hdl := dblN_lt n (L.getD k 0).toNat (by omega)
      have hst := setRow_set (C' := #[]) Hrow.out (mapK n (L.take k) ++ L.drop k) k (UInt8.ofNat (dblN n (L.getD k 0).toNat))
      rw [hs2, ← H.out, ofN _ hdl] at hst
      have HTT := Lib.hid (fun W => HT.out (L.getD k 0).toNat (by omega) W)
      generalize dblN n (L.getD k 0).toNat = d at *
      generalize L.getD k 0 = a at *
      have Hst := Lib.hid hst
      clear hst hs1 hs2 hs3 hrow2 hkL
      go_wp2_with fail
      refine (HTT.out _).mono ?_
      rintro e w' ⟨rfl, rfl⟩
      go_wp2_with fail
      exact ⟨⟨k + 1, by omega, by go_num, Lib.hid Hst.out⟩, by simp [intOf]; omega⟩
    · obtain rfl : k = m := by omega
      have hw := H.out
      have Hw := Lib.hid hw
      clear hw H
      go_wp2_with fail
      go_end0
      exact ⟨rfl, Hw.out⟩
end Go.Proofs.YtfajgnaphekdhaaDoor
