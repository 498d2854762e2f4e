/- Walk of back: it answers whether the lent bytes are as they were, and spoils them. Condition: the row is as lent left it. -/
import Derived.Test.YtnjgmbjeclmcnaaA1
namespace Go.Proofs.Ytnjgmbjeclmcnaa
open Go.RowKit
set_option linter.unusedSimpArgs false
set_option linter.unusedVariables false
def backL (L : List UInt8) (k : Nat) : List UInt8 := List.replicate k 78 ++ L.drop k
theorem backL_len (L : List UInt8) (k : Nat) (hk : k ≤ L.length) : (backL L k).length = L.length := by simp [backL]; omega
theorem backL_at (L : List UInt8) (k : Nat) (hk : k < L.length) : (backL L k).getD k 0 = L.getD k 0 := by
  simp [backL, List.getD, List.getElem?_append_right, hk]
theorem backL_step (L : List UInt8) (k : Nat) (hk : k < L.length) : (backL L k).set k 78 = backL L (k + 1) := by
  unfold backL
  rw [List.set_append_right _ _ (by simp), List.length_replicate, Nat.sub_self, List.drop_eq_getElem_cons hk, List.set_cons_zero, List.replicate_succ', List.append_assoc]
  rfl
theorem lentL_tail (xs : List UInt8) (k : Nat) (h1 : xs.length ≤ k) (hk : k < xs.length + 9) : (lentL xs 9).getD k 0 = 77 := by
  simp only [lentL, Nat.sub_self, List.replicate_zero, List.append_nil]
  rw [List.getD, List.getElem?_append_right h1, List.getElem?_replicate, if_pos (by omega)]
  rfl
theorem setRow_set {w : World} {g : Nat} {C C' : Array Value} {e : TypeId} (hg : w.heap[g]? = some (.cells C e (0, 0))) (L : List UInt8) (k : Nat) (b : UInt8) :
    (w.setRow g (bArr L)).setCell ⟨g, k, none⟩ (Value.int .u8 (b.toNat : Int)) = w.setRow g (bArr (L.set k b)) := by
  rw [setCell_eq_setRow _ g k (bArr L) e (0, 0) _ (setRow_heap w g C _ e _ hg), setRow_setRow, bArr_set]
set_option maxHeartbeats 400000 in
theorem back_calls (g : Nat) (xs : List UInt8) (B : Option Addr) (d : Nat) (bs : List UInt8) (w : World) (hg : w.heap[g]? = some (.cells (bArr (lentL xs 9)) 5 (0, 0)))
    (hn : xs.length ≤ 140737488351232) (hlen : bs.length = xs.length) (hb : Rd w B bs) :
    Calls Try.prog 7 #[.slice (some ⟨g, 0, none⟩) xs.length (xs.length + 9), .slice B xs.length d] w fun e w' =>
      e = .returned (.bool (xs == bs)) ∧ w' = w.setRow g (bArr (List.replicate (xs.length + 9) 78)) := by
  have hs := same_calls (some ⟨g, 0, none⟩) B (xs.length + 9) d xs bs w (Rd.block hg ⟨List.replicate 9 77, by simp [lentL]⟩) hb
  rw [hlen] at hs
  have Hs := Lib.hid hs
  have hL : (lentL xs 9).length = xs.length + 9 := lentL_len xs 9 (by omega)
  have HL := Lib.hid hL
  have Hg := Lib.hid hg
  have Hlen := Lib.hid hlen
  clear hs hlen hg hL
  generalize hq : (xs == bs) = q at *
  clear hq
  go_enter Try.func7, Try.ntmps7
  go_wp2_with (go_at_call 11; refine (Hs.out).mono ?_; rintro e w' ⟨rfl, rfl⟩)
  have h0 : w = w.setRow g (bArr (backL (lentL xs 9) 0)) := by
    rw [show backL (lentL xs 9) 0 = lentL xs 9 from by simp [backL], setRow_self w g _ 5 (0, 0) Hg.out]
  go_loopw [5, 7] (fun v i wr => ∃ k : Nat, k ≤ xs.length + 9 ∧ v = .bool q ∧ i = .int .i64 k ∧ wr = w.setRow g (bArr (backL (lentL xs 9) k))) (fun _ i _ => xs.length + 9 - (intOf i).toNat)
  case atStart => exact ⟨0, by omega, rfl, rfl, h0⟩
  case round =>
    clear h0
    obtain ⟨k, hk, rfl, rfl, rfl⟩ := hrel
    by_cases hlt : k < xs.length + 9
    · have hL := HL.out
      have hv := bArr_getD (backL (lentL xs 9) k) k (by rw [backL_len _ _ (by omega)]; omega)
      rw [backL_at _ _ (by omega)] at hv
      have h1 : (w.setRow g (bArr (backL (lentL xs 9) k))).cell? ⟨g, k, none⟩ = some (Value.int .u8 (((lentL xs 9).getD k 0).toNat : Int)) := by
        rw [cell_setRow_same w g k _ _ 5 (0, 0) Hg.out]; exact hv
      have h2 := setRow_set (C' := #[]) Hg.out (backL (lentL xs 9) k) k 78
      rw [backL_step _ _ (by omega)] at h2
      have h3 : (w.setRow g (bArr (backL (lentL xs 9) k))).frozen? ⟨g, k, none⟩ = false := frozen_of_row _ g k _ 5 (setRow_heap w g _ _ 5 _ Hg.out)
      have e78 : ((78 : UInt8).toNat : Int) = 78 := rfl
      rw [e78] at h2
      have H2 := Lib.hid h2
      clear hv hL h2
      by_cases hge : xs.length ≤ k
      · rw [lentL_tail xs k hge hlt] at h1
        have e77 : ((77 : UInt8).toNat : Int) = 77 := rfl
        rw [e77] at h1
        go_wp2_with fail
        exact ⟨⟨k + 1, by omega, rfl, by go_num, H2.out⟩, by simp [intOf]; omega⟩
      · go_wp2_with fail
        exact ⟨⟨k + 1, by omega, rfl, by go_num, H2.out⟩, by simp [intOf]; omega⟩
    · obtain rfl : k = xs.length + 9 := by omega
      go_wp2_with fail
      go_ret
      exact ⟨rfl, by rw [show backL (lentL xs 9) (xs.length + 9) = List.replicate (xs.length + 9) 78 from by rw [backL, List.drop_of_length_le (by rw [HL.out]; omega), List.append_nil]]⟩
end Go.Proofs.Ytnjgmbjeclmcnaa
