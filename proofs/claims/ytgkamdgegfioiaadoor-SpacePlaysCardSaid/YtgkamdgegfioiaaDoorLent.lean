/- Walks of lent, same and back: what is lent, whether two slices of bytes are the same, what came of what was lent. Condition: a slice that comes in reads as the bytes, at most 2^47 of them. -/
import Derived.Test.YtgkamdgegfioiaaDoorProg
import Derived.Test.YtgkamdgegfioiaaDoorBytes
namespace Go.Proofs.YtgkamdgegfioiaaDoor
open Go.RowKit
set_option linter.unusedSimpArgs false
set_option linter.unusedVariables false
theorem info5 : (Tryd.prog.info? 5).map (fun i => (i.zero, i.size, i.bytes)) = some (some (.int .u8 0), 1, 1) := by kernel_rfl
def lentL (bs : List UInt8) (k : Nat) : List UInt8 := bs ++ List.replicate k 77 ++ List.replicate (9 - k) 0
theorem lentL_0 (bs : List UInt8) : spl (List.replicate (bs.length + 9) 0) 0 bs = lentL bs 0 := by
  simp [lentL, spl]
theorem lentL_len (bs : List UInt8) (k : Nat) (hk : k ≤ 9) : (lentL bs k).length = bs.length + 9 := by simp [lentL]; omega
theorem lentL_step (bs : List UInt8) (k : Nat) (hk : k < 9) : (lentL bs k).set (bs.length + k) 77 = lentL bs (k + 1) := by
  obtain ⟨m, hm⟩ : ∃ m, 9 - k = m + 1 := ⟨8 - k, by omega⟩
  unfold lentL
  rw [hm, show 9 - (k + 1) = m by omega]
  have hl : (bs ++ List.replicate k (77 : UInt8)).length = bs.length + k := by simp
  rw [List.set_append_right _ _ (by omega), hl, Nat.sub_self, List.replicate_succ, List.set_cons_zero, List.replicate_succ', List.append_assoc, List.append_assoc, List.append_assoc]
  rfl
set_option maxHeartbeats 400000 in
set_option maxRecDepth 100000 in
theorem lent_calls (A : Option Addr) (c : Nat) (bs : List UInt8) (w : World) (hn : bs.length ≤ 140737488351232) (hr : Rd w A bs) :
    Calls Tryd.prog 62 #[.slice A bs.length c] w fun e w' => e = .returned (.slice (some ⟨w.heap.size, 0, none⟩) bs.length (bs.length + 9)) ∧ w' = w.alloc (.cells (bArr (lentL bs 9)) 5) := by
  obtain ⟨i5, hi, hz0, hz1, hz2⟩ := info_parts info5
  go_enter Tryd.func62, Tryd.ntmps62
  go_wp2_with fail
  rw [run_make w 22 5 i5 _ Tryd.underlying22 hi hz0 _ _ _ _ (by omega) (by omega) (by rw [hz2]; omega) (by omega)]
  go_wp2_with (at_builtin; go_must (refine wpList_append_run rfl (.tmp 10) (.tmp 11) 22 22 rfl rfl rfl (run_append_bytes _ 22 22 5 i5 Tryd.underlying22 hi hz1 w.heap.size 0 (bs.length + 9) (List.replicate (bs.length + 9) 0) ?h1 A c bs ?h2 ?h3 ?h4) ?_))
  case h1 => rw [heap_alloc_new, ← made_bytes]; simp [hz1]; congr
  case h2 => exact hr.alloc _
  case h3 => omega
  case h4 => simp
  rw [setRow_alloc_new, lentL_0]
  go_loopw [5] (fun i wr => ∃ k : Nat, k ≤ 9 ∧ i = .int .i64 ((bs.length : Int) + k) ∧ wr = w.alloc (.cells (bArr (lentL bs k)) 5)) (fun i _ => bs.length + 9 - (intOf i).toNat)
  case atStart => exact ⟨0, by omega, by simp, rfl⟩
  case round =>
    obtain ⟨k, hk, rfl, rfl⟩ := hrel
    by_cases hlt : k < 9
    · have h1 := bArr_getD (lentL bs k) (bs.length + k) (by rw [lentL_len _ _ hk]; omega)
      have h2 := bArr_set (lentL bs k) (bs.length + k) 77
      rw [lentL_step _ _ hlt] at h2
      go_wp2_with fail
      exact ⟨⟨k + 1, by omega, by go_num, congrArg (fun c => w.alloc (.cells c 5)) h2⟩, by simp [intOf]; omega⟩
    · go_wp2_with fail
      obtain rfl : k = 9 := by omega
      go_ret
      exact ⟨rfl, rfl⟩
set_option maxHeartbeats 400000 in
theorem same_calls (A B : Option Addr) (c d : Nat) (xs bs : List UInt8) (w : World) (ha : Rd w A xs) (hb : Rd w B bs) :
    Calls Tryd.prog 75 #[.slice A xs.length c, .slice B bs.length d] w fun e w' => e = .returned (.bool (xs == bs)) ∧ w = w' := by
  have h1 := run_string_of (P := Tryd.prog) w 22 9 5 Tryd.underlying22 Tryd.underlying5 Tryd.underlying9 A c xs ha
  have h2 := run_string_of (P := Tryd.prog) w 22 9 5 Tryd.underlying22 Tryd.underlying5 Tryd.underlying9 B d bs hb
  go_enter Tryd.func75, Tryd.ntmps75
  go_wp2_with fail
  go_ret
  exact ⟨rfl, rfl⟩
def backL (L : List UInt8) (k : Nat) : List UInt8 := List.replicate k 78 ++ L.drop k
theorem backL_len (L : List UInt8) (k : Nat) (hk : k ≤ L.length) : (backL L k).length = L.length := by simp [backL]; omega
theorem backL_at (L : List UInt8) (k : Nat) (hk : k < L.length) : (backL L k).getD k 0 = L.getD k 0 := by
  simp [backL, List.getD, List.getElem?_append_right, hk]
theorem backL_step (L : List UInt8) (k : Nat) (hk : k < L.length) : (backL L k).set k 78 = backL L (k + 1) := by
  unfold backL
  rw [List.set_append_right _ _ (by simp), List.length_replicate, Nat.sub_self, List.drop_eq_getElem_cons hk, List.set_cons_zero, List.replicate_succ', List.append_assoc]
  rfl
theorem lentL_tail (xs : List UInt8) (k : Nat) (h1 : xs.length ≤ k) (hk : k < xs.length + 9) : (lentL xs 9).getD k 0 = 77 := by
  simp only [lentL, Nat.sub_self, List.replicate_zero, List.append_nil]
  rw [List.getD, List.getElem?_append_right h1, List.getElem?_replicate, if_pos (by omega)]
  rfl
theorem setRow_set {w : World} {g : Nat} {C C' : Array Value} {e : TypeId} (hg : w.heap[g]? = some (.cells C e (0, 0))) (L : List UInt8) (k : Nat) (b : UInt8) :
    (w.setRow g (bArr L)).setCell ⟨g, k, none⟩ (Value.int .u8 (b.toNat : Int)) = w.setRow g (bArr (L.set k b)) := by
  rw [setCell_eq_setRow _ g k (bArr L) e (0, 0) _ (setRow_heap w g C _ e _ hg), setRow_setRow, bArr_set]
set_option maxHeartbeats 400000 in
theorem back_calls (g : Nat) (xs : List UInt8) (B : Option Addr) (d : Nat) (bs : List UInt8) (w : World) (hg : w.heap[g]? = some (.cells (bArr (lentL xs 9)) 5 (0, 0)))
    (hn : xs.length ≤ 140737488351232) (hlen : bs.length = xs.length) (hb : Rd w B bs) :
    Calls Tryd.prog 63 #[.slice (some ⟨g, 0, none⟩) xs.length (xs.length + 9), .slice B xs.length d] w fun e w' =>
      e = .returned (.bool (xs == bs)) ∧ w' = w.setRow g (bArr (List.replicate (xs.length + 9) 78)) := by
  have hs := same_calls (some ⟨g, 0, none⟩) B (xs.length + 9) d xs bs w (Rd.block hg ⟨List.replicate 9 77, by simp [lentL]⟩) hb
  rw [hlen] at hs
  have Hs := Lib.hid hs
  have hL : (lentL xs 9).length = xs.length + 9 := lentL_len xs 9 (by omega)
  have HL := Lib.hid hL
  have Hg := Lib.hid hg
  have Hlen := Lib.hid hlen
  clear hs hlen hg hL
  generalize hq : (xs == bs) = q at *
  clear hq
  go_enter Tryd.func63, Tryd.ntmps63
  go_wp2_with (go_at_call 75; refine (Hs.out).mono ?_; rintro e w' ⟨rfl, rfl⟩)
  have h0 : w = w.setRow g (bArr (backL (lentL xs 9) 0)) := by
    rw [show backL (lentL xs 9) 0 = lentL xs 9 from by simp [backL], setRow_self w g _ 5 (0, 0) Hg.out]
  go_loopw [5, 7] (fun v i wr => ∃ k : Nat, k ≤ xs.length + 9 ∧ v = .bool q ∧ i = .int .i64 k ∧ wr = w.setRow g (bArr (backL (lentL xs 9) k))) (fun _ i _ => xs.length + 9 - (intOf i).toNat)
  case atStart => exact ⟨0, by omega, rfl, rfl, h0⟩
  case round =>
    clear h0
    obtain ⟨k, hk, rfl, rfl, rfl⟩ := hrel
    by_cases hlt : k < xs.length + 9
    · have hL := HL.out
      have hv := bArr_getD (backL (lentL xs 9) k) k (by rw [backL_len _ _ (by omega)]; omega)
      rw [backL_at _ _ (by omega)] at hv
      have h1 : (w.setRow g (bArr (backL (lentL xs 9) k))).cell? ⟨g, k, none⟩ = some (Value.int .u8 (((lentL xs 9).getD k 0).toNat : Int)) := by
        rw [cell_setRow_same w g k _ _ 5 (0, 0) Hg.out]; exact hv
      have h2 := setRow_set (C' := #[]) Hg.out (backL (lentL xs 9) k) k 78
      rw [backL_step _ _ (by omega)] at h2
      have h3 : (w.setRow g (bArr (backL (lentL xs 9) k))).frozen? ⟨g, k, none⟩ = false := frozen_of_row _ g k _ 5 (setRow_heap w g _ _ 5 _ Hg.out)
      have e78 : ((78 : UInt8).toNat : Int) = 78 := rfl
      rw [e78] at h2
      have H2 := Lib.hid h2
      clear hv hL h2
      by_cases hge : xs.length ≤ k
      · rw [lentL_tail xs k hge hlt] at h1
        have e77 : ((77 : UInt8).toNat : Int) = 77 := rfl
        rw [e77] at h1
        go_wp2_with fail
        exact ⟨⟨k + 1, by omega, rfl, by go_num, H2.out⟩, by simp [intOf]; omega⟩
      · go_wp2_with fail
        exact ⟨⟨k + 1, by omega, rfl, by go_num, H2.out⟩, by simp [intOf]; omega⟩
    · obtain rfl : k = xs.length + 9 := by omega
      go_wp2_with fail
      go_ret
      exact ⟨rfl, by rw [show backL (lentL xs 9) (xs.length + 9) = List.replicate (xs.length + 9) 78 from by rw [backL, List.drop_of_length_le (by rw [HL.out]; omega), List.append_nil]]⟩
theorem lent_calls2 (A : Option Addr) (c : Nat) (bs : List UInt8) (w : World) (hn : bs.length ≤ 140737488351232) (hr : Rd w A bs) :
    Calls Tryd.prog 62 #[.slice A bs.length c] w fun e w' => ∃ g, e = .returned (.slice (some ⟨g, 0, none⟩) bs.length (bs.length + 9)) ∧ w'.heap[g]? = some (.cells (bArr (lentL bs 9)) 5 (0, 0)) ∧ w.heap.size ≤ g ∧ g < w'.heap.size ∧ Below w.heap.size w w' :=
  (lent_calls A c bs w hn hr).mono fun e w' ⟨he, hw⟩ => ⟨w.heap.size, he, by rw [hw]; exact heap_alloc_new w _, Nat.le_refl _, by rw [hw]; simp, by rw [hw]; exact (Below.refl _ _).alloc (Nat.le_refl _) _⟩
end Go.Proofs.YtgkamdgegfioiaaDoor
