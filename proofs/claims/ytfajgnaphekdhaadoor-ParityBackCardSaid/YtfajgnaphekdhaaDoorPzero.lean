/- The walk of parity.zero and of slices.ContainsFunc, slices.IndexFunc beneath it. Conditions: a slice at the head of a row of bytes. -/
import Derived.Test.YtfajgnaphekdhaaDoorPboth
namespace Go.Proofs.YtfajgnaphekdhaaDoor
open Go.RowKit
set_option linter.unusedSimpArgs false
set_option linter.unusedVariables false
def zeroB (L : List UInt8) : Bool := L.all (· == 0)
def IdxPost (L : List UInt8) (w : World) (e : Ending) (w' : World) : Prop := ∃ r : Int, e = .returned (.int .i64 r) ∧ decide (r ≥ 0) = !zeroB L ∧ w = w'
set_option maxRecDepth 100000 in
theorem zf_calls (x : UInt8) (w : World) : Calls Tryd.prog 52 #[.int .u8 (x.toNat : Int)] w fun e w' => e = .returned (.bool ((x.toNat : Int) != 0)) ∧ w = w' := by
  go_enter Tryd.func52, Tryd.ntmps52
  go_wp2_with fail
  go_ret
  exact ⟨rfl, rfl⟩
set_option maxHeartbeats 1000000 in
set_option maxRecDepth 100000 in
theorem indexf_calls (w : World) (g n c : Nat) (L X : List UInt8) (hg : w.heap[g]? = some (.cells (bArr (L ++ X)) 5 (0, 0))) (hl : L.length = n) (hn : n ≤ 4096) :
    Calls Tryd.prog 58 #[.slice (some ⟨g, 0, none⟩) n c, .func (.func 52) #[] #[]] w fun e w' => IdxPost L w e w' := by
  have H0 := Lib.hid (show ∀ b ∈ L.take 0, b = 0 by simp)
  have Hg := Lib.hid hg
  have Hl := Lib.hid hl
  have HZ := Lib.hid (fun x W => zf_calls x W)
  clear hg hl
  go_enter Tryd.func58, Tryd.ntmps58
  go_wp2_with fail
  go_loopw [8] (fun i wr => wr = w ∧ ∃ k : Nat, k ≤ n ∧ i = .int .i64 k ∧ Hid (∀ b ∈ L.take k, b = 0)) (fun i _ => n - (intOf i).toNat)
  case atStart => exact ⟨rfl, 0, by omega, rfl, H0⟩
  case round =>
    clear H0
    obtain ⟨rfl, k, hk, rfl, H⟩ := hrel
    by_cases hlt : k < n
    · have hkl : k < L.length := by have := Hl.out; omega
      have hc : wr.cell? ⟨g, k, none⟩ = some (.int .u8 ((L[k]).toNat : Int)) := by
        rw [cell_of_row _ _ _ _ _ _ Hg.out, bArr_get _ _ (by simp; omega), List.getElem_append_left hkl]
        rfl
      have HZk := Lib.hid (HZ.out L[k] wr)
      have hst : L.take (k + 1) = L.take k ++ [L[k]] := List.take_succ_eq_append_getElem hkl
      have hm : L[k] ∈ L := List.getElem_mem hkl
      generalize L[k] = x at *
      by_cases hx : x = 0
      · have HN := Lib.hid (show ∀ b ∈ L.take (k + 1), b = 0 from fun b hb => by
          rw [hst] at hb
          rcases List.mem_append.1 hb with hb | hb
          · exact H.out b hb
          · simp at hb; rw [hb]; exact hx)
        subst hx
        clear hst hm H
        go_wp2_with fail
        refine (HZk.out).mono ?_
        rintro e w' ⟨rfl, rfl⟩
        go_wp2_with fail
        exact ⟨⟨trivial, k + 1, by omega, by go_num, HN⟩, by simp [intOf]; omega⟩
      · have hz : ((x.toNat : Int) != 0) = true := by
          simp only [bne_iff_ne, ne_eq]
          intro h
          exact hx (UInt8.toNat_inj.1 (by simpa using h))
        have HN := Lib.hid (show decide ((k : Int) ≥ 0) = !zeroB L by
          have h0 : zeroB L = false := by
            unfold zeroB
            rw [List.all_eq_false]
            exact ⟨x, hm, by simpa using hx⟩
          rw [h0]
          simp)
        clear hst hm H hx
        go_wp2_with fail
        refine (HZk.out).mono ?_
        rintro e w' ⟨rfl, rfl⟩
        go_wp2_with fail
        go_ret
        exact ⟨k, rfl, HN.out, rfl⟩
    · obtain rfl : k = n := by omega
      have HN := Lib.hid (show decide ((-1 : Int) ≥ 0) = !zeroB L by
        have h0 : zeroB L = true := by
          unfold zeroB
          rw [List.all_eq_true]
          intro b hb
          have := H.out b (by rw [List.take_of_length_le (by have := Hl.out; omega)]; exact hb)
          simp [this]
        rw [h0]; rfl)
      clear H
      go_wp2_with fail
      go_ret
      exact ⟨-1, rfl, HN.out, rfl⟩
set_option maxHeartbeats 1000000 in
set_option maxRecDepth 100000 in
theorem contains_calls (w : World) (g n c : Nat) (L X : List UInt8) (hg : w.heap[g]? = some (.cells (bArr (L ++ X)) 5 (0, 0))) (hl : L.length = n) (hn : n ≤ 4096) :
    Calls Tryd.prog 51 #[.slice (some ⟨g, 0, none⟩) n c, .func (.func 52) #[] #[]] w fun e w' => e = .returned (.bool (!zeroB L)) ∧ w = w' := by
  have H := Lib.hid (indexf_calls w g n c L X hg hl hn)
  clear hg hl
  go_enter Tryd.func51, Tryd.ntmps51
  go_wp2_with fail
  refine (H.out).mono ?_
  rintro e w' ⟨r, rfl, hr, rfl⟩
  have Hr := Lib.hid hr
  clear hr
  go_wp2_with fail
  go_ret
  refine ⟨?_, rfl⟩
  rw [← Hr.out]
  rfl
set_option maxHeartbeats 1000000 in
set_option maxRecDepth 100000 in
theorem zero_calls (w : World) (g n c : Nat) (L X : List UInt8) (hg : w.heap[g]? = some (.cells (bArr (L ++ X)) 5 (0, 0))) (hl : L.length = n) (hn : n ≤ 4096) :
    Calls Tryd.prog 45 #[.slice (some ⟨g, 0, none⟩) n c] w fun e w' => e = .returned (.bool (zeroB L)) ∧ w = w' := by
  have H := Lib.hid (contains_calls w g n c L X hg hl hn)
  generalize zeroB L = z at *
  clear hg hl
  go_enter Tryd.func45, Tryd.ntmps45
  go_wp2_with fail
  refine (H.out).mono ?_
  rintro e w' ⟨rfl, rfl⟩
  go_wp2_with fail
  go_ret
  cases z <;> exact ⟨rfl, rfl⟩
end Go.Proofs.YtfajgnaphekdhaaDoor
