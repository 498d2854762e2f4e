/- Walks of SumBursts: the burst is written into the text's bytes, and both sums are told. No condition beyond the text's size. -/
import Derived.Test.YtnjgmbjeclmcnaaA1
import Derived.Test.YtnjgmbjeclmcnaaC1
import Derived.Laws.CopyOwn
import Derived.RegionTactic
import Derived.BigRegion
import Derived.OpenShut
namespace Go.Proofs.Ytnjgmbjeclmcnaa
open Go.RowKit
set_option linter.unusedSimpArgs false
set_option linter.unusedVariables false
theorem tmod_bd (n k : Int) (hk : 0 < k) : -k < n.tmod k ∧ n.tmod k < k := by
  have h1 := Int.tmod_lt_of_pos n hk
  have h2 : (-n).tmod k < k := Int.tmod_lt_of_pos (-n) hk
  rw [Int.neg_tmod] at h2
  omega
theorem tmod_mod (n k : Int) (hk : 0 < k) : n % k = if n.tmod k < 0 then n.tmod k + k else n.tmod k := by
  have hb := tmod_bd n k hk
  have he := Int.tmod_add_mul_tdiv n k
  have hm : n % k = n.tmod k % k := by
    conv => lhs; rw [← he]
    exact Int.add_mul_emod_self_left _ _ _
  split
  · rw [hm, ← Int.add_emod_right, Int.emod_eq_of_lt (by omega) (by omega)]
  · rw [hm, Int.emod_eq_of_lt (by omega) (by omega)]
set_option maxHeartbeats 400000 in
theorem pick_calls (n k : Int) (w : World) (h1 : -9223372036854775808 ≤ n) (h2 : n ≤ 9223372036854775807) (hk : 0 < k) (hk2 : k ≤ 9223372036854775807) :
    Calls Try.prog 9 #[.int .i64 n, .int .i64 k] w fun e w' => e = .returned (.int .i64 (n % k)) ∧ w = w' := by
  have hm := tmod_mod n k hk
  have hb := tmod_bd n k hk
  have Hm := Lib.hid hm
  have Hb := Lib.hid hb
  clear hm hb
  go_enter Try.func9, Try.ntmps9
  go_wp2_with fail
  all_goals go_ret
  · have hb := Hb.out
    rw [Hm.out, if_pos ‹_›]
    have e : wrap64 (n.tmod k + k) = n.tmod k + k := by unfold wrap64; omega
    exact ⟨by show Ending.returned (Value.int .i64 (wrap64 (n.tmod k + k))) = _; rw [e], rfl⟩
  · rw [Hm.out, if_neg (by omega)]
    exact ⟨rfl, rfl⟩
theorem setRow_setF {w : World} {g : Nat} {C : Array Value} {e : TypeId} {fr : Nat × Nat} (hg : w.heap[g]? = some (.cells C e fr)) (L : List UInt8) (k : Nat) (b : UInt8) :
    (w.setRow g (bArr L)).setCell ⟨g, k, none⟩ (Value.int .u8 (b.toNat : Int)) = w.setRow g (bArr (L.set k b)) := by
  rw [setCell_eq_setRow _ g k (bArr L) e fr _ (setRow_heap w g C _ e _ hg), setRow_setRow, bArr_set]
theorem fl_set (bs Z : List UInt8) (s : Nat) (t : BitVec 32) (k : Nat) (h : s + k < 8 * bs.length) :
    (fl bs s t k ++ Z).set ((s + k) / 8) ((fl bs s t k ++ Z).getD ((s + k) / 8) 0 ^^^ 1 <<< UInt8.ofNat ((s + k) % 8)) = flip (fl bs s t k) (s + k) ++ Z := by
  have hl := fl_len bs s t k
  unfold flip
  rw [List.set_append_left _ _ (by omega), List.getD, List.getElem?_append_left (by omega)]
  rfl
theorem one_shl8 (j : Nat) (hj : j < 8) : (2 : Int) ^ j % 256 = (((1 : UInt8) <<< UInt8.ofNat j).toNat : Int) := by
  have : ∀ j : Fin 8, (2 : Int) ^ j.val % 256 = (((1 : UInt8) <<< UInt8.ofNat j.val).toNat : Int) := by decide
  exact this ⟨j, hj⟩
theorem bx8 (x y : UInt8) : bits .xor .u8 (x.toNat : Int) (y.toNat : Int) = ((x ^^^ y).toNat : Int) := by
  rw [u8_xor_nat _ _ x.toNat_lt y.toNat_lt, UInt8.toNat_xor]
set_option maxHeartbeats 1000000 in
theorem sumBursts_some (bs : List UInt8) (at_ : Int) (turn : BitVec 32) (w : World) (hn : bs.length ≤ 140737488351232) (h0 : 0 < bs.length) (h1 : -9223372036854775808 ≤ at_) (h2 : at_ ≤ 9223372036854775807) :
    Calls Try.prog 4 #[.string ⟨bs.toArray⟩, .int .i64 at_, .int .u32 (turn.toNat : Int)] w fun e w' => e = .returned (.bool true) ∧ Below w.heap.size w w' := by
  have hconv := fun W => run_bytes_of (P := Try.prog) W 9 22 5 bs Try.underlying9 Try.underlying22 Try.underlying5
  have hsz := fun W => convW_size W bs 5
  have hne : ((bs.length : Int) == 0) = false := by rw [beq_eq_false_iff_ne]; omega
  go_enter Try.func4, Try.ntmps4
  go_wp2_with fail
  refine (pick_calls at_ (8 * (bs.length : Int)) _ h1 h2 (by omega) (by omega)).mono ?_
  rintro e w' ⟨rfl, rfl⟩
  obtain ⟨s, hs, hs8⟩ : ∃ s : Nat, at_ % (8 * (bs.length : Int)) = s ∧ s < 8 * bs.length := by
    have := Int.emod_nonneg at_ (b := 8 * (bs.length : Int)) (by omega)
    have := Int.emod_lt_of_pos at_ (b := 8 * (bs.length : Int)) (by omega)
    exact ⟨(at_ % (8 * (bs.length : Int))).toNat, by omega, by omega⟩
  rw [hs]
  clear hs
  go_wp2_with fail
  have hg := convW_block w bs 5
  have hb1 : Below w.heap.size w (convW w bs 5) := convW_below w (Below.refl _ _) (Nat.le_refl _) bs 5
  have hz1 := hsz w
  have Hsz := Lib.hid hsz
  clear hsz
  generalize hZ : List.replicate (spare w bs 5) (0 : UInt8) = Z at *
  have hlZ : Z.length = spare w bs 5 := by rw [← hZ]; simp
  clear hZ
  generalize spare w bs 5 = m at *
  generalize convW w bs 5 = W1 at *
  have Hg := Lib.hid hg
  have Hb1 := Lib.hid hb1
  have Hz1 := Lib.hid hz1
  have HlZ := Lib.hid hlZ
  clear hg hb1 hz1 hlZ
  have hw0 : W1.heap = W1.heap ∧ W1 = W1.setRow w.heap.size (bArr (bs ++ Z)) := ⟨rfl, by rw [setRow_self W1 _ _ 5 _ Hg.out]⟩
  go_loopw [8, 9] (fun v i wr => ∃ k : Nat, k ≤ 32 ∧ s + k ≤ 8 * bs.length ∧ v = .bool (oth turn k) ∧ i = .int .i64 k ∧ ∃ W2 : World, W2.heap = W1.heap ∧ Below w.heap.size w W2 ∧ wr = W2.setRow w.heap.size (bArr (fl bs s turn k ++ Z))) (fun _ i _ => 32 - (intOf i).toNat)
  case atStart => exact ⟨0, by omega, by omega, rfl, rfl, W1, rfl, Hb1.out, hw0.2⟩
  case round =>
    clear hw0
    obtain ⟨k, hk, hk8, rfl, rfl, W2, hW2, hB2, rfl⟩ := hrel
    have Hg2 := Lib.hid (show W2.heap[w.heap.size]? = _ from hW2 ▸ Hg.out)
    have HW2 := Lib.hid hW2
    have HB2 := Lib.hid hB2
    clear hW2 hB2
    by_cases hlt : k < 32 ∧ s + k < 8 * bs.length
    · obtain ⟨hl1, hl2⟩ := hlt
      have hbit := low_bit (turn >>> k)
      rw [← sr32, BitVec.getLsbD_ushiftRight, Nat.add_zero] at hbit
      have hos : oth turn (k + 1) = (turn.getLsbD k || oth turn k) := rfl
      have hfs := fl_succ bs s turn k
      have Hos := Lib.hid hos
      have Hfs := Lib.hid hfs
      clear hos hfs
      generalize hot : oth turn k = q at *
      cases ht : turn.getLsbD k
      · rw [ht] at hbit
        go_wp2_with fail
        exact ⟨⟨k + 1, by omega, by omega, by rw [Hos.out, ht]; rfl, by go_num, W2, HW2.out, HB2.out, by rw [Hfs.out, if_neg (by rw [ht]; exact Bool.false_ne_true)]⟩, by simp [intOf]; omega⟩
      · rw [ht] at hbit
        go_wp2_with fail
        have hfl := fl_len bs s turn k
        have hv := bArr_getD (fl bs s turn k ++ Z) ((s + k) / 8) (by rw [List.length_append, hfl]; omega)
        have hc1 : (W2.setRow w.heap.size (bArr (fl bs s turn k ++ Z))).cell? ⟨w.heap.size, (s + k) / 8, none⟩ = some (Value.int .u8 (((fl bs s turn k ++ Z).getD ((s + k) / 8) 0).toNat : Int)) := by
          rw [cell_setRow_same _ _ _ _ _ 5 _ Hg2.out]; exact hv
        have hc2 : (W2.setRow w.heap.size (bArr (fl bs s turn k ++ Z))).frozen? ⟨w.heap.size, (s + k) / 8, none⟩ = false := by
          have hh := setRow_heap W2 w.heap.size _ (bArr (fl bs s turn k ++ Z)) 5 _ Hg2.out
          have : ¬ (bs.length + m ≤ (s + k) / 8) := by omega
          simp [World.frozen?, hh, this]
        have hsh := one_shl8 ((s + k) % 8) (by omega)
        have hx8 := bx8 ((fl bs s turn k ++ Z).getD ((s + k) / 8) 0) ((1 : UInt8) <<< UInt8.ofNat ((s + k) % 8))
        rw [← hsh] at hx8
        have hst := setRow_setF Hg2.out (fl bs s turn k ++ Z) ((s + k) / 8) ((fl bs s turn k ++ Z).getD ((s + k) / 8) 0 ^^^ 1 <<< UInt8.ofNat ((s + k) % 8))
        rw [fl_set bs Z s turn k hl2] at hst
        have e1 : (fl bs s turn k ++ Z).getD ((s + k) / 8) 0 = (fl bs s turn k ++ Z)[(s + k) / 8]?.getD 0 := rfl
        rw [e1] at hx8 hst hc1
        generalize ((fl bs s turn k ++ Z)[(s + k) / 8]?.getD 0 ^^^ 1 <<< UInt8.ofNat ((s + k) % 8)) = bv at *
        have Hst := Lib.hid hst
        clear hv hfl hsh hst e1
        go_region
        go_wp2_with fail
        refine ⟨⟨k + 1, by omega, by omega, ?_, by go_num, W2.drew, HW2.out, HB2.out.drew, ?_⟩, by simp [intOf]; omega⟩
        · rw [Hos.out, ht]; rfl
        · rw [Hfs.out, if_pos ht]
          rw [Hst.out]
          rfl
    · have hbu := bursts bs s turn k hk hk8
      have hb2 : (((crc (fl bs s turn k)).toNat : Int) != ((crc bs).toNat : Int)) = oth turn k := by
        rw [Bool.eq_iff_iff, ← hbu, bne_iff_ne]
        exact not_congr ⟨fun h => BitVec.eq_of_toNat_eq (by omega), fun h => by rw [h]⟩
      have hrd : Rd (W2.setRow w.heap.size (bArr (fl bs s turn k ++ Z))) (some ⟨w.heap.size, 0, none⟩) (fl bs s turn k) :=
        Rd.block (setRow_heap W2 _ _ _ 5 _ Hg2.out) ⟨Z, rfl⟩
      have hfl := fl_len bs s turn k
      have hs1 := fun c => sum_calls (some ⟨w.heap.size, 0, none⟩) c (fl bs s turn k) _ (by omega) hrd
      rw [hfl] at hs1
      have hB3 : Below w.heap.size w (W2.setRow w.heap.size (bArr (fl bs s turn k ++ Z))) := below_setRow HB2.out (Nat.le_refl _) _
      have hz3 : w.heap.size ≤ (W2.setRow w.heap.size (bArr (fl bs s turn k ++ Z))).heap.size := hB3.size
      generalize W2.setRow w.heap.size (bArr (fl bs s turn k ++ Z)) = W3 at *
      generalize crc (fl bs s turn k) = X at *
      have hs2 := fun A c W h => sum_calls A c bs W (by omega) h
      generalize crc bs = Y at *
      generalize oth turn k = q at *
      have Hs1 := Lib.hid hs1
      have Hs2 := Lib.hid hs2
      have HB3 := Lib.hid hB3
      have Hhb2 := Lib.hid hb2
      clear hs1 hs2 hbu hfl hrd hB3 hb2
      go_wp2_with fail
      all_goals
        refine (Hs1.out _).mono ?_
        rintro e w' ⟨rfl, rfl⟩
        go_wp2_with fail
        refine (Hs2.out _ _ _ (convW_rd W3 bs 5)).mono ?_
        rintro e w' ⟨rfl, rfl⟩
        go_wp2_with fail
        go_ret
        exact ⟨by show Ending.returned (Value.bool (((X.toNat : Int) != (Y.toNat : Int)) == q)) = _; rw [Hhb2.out]; simp, convW_below W3 HB3.out hz3 bs 5⟩
set_option maxHeartbeats 400000 in
theorem sumBursts_none (at_ : Int) (turn : BitVec 32) (w : World) :
    Calls Try.prog 4 #[.string ⟨#[]⟩, .int .i64 at_, .int .u32 (turn.toNat : Int)] w fun e w' => e = .returned (.bool true) ∧ Below w.heap.size w w' := by
  have hconv := run_bytes_of (P := Try.prog) w 9 22 5 [] Try.underlying9 Try.underlying22 Try.underlying5
  have hconv' : (convert 9 22 (.string ⟨#[]⟩)).run Try.prog w = .ok (.slice (some ⟨w.heap.size, 0, none⟩) 0 (0 + spare w [] 5)) (convW w [] 5) := hconv
  clear hconv
  go_enter Try.func4, Try.ntmps4
  go_wp2_with fail
  go_ret
  exact ⟨rfl, convW_below w (Below.refl _ _) (Nat.le_refl _) [] 5⟩
theorem sumBursts_walk (a0 : ByteArray) (a1 a2 : Int) (w : World) (w0 : a0.size ≤ 140737488351232) (w1 : (Lit.int .i64 a1).wf = true) (w2 : (Lit.int .u32 a2).wf = true) :
    Calls Try.prog 4 #[.string a0, .int .i64 a1, .int .u32 a2] w fun e w' => e = .returned (.bool true) ∧ Below w.heap.size w w' := by
  obtain ⟨⟨bs⟩⟩ := a0
  have h1 := bounds_i64 w1
  have h2 := bounds_u32 w2
  obtain ⟨t, rfl⟩ : ∃ t : BitVec 32, a2 = (t.toNat : Int) := ⟨BitVec.ofNat 32 a2.toNat, by rw [BitVec.toNat_ofNat]; omega⟩
  cases bs with
  | nil => exact sumBursts_none a1 t w
  | cons b r => exact sumBursts_some (b :: r) a1 t w w0 (by simp) (by omega) (by omega)
end Go.Proofs.Ytnjgmbjeclmcnaa
