/- The walk of sum.Patch, and its plain law. Conditions: the slices that come in read as bytes; the library's table lies in its variable. -/
import Derived.Test.YtnjgmbjeclmcnaaDoorJoins
import Derived.Test.YtnjgmbjeclmcnaaDoorMem
import Derived.Test.YtnjgmbjeclmcnaaDoorLent
import Derived.RegionTactic
import Derived.BigRegion
namespace Go.Proofs.YtnjgmbjeclmcnaaDoor
open Go.RowKit
set_option linter.unusedSimpArgs false
set_option linter.unusedVariables false
def xorL (a b : List UInt8) : List UInt8 := List.zipWith (· ^^^ ·) a b
theorem xorL_len (a b : List UInt8) (h : b.length = a.length) : (xorL a b).length = a.length := by simp [xorL, h]
/-- Patch at arguments that are not as they may be -/
def badPatch (size at_ : Int) (n m : Nat) : Prop := m ≠ n ∨ at_ < 0 ∨ (n : Int) > size ∨ at_ > size - n
set_option maxHeartbeats 400000 in
theorem patch_bad (s : BitVec 32) (size at_ : Int) (A B : Option Addr) (c d n m : Nat) (w : World) (h : badPatch size at_ n m) (hz : 0 ≤ size) (hz2 : size ≤ 9223372036854775807) (h1 : -9223372036854775808 ≤ at_) (h2 : at_ ≤ 9223372036854775807) (hn : n ≤ 9223372036854775807) :
    Calls Tryd.prog 7 #[.int .u32 (s.toNat : Int), .int .i64 size, .int .i64 at_, .slice A n c, .slice B m d] w fun e w' => e = .returned (.int .u32 (s.toNat : Int)) ∧ w = w' := by
  unfold badPatch at h
  by_cases h3 : m = n
  · subst h3
    by_cases h4 : at_ < 0
    · go_enter Tryd.func7, Tryd.ntmps7
      go_wp2_with fail
      go_ret
      exact ⟨rfl, rfl⟩
    · by_cases h5 : (m : Int) > size
      · go_enter Tryd.func7, Tryd.ntmps7
        go_wp2_with fail
        go_ret
        exact ⟨rfl, rfl⟩
      · have h6 : at_ > size - m := by omega
        clear h
        go_enter Tryd.func7, Tryd.ntmps7
        go_wp2_with fail
        go_ret
        exact ⟨rfl, rfl⟩
  · have h3' : (((m : Nat) : Int) != ((n : Nat) : Int)) = true := by rw [bne_iff_ne]; omega
    clear h
    go_enter Tryd.func7, Tryd.ntmps7
    go_wp2_with fail
    go_ret
    exact ⟨rfl, rfl⟩
def part (L : List UInt8) (k : Nat) : List UInt8 := L.take k ++ List.replicate (L.length - k) 0
theorem part_len (L : List UInt8) (k : Nat) (hk : k ≤ L.length) : (part L k).length = L.length := by simp [part]; omega
theorem part_0 (L : List UInt8) : part L 0 = List.replicate L.length 0 := by simp [part]
theorem part_all (L : List UInt8) : part L L.length = L := by simp [part]
theorem part_step (L : List UInt8) (k : Nat) (hk : k < L.length) : (part L k).set k L[k] = part L (k + 1) := by
  unfold part
  have hl : (L.take k).length = k := by simp; omega
  obtain ⟨m, hm⟩ : ∃ m, L.length - k = m + 1 := ⟨L.length - k - 1, by omega⟩
  rw [List.set_append_right _ _ (by omega), hl, Nat.sub_self, hm, List.replicate_succ, List.set_cons_zero, List.take_succ_eq_append_getElem hk, List.append_assoc, show L.length - (k + 1) = m by omega]
  rfl
set_option maxHeartbeats 2000000 in
theorem patch_good (s : BitVec 32) (N a : Nat) (A B : Option Addr) (c d : Nat) (xs ys : List UInt8) (w : World) (hlen : ys.length = xs.length) (ha : a + xs.length ≤ N) (hN : N ≤ 281474976710656) (hn : xs.length ≤ 140737488355328)
    (hr1 : Rd w A xs) (hr2 : Rd w B ys) (hT : Tab32 w) (hg0 : 0 < w.heap.size) :
    Calls Tryd.prog 7 #[.int .u32 (s.toNat : Int), .int .i64 (N : Int), .int .i64 (a : Int), .slice A xs.length c, .slice B xs.length d] w fun e w' =>
      e = .returned (.int .u32 ((s ^^^ stpN (8 * (N - xs.length - a)) (fd 0#32 (xorL xs ys))).toNat : Int)) ∧ Below w.heap.size w w' := by
  obtain ⟨i5, hi, hz0, hz1, hz2⟩ := info_parts info5
  generalize hR : s ^^^ stpN (8 * (N - xs.length - a)) (fd 0#32 (xorL xs ys)) = R
  have HR := Lib.hid hR
  clear hR
  have hX : (xorL xs ys).length = xs.length := xorL_len xs ys hlen
  have hXk : ∀ k (h : k < xs.length), ∃ (h2 : k < ys.length) (h3 : k < (xorL xs ys).length), (xorL xs ys)[k] = xs[k] ^^^ ys[k] := fun k h => ⟨by omega, by omega, by simp [xorL]⟩
  have HX := Lib.hid hX
  have HXk := Lib.hid hXk
  have Hlen := Lib.hid hlen
  have Hr1 := Lib.hid hr1
  have Hr2 := Lib.hid hr2
  have HT := Lib.hid hT
  clear hX hXk hlen hr1 hr2 hT
  generalize hL : xorL xs ys = L at *
  have hne : (((xs.length : Nat) : Int) != ((xs.length : Nat) : Int)) = false := by simp
  have d1 : decide ((a : Int) < 0) = false := by simp
  have d2 : decide ((N : Int) - (xs.length : Int) < (a : Int)) = false := by simp; omega
  have d3 : decide (N < xs.length) = false := by simp; omega
  go_enter Tryd.func7, Tryd.ntmps7
  go_wp2_with fail
  rw [run_make w 25 5 i5 _ Tryd.underlying25 hi hz0 _ _ _ _ (by omega) (by omega) (by rw [hz2]; omega) (by omega)]
  go_wp2_with fail
  have hA0 := heap_alloc_new w (.cells (bArr (part L 0)) 5)
  have hB0 : Below w.heap.size w (w.alloc (.cells (bArr (part L 0)) 5)) := (Below.refl _ _).alloc (Nat.le_refl _) _
  have e0 : madeCells #[Value.int IntKind.u8 0] xs.length = bArr (part L 0) := by rw [made_bytes, part_0, HX.out]
  rw [e0]
  generalize w.alloc (.cells (bArr (part L 0)) 5) = W1 at *
  clear e0
  go_loopw [41] (fun i wr => ∃ k : Nat, k ≤ xs.length ∧ i = .int .i64 k ∧ Hid (Below w.heap.size w wr ∧ wr.heap[w.heap.size]? = some (.cells (bArr (part L k)) 5 (0, 0)))) (fun i _ => xs.length - (intOf i).toNat)
  case atStart => exact ⟨0, by omega, rfl, hB0, hA0⟩
  case round =>
    clear hA0 hB0 W1
    obtain ⟨k, hk, rfl, H⟩ := hrel
    by_cases hlt : k < xs.length
    · obtain ⟨ad1, e1, hc1⟩ := (Hr1.out.below (w' := wr) H.out.1) k hlt
      obtain ⟨h2, h3, hx⟩ := HXk.out k hlt
      obtain ⟨ad2, e2, hc2⟩ := (Hr2.out.below (w' := wr) H.out.1) k h2
      have hv := bArr_getD (part L k) k (by rw [part_len _ _ (by omega)]; omega)
      have hc3 : wr.cell? ⟨w.heap.size, k, none⟩ = some (Value.int .u8 (((part L k).getD k 0).toNat : Int)) := by
        rw [cell_of_row _ _ _ _ _ _ H.out.2]; exact hv
      have hc4 : wr.frozen? ⟨w.heap.size, k, none⟩ = false := frozen_of_row _ _ _ _ _ H.out.2
      have hb8 := bx8 xs[k] ys[k]
      have Hx := Lib.hid hx
      simp only [vb] at hc1 hc2
      subst e1 e2
      generalize hx1 : xs[k] = x1 at *
      generalize hx2 : ys[k] = x2 at *
      generalize hx3 : x1 ^^^ x2 = x3 at *
      clear hx hx1 hx2 hx3 hv
      go_wp2_with fail
      go_region
      go_wp2_with fail
      refine ⟨⟨k + 1, by omega, by go_num, (H.out.1.setCell (Nat.le_refl _) _).drew, ?_⟩, by simp [intOf]; omega⟩
      rw [heap_drew, heap_setCell_same _ _ _ _ _ _ H.out.2, bArr_set, ← Hx.out, part_step L k h3]
    · obtain rfl : k = xs.length := by omega
      have hrd : Rd wr (some ⟨w.heap.size, 0, none⟩) L := Rd.block H.out.2 ⟨[], by rw [List.append_nil, ← HX.out, part_all]⟩
      have hf : Calls Tryd.prog 12 #[.int .u32 0, .slice (some ⟨w.heap.size, 0, none⟩) xs.length xs.length] wr fun e w' => e = .returned (.int .u32 ((fd 0#32 L).toNat : Int)) ∧ wr = w' := by
        have h := feed_calls 0#32 (some ⟨w.heap.size, 0, none⟩) xs.length L wr (by rw [HX.out]; omega) hrd
        rw [HX.out] at h
        exact h
      have Hf := Lib.hid hf
      clear hf hrd
      generalize fd 0#32 L = u at *
      have hm := moved_calls u ((N : Int) - (xs.length : Int) - (a : Int)) wr (HT.out.below hg0 H.out.1) (Nat.lt_of_lt_of_le hg0 H.out.1.size) (by omega)
      rw [show ((N : Int) - (xs.length : Int) - (a : Int)).toNat = N - xs.length - a by omega] at hm
      have Hm := Lib.hid hm
      clear hm
      generalize stpN (8 * (N - xs.length - a)) u = v at *
      have hx := bx32 s v
      generalize s ^^^ v = z at *
      go_wp2_with fail
      refine (Hf.out).mono ?_
      rintro e w' ⟨rfl, rfl⟩
      go_wp2_with fail
      refine (Hm.out).mono ?_
      rintro e w3 ⟨rfl, hb3⟩
      have HB3 := Lib.hid (H.out.1.trans (hb3.mono H.out.1.size))
      clear hb3
      go_wp2_with fail
      go_ret
      exact ⟨by show Ending.returned (Value.int .u32 (z.toNat : Int)) = _; rw [HR.out], HB3.out⟩
/-- an exchange of bytes, told by what was exchanged -/
theorem fd_xor (xs : List UInt8) : ∀ (ys : List UInt8) (r s : BitVec 32), ys.length = xs.length → fd r xs ^^^ fd s ys = fd (r ^^^ s) (xorL xs ys) := by
  induction xs with
  | nil => intro ys r s h; obtain rfl : ys = [] := List.length_eq_zero_iff.1 h; rfl
  | cons x xs ih =>
    intro ys r s h
    cases ys with
    | nil => cases h
    | cons y ys =>
      show fd (stpN 8 (r ^^^ b32 x)) xs ^^^ fd (stpN 8 (s ^^^ b32 y)) ys = fd (stpN 8 ((r ^^^ s) ^^^ b32 (x ^^^ y))) (xorL xs ys)
      rw [ih ys _ _ (by simpa using h), ← stpN_xor]
      congr 2
      have e : b32 (x ^^^ y) = b32 x ^^^ b32 y := by
        unfold b32
        rw [UInt8.toBitVec_xor]
        apply BitVec.eq_of_getLsbD_eq
        intro i hi
        simp only [BitVec.getLsbD_xor, BitVec.getLsbD_setWidth]
        simp [hi]
      rw [e]
      apply BitVec.eq_of_getLsbD_eq
      intro i hi
      simp only [BitVec.getLsbD_xor]
      cases r.getLsbD i <;> cases s.getLsbD i <;> cases (b32 x).getLsbD i <;> cases (b32 y).getLsbD i <;> rfl
theorem fd_diff (p xs ys q : List UInt8) (r : BitVec 32) (h : ys.length = xs.length) : fd r (p ++ xs ++ q) ^^^ stpN (8 * q.length) (fd 0#32 (xorL xs ys)) = fd r (p ++ ys ++ q) := by
  rw [fd_append, fd_append, fd_append, fd_append]
  have h1 := fd_xor xs ys (fd r p) (fd r p) h
  rw [BitVec.xor_self] at h1
  rw [← h1, stpN_xor, fd_zero (fd (fd r p) xs) q, fd_zero (fd (fd r p) ys) q]
  apply BitVec.eq_of_getLsbD_eq
  intro i hi
  simp only [BitVec.getLsbD_xor]
  cases (stpN (8 * q.length) (fd (fd r p) xs)).getLsbD i <;> cases (stpN (8 * q.length) (fd (fd r p) ys)).getLsbD i <;> cases (fd 0#32 q).getLsbD i <;> rfl
theorem crc_patch (bs : List UInt8) (a : Nat) (xs ys : List UInt8) (hx : (bs.drop a).take xs.length = xs) (h : ys.length = xs.length) (ha : a + xs.length ≤ bs.length) :
    crc bs ^^^ stpN (8 * (bs.length - xs.length - a)) (fd 0#32 (xorL xs ys)) = crc (spl bs a ys) := by
  have hb : bs = bs.take a ++ xs ++ bs.drop (a + xs.length) := by
    conv => lhs; rw [← List.take_append_drop a bs, ← List.take_append_drop xs.length (bs.drop a), hx, List.drop_drop]
    rw [List.append_assoc]
  have hd := fd_diff (bs.take a) xs ys (bs.drop (a + xs.length)) (~~~ 0#32) h
  rw [← hb] at hd
  have hl : (bs.drop (a + xs.length)).length = bs.length - xs.length - a := by simp; omega
  rw [hl] at hd
  unfold crc spl
  rw [h, ← hd]
  apply BitVec.eq_of_getLsbD_eq
  intro i hi
  simp only [BitVec.getLsbD_xor, BitVec.getLsbD_not]
  cases (fd (~~~ 0#32) bs).getLsbD i <;> cases (stpN (8 * (bs.length - xs.length - a)) (fd 0#32 (xorL xs ys))).getLsbD i <;> simp [hi]
end Go.Proofs.YtnjgmbjeclmcnaaDoor
