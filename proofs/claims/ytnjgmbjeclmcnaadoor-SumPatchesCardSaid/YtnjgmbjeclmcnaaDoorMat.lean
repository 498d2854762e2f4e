/- Walks of TrailingZeros32 and of the matrix: of and twice. Conditions: the library's table lies in its variable; the matrix' cells are a linear map's. -/
import Derived.Test.YtnjgmbjeclmcnaaDoorProg
import Derived.Test.YtnjgmbjeclmcnaaDoorBytes
import Derived.Test.YtnjgmbjeclmcnaaDoorCrc
import Derived.Test.YtnjgmbjeclmcnaaDoorSumw
import Derived.Lib.TrailingZeros
import Derived.Deep.QuietTactic
import Derived.BigQuiet
import Derived.Laws.CopyOwn
namespace Go.Proofs.YtnjgmbjeclmcnaaDoor
open Go.RowKit
set_option linter.unusedSimpArgs false
set_option linter.unusedVariables false
/-- the library's table in its variable -/
def Tab32 (w : World) : Prop := ∀ j, j < 32 → w.cell? ⟨0, j, none⟩ = some (Value.int .u8 (Lib.deBruijn32tab.getD j 0))
theorem Tab32.below {B : Nat} {w w' : World} (h : Tab32 w) (hB : 0 < B) (hb : Below B w w') : Tab32 w' := fun j hj => (hb.cell (p := ⟨_, j, none⟩) hB).trans (h j hj)
theorem tz_key (x a : Nat) (hx : x < 4294967296) (hx0 : x ≠ 0) (hlow : x &&& (4294967296 - x) = a) :
    bits BinOp.and IntKind.u32 (x : Int) (-(x : Int) % 4294967296) * 125613361 % 4294967296 / 134217728 = ((a * 125613361 % 4294967296 / 134217728 : Nat) : Int) := by
  have e1 : (-(x : Int) % 4294967296) = ((4294967296 - x : Nat) : Int) := by omega
  rw [e1, u32_and_nat x _ hx (by omega), hlow]
  omega
set_option maxHeartbeats 400000 in
theorem tz_core (x k idx : Nat) (w : World) (hx0 : ((x : Int) == 0) = false)
    (key : bits BinOp.and IntKind.u32 (x : Int) (-(x : Int) % 4294967296) * 125613361 % 4294967296 / 134217728 = (idx : Int))
    (hi : idx < 32) (hk : k < 32) (hcell : w.cell? ⟨0, idx, none⟩ = some (Value.int .u8 k)) :
    Calls Tryd.prog 17 #[.int .u32 (x : Int)] w fun e w' => e = .returned (.int .i64 k) ∧ w' = w := by
  go_enter Tryd.func17, Tryd.ntmps17
  go_wp2_with (simp only [key])
  go_ret
  exact ⟨rfl, rfl⟩
theorem tz_calls (x : BitVec 32) (w : World) (hx0 : x ≠ 0#32) (hT : Tab32 w) :
    Calls Tryd.prog 17 #[.int .u32 (x.toNat : Int)] w fun e w' => e = .returned (.int .i64 (Lib.ctz 32 x.toNat : Int)) ∧ w' = w := by
  have hn : x.toNat ≠ 0 := fun h => hx0 (BitVec.eq_of_toNat_eq (by simpa using h))
  obtain ⟨hlow, hk⟩ := Lib.lowest_bit 32 x.toNat hn x.isLt
  obtain ⟨hi, htab⟩ := Lib.deBruijn32_at _ hk
  have hcell := hT _ hi
  rw [htab] at hcell
  exact tz_core x.toNat _ _ w (by rw [beq_eq_false_iff_ne]; omega) (tz_key x.toNat _ x.isLt hn hlow) hi hk hcell
theorem nat_low (k m : Nat) : (2 ^ k * (2 * m + 1)) &&& (2 ^ k * (2 * m + 1) - 1) = 2 ^ k * (2 * m) := by
  have hp : 0 < 2 ^ k := Nat.two_pow_pos k
  have e : 2 ^ k * (2 * m + 1) - 1 = 2 ^ k * (2 * m) + (2 ^ k - 1) := by rw [Nat.mul_add]; omega
  apply Nat.eq_of_testBit_eq
  intro i
  rw [Nat.testBit_and, e, Nat.testBit_two_pow_mul, Nat.testBit_two_pow_mul, Nat.testBit_two_pow_mul_add _ (by omega)]
  by_cases h : i < k
  · have h1 : ¬ k ≤ i := by omega
    simp [h, h1]
  · have h1 : k ≤ i := by omega
    simp only [h, h1, if_false, decide_true, Bool.true_and]
    obtain ⟨j, hj⟩ : ∃ j, i - k = j := ⟨_, rfl⟩
    rw [hj]
    cases j with
    | zero => simp
    | succ j =>
      rw [Nat.testBit_succ, Nat.testBit_succ, show (2 * m + 1) / 2 = m by omega, show 2 * m / 2 = m by omega, Bool.and_self]
theorem nat_low_xor (k m : Nat) : (2 ^ k * (2 * m)) ^^^ 2 ^ k = 2 ^ k * (2 * m + 1) := by
  apply Nat.eq_of_testBit_eq
  intro i
  rw [Nat.testBit_xor, Nat.testBit_two_pow_mul, Nat.testBit_two_pow_mul, Nat.testBit_two_pow]
  by_cases h : k ≤ i
  · obtain ⟨j, rfl⟩ : ∃ j, i = k + j := ⟨i - k, by omega⟩
    rw [Nat.add_sub_cancel_left]
    cases j with
    | zero => simp
    | succ j =>
      have h2 : ¬ k = k + (j + 1) := by omega
      simp only [h, h2, decide_true, decide_false, Bool.true_and, Bool.xor_false]
      rw [Nat.testBit_succ, Nat.testBit_succ, show (2 * m + 1) / 2 = m by omega, show 2 * m / 2 = m by omega]
  · have h2 : ¬ k = i := by omega
    simp [h, h2]
/-- x without its lowest bit -/
theorem drop_low (x : BitVec 32) (hx0 : x ≠ 0#32) : x = (x &&& (x - 1#32)) ^^^ (1#32 <<< Lib.ctz 32 x.toNat) ∧ (x &&& (x - 1#32)).toNat < x.toNat := by
  have hn : x.toNat ≠ 0 := fun h => hx0 (BitVec.eq_of_toNat_eq (by simpa using h))
  obtain ⟨m, hm, hk⟩ := Lib.ctzFrom_spec 32 x.toNat (by omega) x.isLt
  have ec : Lib.ctz 32 x.toNat = Lib.ctzFrom 32 x.toNat := by simp [Lib.ctz, hn]
  rw [ec]
  generalize Lib.ctzFrom 32 x.toNat = k at *
  have hp : 0 < 2 ^ k := Nat.two_pow_pos k
  have hs : (x - 1#32).toNat = x.toNat - 1 := by
    rw [BitVec.toNat_sub]
    have := x.isLt
    have e1 : (1#32).toNat = 1 := rfl
    rw [e1]
    omega
  have ha : (x &&& (x - 1#32)).toNat = 2 ^ k * (2 * m) := by
    rw [BitVec.toNat_and, hs, hm, nat_low]
  have hsh : (1#32 <<< k).toNat = 2 ^ k := by
    rw [BitVec.toNat_shiftLeft, Nat.shiftLeft_eq]
    have h2 : 2 ^ k < 2 ^ 32 := Nat.pow_lt_pow_right (by omega) hk
    have e1 : (1#32).toNat = 1 := rfl
    rw [e1, Nat.one_mul, Nat.mod_eq_of_lt h2]
  constructor
  · apply BitVec.eq_of_toNat_eq
    rw [BitVec.toNat_xor, ha, hsh, nat_low_xor, ← hm]
  · rw [ha, hm, Nat.mul_add]
    omega
theorem pw_drewN {B : Nat} {w W : World} (h : Below B w W) (n : Nat) : Below B w (W.drewN n) := ⟨h.os, h.tape, h.output, h.size, h.block⟩
/-- a map of 32 bits that is linear -/
structure Lin (f : BitVec 32 → BitVec 32) : Prop where
  zero : f 0#32 = 0#32
  xor : ∀ a b, f (a ^^^ b) = f a ^^^ f b
/-- the cells of f's matrix, as far as k; 0 behind -/
def mCell (f : BitVec 32 → BitVec 32) (k i : Nat) : BitVec 32 := if i < k then f (1#32 <<< i) else 0#32
def mRow (f : BitVec 32 → BitVec 32) (k : Nat) : Array Value := ((List.range 32).map fun i => Value.int .u32 ((mCell f k i).toNat : Int)).toArray
theorem mRow_size (f : BitVec 32 → BitVec 32) (k : Nat) : (mRow f k).size = 32 := by simp [mRow]
theorem mRow_at (f : BitVec 32 → BitVec 32) (k i : Nat) (hi : i < 32) : (mRow f k)[i]? = some (Value.int .u32 ((mCell f k i).toNat : Int)) := by
  simp [mRow, hi]
theorem mRow_full (f : BitVec 32 → BitVec 32) (i : Nat) (hi : i < 32) : (mRow f 32)[i]? = some (Value.int .u32 ((f (1#32 <<< i)).toNat : Int)) := by
  rw [mRow_at f 32 i hi, mCell, if_pos hi]
theorem mRow_set (f : BitVec 32 → BitVec 32) (k : Nat) (hk : k < 32) : (mRow f k).setIfInBounds k (Value.int .u32 ((f (1#32 <<< k)).toNat : Int)) = mRow f (k + 1) := by
  apply Array.ext
  · simp [mRow]
  · intro i h1 h2
    have hi : i < 32 := by simpa [mRow] using h2
    rw [Array.getElem_setIfInBounds (by rw [mRow_size]; exact hi)]
    by_cases e : k = i
    · subst e
      simp [mRow, mCell]
    · have e2 : (i < k + 1) ↔ i < k := by omega
      simp [mRow, mCell, e, e2]
set_option maxHeartbeats 1000000 in
theorem of_calls (f : BitVec 32 → BitVec 32) (hf : Lin f) (b : Nat) (v : BitVec 32) (w : World) (hT : Tab32 w)
    (hM : ∀ i, i < 32 → w.cell? ⟨b, i, none⟩ = some (Value.int .u32 ((f (1#32 <<< i)).toNat : Int))) :
    Calls Tryd.prog 16 #[.pointer (some ⟨b, 0, none⟩), .int .u32 (v.toNat : Int)] w fun e w' => e = .returned (.int .u32 ((f v).toNat : Int)) ∧ ∃ n, w' = w.drewN n := by
  have HT := Lib.hid hT
  have HM := Lib.hid hM
  have Hf := Lib.hid hf
  clear hT hM hf
  go_enter Tryd.func16, Tryd.ntmps16
  go_wp2_with fail
  go_loopw [1, 5] (fun y r wr => ∃ (x z : BitVec 32) (n : Nat), y = .int .u32 (x.toNat : Int) ∧ r = .int .u32 (z.toNat : Int) ∧ wr = w.drewN n ∧ Hid (z ^^^ f x = f v)) (fun y _ _ => (intOf y).toNat)
  case atStart => exact ⟨v, 0#32, 0, rfl, rfl, rfl, BitVec.zero_xor⟩
  case round =>
    obtain ⟨x, z, n, rfl, rfl, rfl, Hi⟩ := hrel
    by_cases hx0 : x = 0#32
    · subst hx0
      have hz : z = f v := by have := Hi.out; rw [Hf.out.zero, BitVec.xor_zero] at this; exact this
      have Hz := Lib.hid hz
      clear hz
      have e0 : (((0#32).toNat : Int) != 0) = false := rfl
      go_wp2_with fail
      go_ret
      exact ⟨by show Ending.returned (Value.int .u32 (z.toNat : Int)) = _; rw [Hz.out], n, rfl⟩
    · have hd := drop_low x hx0
      have hk : Lib.ctz 32 x.toNat < 32 := (Lib.lowest_bit 32 x.toNat (fun h => hx0 (BitVec.eq_of_toNat_eq (by simpa using h))) x.isLt).2
      have hne : ((x.toNat : Int) != 0) = true := by
        rw [bne_iff_ne]
        intro h
        exact hx0 (BitVec.eq_of_toNat_eq (by simpa using h))
      have hc := HM.out _ hk
      have ht : ∀ W : World, W.heap = w.heap → Calls Tryd.prog 17 #[.int .u32 (x.toNat : Int)] W fun e w' => e = .returned (.int .i64 (Lib.ctz 32 x.toNat : Int)) ∧ w' = W := fun W hW =>
        tz_calls x W hx0 fun j hj => (World.cell?_of_block (by rw [hW])).trans (HT.out j hj)
      have Ht := Lib.hid ht
      have Hd := Lib.hid hd
      clear ht hd
      generalize Lib.ctz 32 x.toNat = k at *
      have hxr := bx32 z (f (1#32 <<< k))
      have hxn : x.toNat ≠ 0 := fun h => hx0 (BitVec.eq_of_toNat_eq (by simpa using h))
      have h1 : 1 ≤ x.toNat := by omega
      have ha : bits BinOp.and IntKind.u32 (x.toNat : Int) ((x.toNat : Int) - 1) = ((x &&& (x - 1#32)).toNat : Int) := by
        have hs : (((x - 1#32).toNat : Nat) : Int) = (x.toNat : Int) - 1 := by
          have e1 : (1#32).toNat = 1 := rfl
          have := x.isLt
          rw [BitVec.toNat_sub, e1]
          omega
        rw [← hs, ba32]
      have hfx : f (x &&& (x - 1#32)) ^^^ f (1#32 <<< k) = f x := by
        rw [← Hf.out.xor, ← Hd.out.1]
      have hlt := Hd.out.2
      have Hfx := Lib.hid hfx
      clear hx0 hxn hfx
      generalize hu : f (1#32 <<< k) = u at *
      have Hu := Lib.hid hu
      clear hu
      generalize hzu : z ^^^ u = zu at *
      have Hzu := Lib.hid hzu
      clear hzu
      have hbound := x.isLt
      generalize x &&& (x - 1#32) = y at *
      have hW2 : ∃ W2, w.drewN n = W2 ∧ W2.heap = w.heap := ⟨_, rfl, rfl⟩
      obtain ⟨W2, hW2, hh2⟩ := hW2
      rw [hW2]
      have HW2 := Lib.hid hW2
      have Hh2 := Lib.hid hh2
      have hc2 : W2.cell? ⟨b, k, none⟩ = some (Value.int .u32 (u.toNat : Int)) := (World.cell?_of_block (by rw [hh2])).trans hc
      clear hW2 hh2
      go_wp2_with fail
      go_quiet ((go_at_call 17; exact Calls.quiet_of_same (Ht.out _ Hh2.out)))
      clear hxr
      go_wp2_with fail
      refine ⟨⟨y, zu, n + nq, rfl, rfl, by rw [← HW2.out, World.drewN_drewN], ?_⟩, by simp [intOf]; omega⟩
      show zu ^^^ f y = f v
      rw [← Hi.out, ← Hfx.out, ← Hzu.out, BitVec.xor_assoc, BitVec.xor_comm u]
theorem mRow_0 (f : BitVec 32 → BitVec 32) : mRow f 0 = #[Value.int .u32 0, Value.int .u32 0, Value.int .u32 0, Value.int .u32 0, Value.int .u32 0, Value.int .u32 0, Value.int .u32 0, Value.int .u32 0, Value.int .u32 0, Value.int .u32 0, Value.int .u32 0, Value.int .u32 0, Value.int .u32 0, Value.int .u32 0, Value.int .u32 0, Value.int .u32 0, Value.int .u32 0, Value.int .u32 0, Value.int .u32 0, Value.int .u32 0, Value.int .u32 0, Value.int .u32 0, Value.int .u32 0, Value.int .u32 0, Value.int .u32 0, Value.int .u32 0, Value.int .u32 0, Value.int .u32 0, Value.int .u32 0, Value.int .u32 0, Value.int .u32 0, Value.int .u32 0] := by rfl
theorem mRow_one (f : BitVec 32 → BitVec 32) (k : Nat) : (mRow f k).all (·.oneCell') = true := by
  simp only [mRow, List.all_toArray, List.all_map, List.all_eq_true]
  intro i _
  rfl
theorem infoM : (Tryd.prog.info? 36).map (·.size) = some 32 := by kernel_rfl
set_option maxHeartbeats 2000000 in
theorem twice_calls (f : BitVec 32 → BitVec 32) (hf : Lin f) (b : Nat) (w : World) (hT : Tab32 w) (hb : b < w.heap.size) (hg0 : 0 < w.heap.size)
    (hM : ∀ i, i < 32 → w.cell? ⟨b, i, none⟩ = some (Value.int .u32 ((f (1#32 <<< i)).toNat : Int))) :
    Calls Tryd.prog 15 #[.pointer (some ⟨b, 0, none⟩)] w fun e w' => e = .returned (.agg (mRow (fun x => f (f x)) 32)) ∧ Below w.heap.size w w' := by
  go_enter Tryd.func15, Tryd.ntmps15
  go_wp2_with fail
  rw [← mRow_0 (fun x => f (f x))]
  have hB0 : Below w.heap.size w ((w.alloc (.cells (mRow (fun x => f (f x)) 0) 36)).alloc (.cells (mRow (fun x => f (f x)) 0) 36)) :=
    ((Below.refl _ _).alloc (Nat.le_refl _) _).alloc (by simp) _
  have hA0 := heap_alloc2_old w (.cells (mRow (fun x => f (f x)) 0) 36) (.cells (mRow (fun x => f (f x)) 0) 36)
  have hA1 := heap_alloc2_new w (.cells (mRow (fun x => f (f x)) 0) 36) (.cells (mRow (fun x => f (f x)) 0) 36)
  generalize (w.alloc (.cells (mRow (fun x => f (f x)) 0) 36)).alloc (.cells (mRow (fun x => f (f x)) 0) 36) = W1 at *
  have HT := Lib.hid hT
  have HM := Lib.hid hM
  clear hT hM
  go_loopw [5] (fun i wr => ∃ k : Nat, k ≤ 32 ∧ i = .int .i64 k ∧ Hid (Below w.heap.size w wr ∧ wr.heap[w.heap.size]? = some (.cells (mRow (fun x => f (f x)) 0) 36 (0, 0)) ∧ wr.heap[w.heap.size + 1]? = some (.cells (mRow (fun x => f (f x)) k) 36 (0, 0)))) (fun i _ => 32 - (intOf i).toNat)
  case atStart => exact ⟨0, by omega, rfl, hB0, hA0, hA1⟩
  case round =>
    clear hB0 hA0 hA1 W1
    obtain ⟨k, hk, rfl, H⟩ := hrel
    by_cases hlt : k < 32
    · have hc : wr.cell? ⟨b, k, none⟩ = some (Value.int .u32 ((f (1#32 <<< k)).toNat : Int)) := (H.out.1.cell (p := ⟨b, k, none⟩) hb).trans (HM.out k hlt)
      have hof := of_calls f hf b (f (1#32 <<< k)) wr (HT.out.below hg0 H.out.1) (fun i hi => (H.out.1.cell (p := ⟨b, i, none⟩) hb).trans (HM.out i hi))
      have Hof := Lib.hid hof
      clear hof
      generalize hu : f (1#32 <<< k) = u at *
      have Hu := Lib.hid hu
      clear hu
      go_wp2_with fail
      refine (Hof.out).mono ?_
      rintro e w3 ⟨rfl, n, hw3⟩
      have hh3 : w3.heap = wr.heap := by rw [hw3]; rfl
      have hB3 : Below w.heap.size w w3 := by rw [hw3]; exact pw_drewN H.out.1 n
      have H0 := Lib.hid (show w3.heap[w.heap.size]? = _ from hh3 ▸ H.out.2.1)
      have H1 := Lib.hid (show w3.heap[w.heap.size + 1]? = _ from hh3 ▸ H.out.2.2)
      have HB3 := Lib.hid hB3
      clear hw3 hh3 hB3
      have hc1 : w3.cell? ⟨w.heap.size + 1, k, none⟩ = some (Value.int .u32 ((mCell (fun x => f (f x)) k k).toNat : Int)) := by
        rw [cell_of_row _ _ _ _ _ _ H1.out]; exact mRow_at _ _ _ hlt
      have hc2 : w3.frozen? ⟨w.heap.size + 1, k, none⟩ = false := frozen_of_row _ _ _ _ _ H1.out
      go_wp2_with fail
      refine ⟨⟨k + 1, by omega, by go_num, HB3.out.setCell (by simp) _, (heap_setCell_other _ _ _ _ (by simp)).trans H0.out, ?_⟩, by simp [intOf]; omega⟩
      rw [heap_setCell_same _ _ _ _ _ _ H1.out, ← Hu.out]
      exact congrArg (fun c => some (Obj.cells c 36)) (mRow_set (fun x => f (f x)) k hlt)
    · obtain rfl : k = 32 := by omega
      have hsz := (H.out.1).size
      have Hi := Lib.hid (show (Tryd.prog.info? 36).map (·.size) = some (mRow (fun x => f (f x)) 32).size from by rw [infoM, mRow_size])
      have Ho := Lib.hid (show (mRow (fun x => f (f x)) 0).size = (mRow (fun x => f (f x)) 32).size from by rw [mRow_size, mRow_size])
      go_wp2_with (first | (refine wpList_load_row rfl 36 (.tmp 3) rfl (w.heap.size + 1) rfl _ _ _ _ H.out.2.2 Tryd.underlying36 rfl Hi.out ?_) | (refine wpList_store_row rfl 36 (.tmp 2) (.tmp 18) rfl w.heap.size (mRow (fun x => f (f x)) 32) rfl rfl _ _ H.out.2.1 Hi.out Ho.out (mRow_one _ _) ?_))
      refine bodyPost_ret (results_cell_row rfl _ _ w.heap.size _ _ _ _ rfl (setRow_heap wr _ _ _ _ _ H.out.2.1) Tryd.underlying36 rfl Hi.out) rfl ⟨rfl, ?_⟩
      exact below_setRow H.out.1 (Nat.le_refl _) _
theorem lin_twice {f : BitVec 32 → BitVec 32} (hf : Lin f) : Lin (fun x => f (f x)) := ⟨by show f (f 0#32) = _; rw [hf.zero, hf.zero], fun a b => by show f (f (a ^^^ b)) = _; rw [hf.xor, hf.xor]⟩
theorem lin_stpN (n : Nat) : Lin (stpN n) := ⟨stpN_zero n, stpN_xor n⟩
end Go.Proofs.YtnjgmbjeclmcnaaDoor
