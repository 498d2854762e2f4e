/- The walk of the law SumJoins: it returns true and leaves what was there. Condition: the library's table lies in its variable; each text has at most 2^47 bytes, as each row asks. -/
import Derived.Test.YtnjgmbjeclmcnaaDoorMoved
import Derived.Laws.Concat
import Derived.OpenShut
import Derived.Lib.LaidTab
namespace Go.Proofs.YtnjgmbjeclmcnaaDoor
open Go.RowKit
set_option linter.unusedSimpArgs false
set_option linter.unusedVariables false
theorem fd_lin (bs : List UInt8) : ∀ r s, fd (r ^^^ s) bs = stpN (8 * bs.length) r ^^^ fd s bs := by
  induction bs with
  | nil => intro r s; rfl
  | cons b bs ih =>
    intro r s
    show fd (stpN 8 ((r ^^^ s) ^^^ b32 b)) bs = _
    rw [BitVec.xor_assoc, stpN_xor, ih]
    show _ = _ ^^^ fd (stpN 8 (s ^^^ b32 b)) bs
    rw [← stpN_add, List.length_cons, Nat.mul_add]
theorem fd_zero (r : BitVec 32) (bs : List UInt8) : fd r bs = stpN (8 * bs.length) r ^^^ fd 0#32 bs := by
  have := fd_lin bs r 0#32
  rwa [BitVec.xor_zero] at this
theorem not_xor (x : BitVec 32) : ~~~ x = x ^^^ BitVec.allOnes 32 := by
  rw [BitVec.xor_comm, BitVec.allOnes_xor]
theorem crc_join (a b : List UInt8) : stpN (8 * b.length) (crc a) ^^^ crc b = crc (a ++ b) := by
  unfold crc
  rw [fd_append, not_xor, not_xor, not_xor, stpN_xor, not_xor, fd_zero (fd (0#32 ^^^ BitVec.allOnes 32) a) b, fd_zero (0#32 ^^^ BitVec.allOnes 32) b, BitVec.zero_xor]
  apply BitVec.eq_of_getLsbD_eq
  intro i hi
  simp only [BitVec.getLsbD_xor]
  cases (stpN (8 * b.length) (fd (BitVec.allOnes 32) a)).getLsbD i <;> cases (stpN (8 * b.length) (BitVec.allOnes 32)).getLsbD i <;> cases (fd 0#32 b).getLsbD i <;> cases (BitVec.allOnes 32).getLsbD i <;> rfl
theorem refSum_crc (A : Option Addr) (c : Nat) (bs : List UInt8) (w : World) (hn : bs.length ≤ 9223372036854775807) (hr : Rd w A bs) :
    Calls Tryd.prog 6 #[.slice A bs.length c] w fun e w' => e = .returned (.int .u32 ((crc bs).toNat : Int)) ∧ w = w' := by
  rw [crc_eq]
  exact refSum_calls A c bs w hn hr
theorem join_none (x y v : BitVec 32) (hv : x ^^^ y = v) (n : Int) (hn : n ≤ 0) (w : World) (hT : Tab32 w) (hg0 : 0 < w.heap.size) :
    Calls Tryd.prog 5 #[.int .u32 (x.toNat : Int), .int .u32 (y.toNat : Int), .int .i64 n] w fun e w' => e = .returned (.int .u32 (v.toNat : Int)) ∧ Below w.heap.size w w' := by
  have h := join_calls x y n w hT hg0 (by omega)
  rw [show n.toNat = 0 by omega] at h
  rw [← hv]
  exact h
set_option maxHeartbeats 400000 in
theorem sumJoins_calls (xs bs : List UInt8) (x y : BitVec 32) (n : Int) (w : World) (hT : Tab32 w) (hg0 : 0 < w.heap.size)
    (ha : xs.length ≤ 140737488351232) (hb : bs.length ≤ 140737488351232) (hn1 : -9223372036854775808 ≤ n) (hn2 : n ≤ 9223372036854775807) :
    Calls Tryd.prog 3 #[.string ⟨xs.toArray⟩, .string ⟨bs.toArray⟩, .int .u32 (x.toNat : Int), .int .u32 (y.toNat : Int), .int .i64 n] w fun e w' => e = .returned (.bool true) ∧ Below w.heap.size w w' := by
  have hc1 := fun W => run_bytes_of (P := Tryd.prog) W 9 25 5 xs Tryd.underlying9 Tryd.underlying25 Tryd.underlying5
  have hc2 := fun W => run_bytes_of (P := Tryd.prog) W 9 25 5 bs Tryd.underlying9 Tryd.underlying25 Tryd.underlying5
  have hc3 := fun W => run_bytes_of (P := Tryd.prog) W 9 25 5 (xs ++ bs) Tryd.underlying9 Tryd.underlying25 Tryd.underlying5
  have hadd : ∀ W, (Op.stringOp .add ⟨xs.toArray⟩ ⟨bs.toArray⟩).run Tryd.prog W = .ok (.string ⟨(xs ++ bs).toArray⟩) W := fun W => by
    rw [run_string_add_sum W _ _ (by show xs.length + bs.length ≤ _; omega), ByteArray.mk_append_mk]
  have hlen : (⟨bs.toArray⟩ : ByteArray).size = bs.length := rfl
  have hj := crc_join xs bs
  have hzl : (xs ++ bs).length ≤ 281474976702464 := by rw [List.length_append]; omega
  generalize xs ++ bs = zs at *
  have Hj := Lib.hid hj
  clear hj
  have Hc := Lib.hid (⟨hT, hg0⟩ : Tab32 w ∧ 0 < w.heap.size)
  clear hT hg0
  by_cases hpos : 0 < n
  all_goals
    go_enter Tryd.func3, Tryd.ntmps3
    go_wp2_with fail
    refine (refSum_crc _ _ xs _ (by omega) (convW_rd w xs 5)).mono ?_
    rintro e w' ⟨rfl, rfl⟩
    have hB1 : Below w.heap.size w (convW w xs 5) := convW_below w (Below.refl _ _) (Nat.le_refl _) xs 5
    have hs1 := convW_size w xs 5
    generalize convW w xs 5 = W1 at *
    have HB1 := Lib.hid hB1
    have Hs1 := Lib.hid hs1
    clear hB1 hs1
    generalize hca : crc xs = ca at *
    have Hca := Lib.hid hca
    clear hca
    go_wp2_with fail
    refine (refSum_crc _ _ bs _ (by omega) (convW_rd W1 bs 5)).mono ?_
    rintro e w' ⟨rfl, rfl⟩
    have hB2 : Below w.heap.size w (convW W1 bs 5) := convW_below W1 HB1.out (by have := Hs1.out; omega) bs 5
    generalize convW W1 bs 5 = W2 at *
    have HB2 := Lib.hid hB2
    clear hB2
    generalize hcb : crc bs = cb at *
    have Hcb := Lib.hid hcb
    clear hcb
    go_wp2_with fail
    refine (join_calls ca cb (bs.length : Int) W2 (Hc.out.1.below Hc.out.2 HB2.out) (Nat.lt_of_lt_of_le Hc.out.2 HB2.out.size) (by omega)).mono ?_
    rw [Int.toNat_natCast, Hj.out]
    rintro e W3 ⟨rfl, hb3⟩
    have HB3 := Lib.hid (HB2.out.trans (hb3.mono HB2.out.size))
    clear hb3
    generalize hcc : crc zs = cc at *
    have Hcc := Lib.hid hcc
    clear hcc
    go_wp2_with fail
    refine (refSum_crc _ _ zs _ (by omega) (convW_rd W3 zs 5)).mono ?_
    rintro e w' ⟨rfl, rfl⟩
    rw [Hcc.out]
    have hB4 : Below w.heap.size w (convW W3 zs 5) := convW_below W3 HB3.out HB3.out.size zs 5
    generalize convW W3 zs 5 = W4 at *
    have HB4 := Lib.hid hB4
    clear hB4
    go_wp2_with fail
    obtain ⟨v, hv⟩ : ∃ v, x ^^^ y = v := ⟨_, rfl⟩
    have Hv := Lib.hid hv
    clear hv
    refine (join_none x y v Hv.out _ (by omega) W4 (Hc.out.1.below Hc.out.2 HB4.out) (Nat.lt_of_lt_of_le Hc.out.2 HB4.out.size)).mono ?_
    rintro e W5 ⟨rfl, hb5⟩
    have HB5 := Lib.hid (HB4.out.trans (hb5.mono HB4.out.size))
    clear hb5
    go_wp2_with fail
    refine (join_none x y v Hv.out _ (by omega) W5 (Hc.out.1.below Hc.out.2 HB5.out) (Nat.lt_of_lt_of_le Hc.out.2 HB5.out.size)).mono ?_
    rintro e W6 ⟨rfl, hb6⟩
    have HB6 := Lib.hid (HB5.out.trans (hb6.mono HB5.out.size))
    clear hb6
    go_wp2_with fail
    go_ret
    exact ⟨rfl, HB6.out⟩
/-- the row's table is the walk's -/
theorem tab32_of {W : World} (h : Lib.TabIs Tryd.prog W "math/bits.deBruijn32tab" .u8 [0, 1, 28, 2, 29, 14, 24, 3, 30, 22, 20, 15, 25, 17, 4, 8, 31, 27, 13, 23, 21, 19, 16, 7, 26, 12, 18, 6, 11, 5, 10, 9]) : Tab32 W := fun j hj => by
  have h1 := h.cell (g := 0) (by kernel_rfl) j (by simpa using hj)
  have e : ∀ j : Fin 32, ([0, 1, 28, 2, 29, 14, 24, 3, 30, 22, 20, 15, 25, 17, 4, 8, 31, 27, 13, 23, 21, 19, 16, 7, 26, 12, 18, 6, 11, 5, 10, 9] : List Int).getD j.val 0 = ((Lib.deBruijn32tab.getD j.val 0 : Nat) : Int) := by decide
  rw [h1]
  exact congrArg (fun z => some (Value.int .u8 z)) (e ⟨j, hj⟩)
theorem tab32_size {W : World} (h : Tab32 W) : 0 < W.heap.size := World.block_lt_of_cell? W _ (h 0 (by omega))
theorem sumJoins_walk (a0 a1 : ByteArray) (a2 a3 a4 : Int) (w : World) (w0 : a0.size ≤ 140737488351232) (w1 : a1.size ≤ 140737488351232) (w2 : (Lit.int .u32 a2).wf = true) (w3 : (Lit.int .u32 a3).wf = true) (w4 : (Lit.int .i64 a4).wf = true)
    (hL : Lib.TabIs Tryd.prog w "math/bits.deBruijn32tab" .u8 [0, 1, 28, 2, 29, 14, 24, 3, 30, 22, 20, 15, 25, 17, 4, 8, 31, 27, 13, 23, 21, 19, 16, 7, 26, 12, 18, 6, 11, 5, 10, 9]) :
    Calls Tryd.prog 3 #[.string a0, .string a1, .int .u32 a2, .int .u32 a3, .int .i64 a4] w fun e w' => e = .returned (.bool true) ∧ Below w.heap.size w w' := by
  obtain ⟨⟨xs⟩⟩ := a0
  obtain ⟨⟨bs⟩⟩ := a1
  have h2 := bounds_u32 w2
  have h3 := bounds_u32 w3
  have h4 := bounds_i64 w4
  obtain ⟨x, rfl⟩ : ∃ t : BitVec 32, a2 = (t.toNat : Int) := ⟨BitVec.ofNat 32 a2.toNat, by rw [BitVec.toNat_ofNat]; omega⟩
  obtain ⟨y, rfl⟩ : ∃ t : BitVec 32, a3 = (t.toNat : Int) := ⟨BitVec.ofNat 32 a3.toNat, by rw [BitVec.toNat_ofNat]; omega⟩
  have hT := tab32_of hL
  exact sumJoins_calls xs bs x y a4 w hT (tab32_size hT) w0 w1 h4.1 h4.2
end Go.Proofs.YtnjgmbjeclmcnaaDoor
