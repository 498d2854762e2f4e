/- Walks of step, feed, Sum, and of the reference's turned and Sum: each returns what the plain function tells. Condition: the slice that comes in reads as the bytes. -/
import Derived.Test.YtnjgmbjeclmcnaaDoorProg
import Derived.Test.YtnjgmbjeclmcnaaDoorBytes
import Derived.Test.YtnjgmbjeclmcnaaDoorCrc
namespace Go.Proofs.YtnjgmbjeclmcnaaDoor
open Go.RowKit
set_option linter.unusedSimpArgs false
set_option linter.unusedVariables false
theorem low_bit (r : BitVec 32) : bits BinOp.and IntKind.u32 (r.toNat : Int) 1 = if r.getLsbD 0 then 1 else 0 := by
  have := ba32 r 1#32
  have e : ((1#32).toNat : Int) = 1 := rfl
  rw [e] at this
  rw [this, bit32]
  split <;> rfl
theorem stp_x (r : BitVec 32) (h : r.getLsbD 0 = true) : bits BinOp.xor IntKind.u32 ((r.toNat : Int) / 2) 2197175160 = ((stp r).toNat : Int) := by
  have := bx32 (r >>> 1) 0x82f63b78#32
  rw [stp_yes _ h, ← this, ← sr32]
  rfl
theorem stp_s (r : BitVec 32) (h : r.getLsbD 0 = false) : (r.toNat : Int) / 2 = ((stp r).toNat : Int) := by
  rw [stp_no _ h, ← sr32]
  rfl
set_option maxHeartbeats 400000 in
theorem step_calls (r : BitVec 32) (w : World) :
    Calls Tryd.prog 14 #[.int .u32 (r.toNat : Int)] w fun e w' => e = .returned (.int .u32 ((stp r).toNat : Int)) ∧ w = w' := by
  have hb := low_bit r
  cases h : r.getLsbD 0
  · have e := stp_s r h
    rw [h] at hb
    clear h
    go_enter Tryd.func14, Tryd.ntmps14
    go_wp2_with fail
    go_ret
    exact ⟨rfl, rfl⟩
  · have e := stp_x r h
    rw [h] at hb
    clear h
    go_enter Tryd.func14, Tryd.ntmps14
    go_wp2_with fail
    go_ret
    exact ⟨rfl, rfl⟩
theorem fd_in (r : BitVec 32) (b : UInt8) : bits BinOp.xor IntKind.u32 (r.toNat : Int) ((b.toNat : Int) % 4294967296) = ((r ^^^ b32 b).toNat : Int) := by
  rw [← bx32]
  congr 1
  simp only [b32, BitVec.toNat_setWidth]
  rfl
set_option maxHeartbeats 400000 in
theorem feed_calls (r : BitVec 32) (A : Option Addr) (c : Nat) (bs : List UInt8) (w : World) (hn : bs.length ≤ 9223372036854775807) (hr : Rd w A bs) :
    Calls Tryd.prog 12 #[.int .u32 (r.toNat : Int), .slice A bs.length c] w fun e w' => e = .returned (.int .u32 ((fd r bs).toNat : Int)) ∧ w = w' := by
  go_enter Tryd.func12, Tryd.ntmps12
  go_wp2_with fail
  go_loop [0, 9] (fun v i => ∃ k : Nat, k ≤ bs.length ∧ v = .int .u32 ((fd r (bs.take k)).toNat : Int) ∧ i = .int .i64 k) (fun _ i => bs.length - (intOf i).toNat)
  case atStart => exact ⟨0, by omega, by simp [fd], rfl⟩
  case round =>
    obtain ⟨k, hk, rfl, rfl⟩ := hrel
    by_cases hlt : k < bs.length
    · obtain ⟨ad, rfl, hc⟩ := hr k hlt
      have hx := fd_in (fd r (bs.take k)) bs[k]
      have hs : stpN 8 (fd r (bs.take k) ^^^ b32 bs[k]) = fd r (bs.take (k + 1)) := by
        rw [List.take_succ_eq_append_getElem hlt, fd_snoc]
      generalize hy : fd r (bs.take k) = y at *
      generalize hz : y ^^^ b32 bs[k] = z at *
      have Hs := Lib.hid hs
      clear hy hs hz
      simp only [vb] at hc
      go_wp2_with fail
      clear hx
      go_loop [0, 17] (fun v i => ∃ j : Nat, j ≤ 8 ∧ v = .int .u32 ((stpN j z).toNat : Int) ∧ i = .int .i64 j) (fun _ i => 8 - (intOf i).toNat)
      case atStart => exact ⟨0, by omega, rfl, rfl⟩
      case round =>
        obtain ⟨j, hj, rfl, rfl⟩ := hrel
        by_cases hj8 : j < 8
        · have hs := stpN_succ j z
          have Hs2 := Lib.hid hs
          clear hs
          generalize stpN j z = u at *
          go_wp2_with (go_at_call 14; refine (step_calls _ _).mono ?_; rintro e w' ⟨rfl, rfl⟩)
          exact ⟨⟨j + 1, by omega, by rw [Hs2.out], by go_num⟩, by simp [intOf]; omega⟩
        · obtain rfl : j = 8 := by omega
          go_wp2_with fail
          exact ⟨⟨k + 1, by omega, by rw [Hs.out], by go_num⟩, by simp [intOf]; omega⟩
    · have : k = bs.length := by omega
      subst this
      go_wp2_with fail
      go_ret
      exact ⟨rfl, rfl⟩
theorem not32 (x : BitVec 32) : bits BinOp.xor IntKind.u32 4294967295 (x.toNat : Int) = ((~~~ x).toNat : Int) := by
  have := bx32 (BitVec.allOnes 32) x
  rw [← BitVec.allOnes_xor, ← this]
  rfl
set_option maxHeartbeats 400000 in
theorem turned_calls (r : BitVec 32) (w : World) :
    Calls Tryd.prog 11 #[.int .u32 (r.toNat : Int)] w fun e w' => e = .returned (.int .u32 ((trn r 32).toNat : Int)) ∧ w = w' := by
  go_enter Tryd.func11, Tryd.ntmps11
  go_wp2_with fail
  go_loop [3, 4] (fun v i => ∃ k : Nat, k ≤ 32 ∧ v = .int .u32 ((trn r k).toNat : Int) ∧ i = .int .i64 k) (fun _ i => 32 - (intOf i).toNat)
  case atStart => exact ⟨0, by omega, rfl, rfl⟩
  case round =>
    obtain ⟨k, hk, rfl, rfl⟩ := hrel
    by_cases hlt : k < 32
    · have h1 := dbl32 (trn r k)
      have h2 := sr32 r k
      have h3 := ba32 (r >>> k) 1#32
      have h4 := bo32 (trn r k <<< 1) ((r >>> k) &&& 1#32)
      have hs : (trn r k <<< 1) ||| ((r >>> k) &&& 1#32) = trn r (k + 1) := rfl
      have e1 : ((1#32).toNat : Int) = 1 := rfl
      rw [e1] at h3
      rw [hs] at h4
      generalize hx1 : trn r (k + 1) = x1 at *
      have Hx1 := Lib.hid hx1
      clear hx1
      generalize (r >>> k) &&& 1#32 = x3 at *
      generalize r >>> k = x2 at *
      generalize trn r k <<< 1 = x4 at *
      clear hs e1
      go_wp2_with fail
      exact ⟨⟨k + 1, by omega, by rw [Hx1.out], by go_num⟩, by simp [intOf]; omega⟩
    · obtain rfl : k = 32 := by omega
      go_wp2_with fail
      go_ret
      exact ⟨rfl, rfl⟩
theorem rtop (u : BitVec 32) (b : UInt8) (j : Nat) : bits BinOp.xor IntKind.u32 ((u.toNat : Int) / 2147483648) (bits BinOp.and IntKind.u32 ((b.toNat : Int) / 2 ^ j % 4294967296) 1) = (((u >>> 31) ^^^ ((b32 b >>> j) &&& 1#32)).toNat : Int) := by
  rw [← bx32, ← ba32, ← sr32 u 31]
  congr 2
  rw [← sr32]
  have hb := b.toBitVec.isLt
  have e : ((b32 b).toNat : Int) = (b.toNat : Int) := by
    simp only [b32, BitVec.toNat_setWidth]
    rw [Nat.mod_eq_of_lt (by omega)]; rfl
  rw [e]
  have h2 : (b.toNat : Int) / 2 ^ j ≤ (b.toNat : Int) := Int.ediv_le_self _ (by omega)
  have h3 : 0 ≤ (b.toNat : Int) / 2 ^ j := Int.ediv_nonneg (by omega) (Int.pow_nonneg (by omega))
  have h4 : b.toNat < 256 := hb
  omega
theorem rpoly (u : BitVec 32) : bits BinOp.xor IntKind.u32 ((u.toNat : Int) * (2 : Int) % (4294967296 : Int)) 517762881 = (((u <<< 1) ^^^ 0x1edc6f41#32).toNat : Int) := by
  rw [← bx32, ← dbl32]
  rfl
set_option maxHeartbeats 400000 in
theorem refSum_calls (A : Option Addr) (c : Nat) (bs : List UInt8) (w : World) (hn : bs.length ≤ 9223372036854775807) (hr : Rd w A bs) :
    Calls Tryd.prog 6 #[.slice A bs.length c] w fun e w' => e = .returned (.int .u32 ((rcrc bs).toNat : Int)) ∧ w = w' := by
  go_enter Tryd.func6, Tryd.ntmps6
  go_wp2_with fail
  go_loop [3, 4] (fun v i => ∃ k : Nat, k ≤ bs.length ∧ v = .int .u32 ((rfd 0xffffffff#32 (bs.take k)).toNat : Int) ∧ i = .int .i64 k) (fun _ i => bs.length - (intOf i).toNat)
  case atStart => exact ⟨0, by omega, by simp [rfd], rfl⟩
  case round =>
    obtain ⟨k, hk, rfl, rfl⟩ := hrel
    by_cases hlt : k < bs.length
    · obtain ⟨ad, rfl, hc⟩ := hr k hlt
      have hs : rbits (rfd 0xffffffff#32 (bs.take k)) bs[k] 8 = rfd 0xffffffff#32 (bs.take (k + 1)) := by
        rw [List.take_succ_eq_append_getElem hlt, rfd_snoc]
      generalize hy : rfd 0xffffffff#32 (bs.take k) = y at *
      have Hs := Lib.hid hs
      clear hy hs
      simp only [vb] at hc
      go_wp2_with fail
      go_loop [3, 5] (fun v i => ∃ j : Nat, j ≤ 8 ∧ v = .int .u32 ((rbits y bs[k] j).toNat : Int) ∧ i = .int .i64 j) (fun _ i => 8 - (intOf i).toNat)
      case atStart => exact ⟨0, by omega, rfl, rfl⟩
      case round =>
        obtain ⟨j, hj, rfl, rfl⟩ := hrel
        by_cases hj8 : j < 8
        · have hs : rbits y bs[k] (j + 1) = rbit (rbits y bs[k] j) bs[k] j := rfl
          have Hs2 := Lib.hid hs
          clear hs
          generalize rbits y bs[k] j = u at *
          have ht := rtop u bs[k] j
          by_cases h1 : (u >>> 31) ^^^ ((b32 bs[k] >>> j) &&& 1#32) = 1#32
          · have hv := rbit_yes u bs[k] j h1
            have hp := rpoly u
            rw [← hv, ← Hs2.out] at hp
            rw [h1] at ht
            have ht' : bits BinOp.xor IntKind.u32 ((u.toNat : Int) / 2147483648) (bits BinOp.and IntKind.u32 ((bs[k].toNat : Int) / 2 ^ j % 4294967296) 1) = 1 := ht
            clear ht hv h1
            go_wp2_with fail
            exact ⟨⟨j + 1, by omega, by first | rfl | rw [hp], by go_num⟩, by simp [intOf]; omega⟩
          · have hv := rbit_no u bs[k] j h1
            have hp := dbl32 u
            rw [← hv, ← Hs2.out] at hp
            have ht' : (bits BinOp.xor IntKind.u32 ((u.toNat : Int) / 2147483648) (bits BinOp.and IntKind.u32 ((bs[k].toNat : Int) / 2 ^ j % 4294967296) 1) == 1) = false := by
              rw [beq_eq_false_iff_ne, ht]
              intro h
              apply h1
              apply BitVec.eq_of_toNat_eq
              have e : ((1#32).toNat : Int) = 1 := rfl
              omega
            clear ht hv h1
            go_wp2_with fail
            exact ⟨⟨j + 1, by omega, by first | rfl | rw [hp], by go_num⟩, by simp [intOf]; omega⟩
        · obtain rfl : j = 8 := by omega
          go_wp2_with fail
          exact ⟨⟨k + 1, by omega, by rw [Hs.out], by go_num⟩, by simp [intOf]; omega⟩
    · have : k = bs.length := by omega
      subst this
      have hx := not32 (trn (rfd 0xffffffff#32 bs) 32)
      have hm : IntKind.u32.max = 4294967295 := rfl
      have hs : IntKind.u32.signed = false := rfl
      have hq : ~~~ trn (rfd 0xffffffff#32 bs) 32 = rcrc bs := rfl
      rw [List.take_length]
      have ht := turned_calls (rfd 0xffffffff#32 bs)
      rw [hq] at hx
      generalize hv : rcrc bs = v at *
      have Hv := Lib.hid hv
      clear hv
      generalize trn (rfd 0xffffffff#32 bs) 32 = u at *
      generalize rfd 0xffffffff#32 bs = y at *
      have Ht := Lib.hid ht
      clear ht hq
      go_wp2_with (go_at_call 11; refine (Ht.out _).mono ?_; rintro e w' ⟨rfl, rfl⟩)
      go_ret
      exact ⟨by rw [Hv.out]; rfl, rfl⟩
end Go.Proofs.YtnjgmbjeclmcnaaDoor
