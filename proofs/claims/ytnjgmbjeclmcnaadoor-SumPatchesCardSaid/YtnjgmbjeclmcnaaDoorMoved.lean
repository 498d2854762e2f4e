/- Walks of moved, Join: a rest behind n bytes 0; the joined sum. Condition: the library's table lies in its variable. -/
import Derived.Test.YtnjgmbjeclmcnaaDoorMat
namespace Go.Proofs.YtnjgmbjeclmcnaaDoor
open Go.RowKit
set_option linter.unusedSimpArgs false
set_option linter.unusedVariables false
theorem and_one_i64 (q : Int) (h0 : 0 ≤ q) (h : q ≤ 9223372036854775807) : bits BinOp.and IntKind.i64 q 1 = q % 2 := by
  obtain ⟨m, rfl⟩ := Int.eq_ofNat_of_zero_le h0
  have h1 : (BitVec.ofInt 64 (m : Int)).toNat = m := by
    rw [BitVec.ofInt_natCast, BitVec.toNat_ofNat]; omega
  have h2 : (BitVec.ofInt 64 1).toNat = 1 := by decide
  show IntKind.i64.wrap ((BitVec.ofInt 64 (m : Int) &&& BitVec.ofInt 64 1).toNat : Int) = _
  rw [BitVec.toNat_and, h1, h2, Nat.and_one_is_mod, IntKind.wrap_i64]
  omega
theorem mRow_fun {f g : BitVec 32 → BitVec 32} (h : ∀ x, f x = g x) (k : Nat) : mRow f k = mRow g k := by
  rw [show f = g from funext h]
theorem stpN_twice (d : Nat) : (fun x => stpN d (stpN d x)) = stpN (d + d) := funext fun x => (stpN_add d d x).symm
theorem mBlock_at {w : World} {g : Nat} {f : BitVec 32 → BitVec 32} {e : TypeId} (h : w.heap[g]? = some (.cells (mRow f 32) e (0, 0))) (i : Nat) (hi : i < 32) : w.cell? ⟨g, i, none⟩ = some (Value.int .u32 ((f (1#32 <<< i)).toNat : Int)) := by
  rw [cell_of_row _ _ _ _ _ _ h]; exact mRow_full f i hi
theorem stpN_mul_odd (d m : Nat) (x : BitVec 32) (h : m % 2 = 1) : stpN ((d + d) * (m / 2)) (stpN d x) = stpN (d * m) x := by
  rw [← stpN_add]
  congr 1
  have e : m = 2 * (m / 2) + 1 := by omega
  generalize m / 2 = q at *
  subst e
  rw [Nat.mul_add, Nat.mul_one, ← Nat.mul_assoc, Nat.mul_comm d 2, Nat.two_mul]
theorem stpN_mul_even (d m : Nat) (x : BitVec 32) (h : m % 2 = 0) : stpN ((d + d) * (m / 2)) x = stpN (d * m) x := by
  congr 1
  have e : m = 2 * (m / 2) := by omega
  generalize m / 2 = q at *
  subst e
  rw [← Nat.mul_assoc, Nat.mul_comm d 2, Nat.two_mul]
set_option maxHeartbeats 4000000 in
theorem moved_calls (r : BitVec 32) (n : Int) (w : World) (hT : Tab32 w) (hg0 : 0 < w.heap.size) (hn : n ≤ 9223372036854775807) :
    Calls Tryd.prog 10 #[.int .u32 (r.toNat : Int), .int .i64 n] w fun e w' => e = .returned (.int .u32 ((stpN (8 * n.toNat) r).toNat : Int)) ∧ Below w.heap.size w w' := by
  go_enter Tryd.func10, Tryd.ntmps10
  go_wp2_with fail
  rw [← mRow_0 (stpN 1)]
  have hB0 : Below w.heap.size w (w.alloc (.cells (mRow (stpN 1) 0) 36)) := (Below.refl _ _).alloc (Nat.le_refl _) _
  have hA0 := heap_alloc_new w (.cells (mRow (stpN 1) 0) 36)
  generalize w.alloc (.cells (mRow (stpN 1) 0) 36) = W1 at *
  have HT := Lib.hid hT
  clear hT
  go_loopw [7] (fun i wr => ∃ k : Nat, k ≤ 32 ∧ i = .int .i64 k ∧ Hid (Below w.heap.size w wr ∧ wr.heap[w.heap.size]? = some (.cells (mRow (stpN 1) k) 36 (0, 0)))) (fun i _ => 32 - (intOf i).toNat)
  case atStart => exact ⟨0, by omega, rfl, hB0, hA0⟩
  case round =>
    clear hB0 hA0 W1
    obtain ⟨k, hk, rfl, H⟩ := hrel
    by_cases hlt : k < 32
    · have hsh : IntKind.u32.wrap (1 * 2 ^ k) = ((1#32 <<< k).toNat : Int) := by
        have : ∀ k : Fin 32, IntKind.u32.wrap (1 * 2 ^ k.val) = ((1#32 <<< k.val).toNat : Int) := by decide
        exact this ⟨k, hlt⟩
      have hsh' : (2 : Int) ^ k % 4294967296 = ((1#32 <<< k).toNat : Int) := by
        have : ∀ k : Fin 32, (2 : Int) ^ k.val % 4294967296 = ((1#32 <<< k.val).toNat : Int) := by decide
        exact this ⟨k, hlt⟩
      have hst := fun W => step_calls (1#32 <<< k) W
      have hs2 : stp (1#32 <<< k) = stpN 1 (1#32 <<< k) := rfl
      rw [hs2] at hst
      have hms := mRow_set (stpN 1) k hlt
      have Hst := Lib.hid hst
      have Hms := Lib.hid hms
      clear hst hms hs2
      generalize stpN 1 (1#32 <<< k) = u at *
      generalize 1#32 <<< k = v at *
      have hc1 : wr.cell? ⟨w.heap.size, k, none⟩ = some (Value.int .u32 ((mCell (stpN 1) k k).toNat : Int)) := by
        rw [cell_of_row _ _ _ _ _ _ H.out.2]; exact mRow_at _ _ _ hlt
      have hc2 : wr.frozen? ⟨w.heap.size, k, none⟩ = false := frozen_of_row _ _ _ _ _ H.out.2
      go_wp2_with (go_at_call 14; refine (Hst.out _).mono ?_; rintro e w' ⟨rfl, rfl⟩)
      refine ⟨⟨k + 1, by omega, by go_num, H.out.1.setCell (Nat.le_refl _) _, ?_⟩, by simp [intOf]; omega⟩
      rw [heap_setCell_same _ _ _ _ _ _ H.out.2, Hms.out]
    · obtain rfl : k = 32 := by omega
      go_wp2_with fail
      have hB1 := H.out.1
      have hA1 := H.out.2
      clear H
      obtain ⟨wo, rfl⟩ : ∃ wo : World, wo = wr := ⟨_, rfl⟩
      go_loopw [16] (fun i w2 => ∃ j : Nat, j ≤ 3 ∧ i = .int .i64 j ∧ Hid (Below w.heap.size w w2 ∧ w2.heap[w.heap.size]? = some (.cells (mRow (stpN (2 ^ j)) 32) 36 (0, 0)))) (fun i _ => 3 - (intOf i).toNat)
      case atStart => exact ⟨0, by omega, rfl, hB1, hA1⟩
      case round =>
        clear hB1 hA1
        obtain ⟨j, hj, rfl, H⟩ := hrel
        by_cases hlt : j < 3
        · have hsz := H.out.1.size
          have hlt2 : w.heap.size < wr.heap.size := (Array.getElem?_eq_some_iff.1 H.out.2).1
          have htw := twice_calls (stpN (2 ^ j)) (lin_stpN _) w.heap.size wr (HT.out.below hg0 H.out.1) hlt2 (by omega) (fun i hi => mBlock_at H.out.2 i hi)
          rw [stpN_twice, show 2 ^ j + 2 ^ j = 2 ^ (j + 1) by omega] at htw
          have Htw := Lib.hid htw
          clear htw
          go_wp2_with fail
          refine (Htw.out).mono ?_
          rintro e w3 ⟨rfl, hb3⟩
          have hB3 := H.out.1.trans (hb3.mono hsz)
          have hA3 : w3.heap[w.heap.size]? = _ := (hb3.block _ hlt2).trans H.out.2
          have HB3 := Lib.hid hB3
          have HA3 := Lib.hid hA3
          have Hi := Lib.hid (show (Tryd.prog.info? 36).map (·.size) = some (mRow (stpN (2 ^ (j + 1))) 32).size from by rw [infoM, mRow_size])
          have Ho := Lib.hid (show (mRow (stpN (2 ^ j)) 32).size = (mRow (stpN (2 ^ (j + 1))) 32).size from by rw [mRow_size, mRow_size])
          clear hB3 hA3 hb3
          go_wp2_with (refine wpList_store_row rfl 36 (.tmp 5) (.tmp 18) rfl w.heap.size (mRow (stpN (2 ^ (j + 1))) 32) rfl rfl _ _ HA3.out Hi.out Ho.out (mRow_one _ _) ?_)
          go_wp2_with fail
          refine ⟨?_, ?_⟩
          · (repeat apply Exists.intro)
            exact ⟨⟨j + 1, by omega, by go_num, below_setRow HB3.out (Nat.le_refl _) _, setRow_heap w3 _ _ _ _ _ HA3.out⟩, rfl⟩
          · show 3 - ((j : Int) + 1).toNat < 3 - (j : Int).toNat
            omega
        · obtain rfl : j = 3 := by omega
          go_wp2_with fail
          have hB1 := H.out.1
          have hA1 := H.out.2
          clear H
          obtain ⟨wo2, rfl⟩ : ∃ wo : World, wo = wr := ⟨_, rfl⟩
          go_loopw [0, 1] (fun v q w2 => ∃ (x : BitVec 32) (p : Int) (d : Nat), v = .int .u32 (x.toNat : Int) ∧ q = .int .i64 p ∧ p ≤ 9223372036854775807 ∧ Hid (stpN (d * p.toNat) x = stpN (8 * n.toNat) r) ∧ Hid (Below w.heap.size w w2 ∧ w2.heap[w.heap.size]? = some (.cells (mRow (stpN d) 32) 36 (0, 0)))) (fun _ q _ => (intOf q).toNat)
          case atStart => exact ⟨r, n, 8, rfl, rfl, hn, rfl, hB1, hA1⟩
          case round =>
            clear hB1 hA1
            obtain ⟨x, p, d, rfl, rfl, hp, Hx, H⟩ := hrel
            by_cases hpos : 0 < p
            · have hsz := H.out.1.size
              have hlt2 : w.heap.size < wr.heap.size := (Array.getElem?_eq_some_iff.1 H.out.2).1
              have hand := and_one_i64 p (by omega) hp
              have hof := of_calls (stpN d) (lin_stpN _) w.heap.size x wr (HT.out.below hg0 H.out.1) (fun i hi => mBlock_at H.out.2 i hi)
              have htw : ∀ W : World, W.heap = wr.heap → Calls Tryd.prog 15 #[.pointer (some ⟨w.heap.size, 0, none⟩)] W fun e w' => e = .returned (.agg (mRow (stpN (d + d)) 32)) ∧ Below W.heap.size W w' := fun W hW => by
                have h := twice_calls (stpN d) (lin_stpN _) w.heap.size W (fun j hj => (World.cell?_of_block (by rw [hW])).trans (HT.out.below hg0 H.out.1 j hj)) (by rw [hW]; exact hlt2) (by rw [hW]; omega) (fun i hi => mBlock_at (hW ▸ H.out.2) i hi)
                rw [stpN_twice] at h
                exact h
              have Hof := Lib.hid hof
              have Htw := Lib.hid htw
              have Hsz := Lib.hid hsz
              have Hlt2 := Lib.hid hlt2
              have Hi := Lib.hid (show (Tryd.prog.info? 36).map (·.size) = some (mRow (stpN (d + d)) 32).size from by rw [infoM, mRow_size])
              have Ho := Lib.hid (show (mRow (stpN d) 32).size = (mRow (stpN (d + d)) 32).size from by rw [mRow_size, mRow_size])
              clear hof htw hsz hlt2
              by_cases hodd : p % 2 = 1
              · have h1 : (p % 2 == 1) = true := by rw [hodd]; rfl
                have Hodd := Lib.hid hodd
                clear hodd
                generalize hsx : stpN d x = sx at *
                have Hsx := Lib.hid hsx
                clear hsx
                go_wp2_with fail
                refine (Hof.out).mono ?_
                rintro e w3 ⟨rfl, m, hw3⟩
                have hh3 : w3.heap = wr.heap := by rw [hw3]; rfl
                have HB3 := Lib.hid (show Below w.heap.size w w3 from by rw [hw3]; exact pw_drewN H.out.1 m)
                have HA3 := Lib.hid (show w3.heap[w.heap.size]? = _ from hh3 ▸ H.out.2)
                have Hh3 := Lib.hid hh3
                clear hw3 hh3
                go_wp2_with fail
                refine (Htw.out _ Hh3.out).mono ?_
                rintro e w4 ⟨rfl, hb4⟩
                have HA4 := Lib.hid ((hb4.block _ (by rw [Hh3.out]; exact Hlt2.out)).trans HA3.out)
                have HB4 := Lib.hid (HB3.out.trans (hb4.mono HB3.out.size))
                clear hb4
                go_wp2_with (refine wpList_store_row rfl 36 (.tmp 5) (.tmp 29) rfl w.heap.size (mRow (stpN (d + d)) 32) rfl rfl _ _ HA4.out Hi.out Ho.out (mRow_one _ _) ?_)
                go_wp2_with fail
                have hd0 := Hodd.out
                refine ⟨?_, ?_⟩
                · (repeat apply Exists.intro)
                  refine ⟨⟨sx, p / 2, d + d, rfl, rfl, by omega, ?_, below_setRow HB4.out (Nat.le_refl _) _, setRow_heap w4 _ _ _ _ _ HA4.out⟩, rfl⟩
                  show stpN ((d + d) * (p / 2).toNat) sx = _
                  rw [← Hx.out, ← Hsx.out, show (p / 2).toNat = p.toNat / 2 by omega]
                  exact stpN_mul_odd d p.toNat x (by omega)
                · show (p / 2).toNat < p.toNat
                  omega
              · have h1 : (p % 2 == 1) = false := by rw [beq_eq_false_iff_ne]; exact hodd
                have Hodd := Lib.hid hodd
                clear hodd
                go_wp2_with fail
                refine (Htw.out _ rfl).mono ?_
                rintro e w4 ⟨rfl, hb4⟩
                have HA4 := Lib.hid ((hb4.block _ Hlt2.out).trans H.out.2)
                have HB4 := Lib.hid (H.out.1.trans (hb4.mono Hsz.out))
                clear hb4
                go_wp2_with (refine wpList_store_row rfl 36 (.tmp 5) (.tmp 29) rfl w.heap.size (mRow (stpN (d + d)) 32) rfl rfl _ _ HA4.out Hi.out Ho.out (mRow_one _ _) ?_)
                go_wp2_with fail
                have hd0 := Hodd.out
                refine ⟨?_, ?_⟩
                · (repeat apply Exists.intro)
                  refine ⟨⟨x, p / 2, d + d, rfl, rfl, by omega, ?_, below_setRow HB4.out (Nat.le_refl _) _, setRow_heap w4 _ _ _ _ _ HA4.out⟩, rfl⟩
                  show stpN ((d + d) * (p / 2).toNat) x = _
                  rw [← Hx.out, show (p / 2).toNat = p.toNat / 2 by omega]
                  exact stpN_mul_even d p.toNat x (by omega)
                · show (p / 2).toNat < p.toNat
                  omega
            · have hx : x = stpN (8 * n.toNat) r := by
                have h := Hx.out
                rw [show p.toNat = 0 by omega, Nat.mul_zero] at h
                exact h
              have Hxx := Lib.hid hx
              clear hx Hx
              go_wp2_with fail
              go_ret
              exact ⟨by show Ending.returned (Value.int .u32 (x.toNat : Int)) = _; rw [Hxx.out], H.out.1⟩
set_option maxHeartbeats 400000 in
theorem join_calls (a b : BitVec 32) (n : Int) (w : World) (hT : Tab32 w) (hg0 : 0 < w.heap.size) (hn : n ≤ 9223372036854775807) :
    Calls Tryd.prog 5 #[.int .u32 (a.toNat : Int), .int .u32 (b.toNat : Int), .int .i64 n] w fun e w' => e = .returned (.int .u32 ((stpN (8 * n.toNat) a ^^^ b).toNat : Int)) ∧ Below w.heap.size w w' := by
  have Hm := Lib.hid (moved_calls a n w hT hg0 hn)
  have hx := bx32 (stpN (8 * n.toNat) a) b
  generalize stpN (8 * n.toNat) a = u at *
  generalize hv : u ^^^ b = v at *
  clear hv
  go_enter Tryd.func5, Tryd.ntmps5
  go_wp2_with fail
  refine (Hm.out).mono ?_
  rintro e w' ⟨rfl, hb⟩
  have Hb := Lib.hid hb
  clear hb
  go_wp2_with fail
  go_ret
  exact ⟨rfl, Hb.out⟩
end Go.Proofs.YtnjgmbjeclmcnaaDoor
