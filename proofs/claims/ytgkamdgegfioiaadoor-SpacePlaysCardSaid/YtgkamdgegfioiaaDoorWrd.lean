/- The walks of word.Add and word.Get. -/
import Derived.Test.YtgkamdgegfioiaaDoorSls
import Derived.Test.YtgkamdgegfioiaaDoorOwn
import Derived.Test.YtgkamdgegfioiaaDoorLent
namespace Go.Proofs.YtgkamdgegfioiaaDoor
open Go.RowKit
set_option linter.unusedSimpArgs false
set_option linter.unusedVariables false
theorem leB_get : ∀ (k n i : Nat) (h : i < (leB k n).length), (leB k n)[i] = UInt8.ofNat (n / 256 ^ i)
  | k + 1, n, 0, _ => by simp [leB]
  | k + 1, n, i + 1, h => by
    have := leB_get k (n / 256) i (by simpa [leB] using h)
    simp only [leB, List.getElem_cons_succ, this]
    rw [Nat.div_div_eq_div_mul, Nat.pow_succ, Nat.mul_comm]
  | 0, n, i, h => by simp [leB] at h
/-- where a byte slice may lie -/
def LiesB (w : World) (v v' : Value) : Prop := v'.ownBlock = v.ownBlock ∨ ∃ k, v'.ownBlock = some k ∧ w.heap.size ≤ k
theorem appendB (w : World) (B : Nat) (v : Value) (bs : List UInt8) (h : OwnB w B 5 v bs) (hB : B ≤ w.heap.size) (b : Nat) (x : UInt8) (hs : Bx w b 5 #[.int .u8 (x.toNat : Int)]) (hn : bs.length ≤ 140737488355000) :
    ∃ A n c w', (Builtin.append_ #[22, 22] 22 #[v, .slice (some ⟨b, 0, none⟩) 1 1]).run Tryd.prog w = .ok (.slice A n c) w' ∧ OwnB w' B 5 (.slice A n c) (bs ++ [x]) ∧ w.grownBy w' v.ownBlock ∧ LiesB w v (.slice A n c) := by
  obtain ⟨i5, hi, hz0, hz1, hz2⟩ := info_parts info5
  obtain ⟨v', w', h1, h2, h3, _, h5⟩ := run_append_own_at (P := Tryd.prog) w B 22 22 5 i5 _ 1 1 Tryd.underlying22 hi hz0 hz1 hz2 rfl (by omega) v bs.length (vbs bs) h ⟨b, 0, none⟩ 1 1 (vbs [x]) rfl (fun j u hj => by
    rw [addr_add0, hs.cell]
    have e : (vbs [x])[j]? = (#[Value.int .u8 (x.toNat : Int)])[j]? := by simp [vbs, vb]
    rw [← e]
    exact hj) (vbs_one [x]) (by unfold maxLen; omega) (by omega) hB
  have ho : OwnB w' B 5 v' (bs ++ [x]) := by
    unfold OwnB
    rw [vbs_append, List.length_append]
    exact h2
  obtain ⟨A, c, e, _⟩ := ho.form
  subst e
  exact ⟨A, _, c, w', h1, ho, h3, h5.imp id (fun e => ⟨_, e, Nat.le_refl _⟩)⟩
def AddPost (w : World) (B : Nat) (v : Value) (bs : List UInt8) (e : Ending) (w' : World) : Prop := ∃ A n c, e = .returned (.slice A n c) ∧ OwnB w' B 5 (.slice A n c) bs ∧ Chg w w' (fun j => v.ownBlock = some j) ∧ LiesB w v (.slice A n c)
set_option maxHeartbeats 4000000 in
set_option maxRecDepth 100000 in
theorem add_calls (w : World) (B : Nat) (v : Value) (bs : List UInt8) (size n : Nat) (h : OwnB w B 5 v bs) (hB : B ≤ w.heap.size) (hs : size ≤ 8) (hn : n < 18446744073709551616) (hl : bs.length ≤ 100000000000) :
    Calls Tryd.prog 51 #[v, .int .i64 (size : Int), .int .u64 (n : Int)] w fun e w' => AddPost w B v (bs ++ leB size n) e w' := by
  obtain ⟨A, c, hv, _⟩ := h.form
  have H0 := Lib.hid (show OwnB w B 5 v (bs ++ (leB size n).take 0) ∧ Chg w w (fun j => v.ownBlock = some j) ∧ LiesB w v v from ⟨by simpa using h, Chg.refl _ _, .inl rfl⟩)
  obtain ⟨N, hN⟩ : ∃ N, bs.length = N := ⟨_, rfl⟩
  rw [hN] at hv
  have hlen := leB_len size n
  clear h
  subst hv
  go_enter Tryd.func51, Tryd.ntmps51
  go_wp2_with fail
  go_loopw [0, 9] (fun t j wr => ∃ (k : Nat) (A1 : Option Addr) (n1 c1 : Nat), t = .slice A1 n1 c1 ∧ j = .int .i64 (k : Int) ∧ k ≤ size ∧ Hid (OwnB wr B 5 (.slice A1 n1 c1) (bs ++ (leB size n).take k) ∧ Chg w wr (fun j => (Value.slice A N c).ownBlock = some j) ∧ LiesB w (.slice A N c) (.slice A1 n1 c1))) (fun _ j _ => size - (intOf j).toNat)
  case atStart => exact ⟨0, A, N, c, rfl, rfl, by omega, H0⟩
  case round =>
    clear H0
    rename World => wr
    obtain ⟨k, A1, n1, c1, rfl, rfl, hk, H⟩ := hrel
    by_cases hlt : k < size
    · have hlti : (k : Int) < (size : Int) := by omega
      obtain ⟨x, hx⟩ : ∃ x, UInt8.ofNat (n / 256 ^ k) = x := ⟨_, rfl⟩
      have hxt : (n : Int) / 2 ^ (8 * k) % 256 = (x.toNat : Int) := by
        have e1 : (2 : Nat) ^ (8 * k) = 256 ^ k := by rw [Nat.pow_mul]
        have e2 : (n : Int) / 2 ^ (8 * k) % 256 = ((n / 2 ^ (8 * k) % 256 : Nat) : Int) := by push_cast; rfl
        rw [e2, e1, ← hx, UInt8.toNat_ofNat']
      have hts : (leB size n).take (k + 1) = (leB size n).take k ++ [x] := by
        rw [List.take_succ_eq_append_getElem (by rw [hlen]; exact hlt), leB_get size n k, hx]
      obtain ⟨y, hy⟩ : ∃ y, x.toNat = y := ⟨_, rfl⟩
      have hown := H.out.1.alloc (.cells #[.int .u8 (x.toNat : Int)] 5)
      have hBr : B ≤ (wr.alloc (.cells #[.int .u8 (x.toNat : Int)] 5)).heap.size := by have := H.out.2.1.size; simp; omega
      obtain ⟨A2, n2, c2, W2, hr, ho, hg, hli⟩ := appendB _ B (.slice A1 n1 c1) _ hown hBr wr.heap.size x (Bx.new _ _ _) (by rw [List.length_append, List.length_take, hlen]; omega)
      have hHE : OwnB W2 B 5 (.slice A2 n2 c2) (bs ++ (leB size n).take (k + 1)) ∧ Chg w W2 (fun j => (Value.slice A N c).ownBlock = some j) ∧ LiesB w (.slice A N c) (.slice A2 n2 c2) := by
        refine ⟨by rw [hts, ← List.append_assoc]; exact ho, ?_, ?_⟩
        · refine (H.out.2.1.trans (Chg.ofBelow ((Below.refl _ _).alloc (Nat.le_refl _) _) _)).trans2 (Chg.ofGrown hg) (fun j hj e => ?_)
          rcases H.out.2.2 with e1 | ⟨q, e1, hq⟩
          · rw [e1] at e; exact e
          · rw [e1] at e; cases e; omega
        · rcases hli with e1 | ⟨q, e1, hq⟩
          · rcases H.out.2.2 with e2 | ⟨q, e2, hq⟩
            · exact .inl (e1.trans e2)
            · exact .inr ⟨q, e1.trans e2, hq⟩
          · refine .inr ⟨q, e1, Nat.le_trans ?_ hq⟩
            have := H.out.2.1.size
            simp
            omega
      have HE := Lib.hid hHE
      have Hr := Lib.hid hr
      rw [hy] at hxt Hr
      clear hHE hr ho hg hli hown hBr hts hx hlen hN hy
      go_wp2_with (at_builtin; go_must (refine wpList_append_run rfl (.tmp 12) (.tmp 18) 22 22 rfl rfl rfl Hr.out ?_))
      exact ⟨⟨k + 1, A2, n2, c2, rfl, by go_num, by omega, HE⟩, by simp [intOf]; omega⟩
    · obtain rfl : k = size := by omega
      have HE := Lib.hid (show AddPost w B (.slice A N c) (bs ++ leB k n) (.returned (.slice A1 n1 c1)) wr from by
        have h1 := H.out.1
        rw [List.take_of_length_le (by rw [hlen]; exact Nat.le_refl _)] at h1
        exact ⟨A1, n1, c1, rfl, h1, H.out.2.1, H.out.2.2⟩)
      go_wp2_with fail
      go_ret
      exact HE.out
theorem le_append : ∀ (a b : List UInt8), le (a ++ b) = le a + 256 ^ a.length * le b
  | [], b => by simp [le]
  | x :: a, b => by
    simp only [List.cons_append, le, le_append a b, List.length_cons, Nat.pow_succ]
    rw [Nat.mul_add, Nat.add_assoc]
    congr 2
    rw [← Nat.mul_assoc, Nat.mul_comm 256]
theorem or_shift (a y k : Nat) (ha : a < 256 ^ k) (hy : y < 256) (hk : k < 8) : bits BinOp.or IntKind.u64 (a : Int) (IntKind.u64.wrap ((y : Int) * 2 ^ (8 * k))) = ((a + 256 ^ k * y : Nat) : Int) := by
  have hp : (2 : Nat) ^ (8 * k) = 256 ^ k := by rw [Nat.pow_mul]
  have hk7 : (256 : Nat) ^ k ≤ 256 ^ 7 := Nat.pow_le_pow_right (by omega) (by omega)
  have hyb : y * 2 ^ (8 * k) < 18446744073709551616 := by
    rw [hp]
    have : y * 256 ^ k ≤ 255 * 256 ^ 7 := Nat.mul_le_mul (by omega) hk7
    omega
  have e1 : (y : Int) * 2 ^ (8 * k) = ((y * 2 ^ (8 * k) : Nat) : Int) := by push_cast; rfl
  have hsum : a + 256 ^ k * y < 18446744073709551616 := by
    rw [hp, Nat.mul_comm] at hyb
    have : 256 ^ k * y + 256 ^ k ≤ 256 ^ 8 := by
      have h1 : 256 ^ k * (y + 1) ≤ 256 ^ 7 * 256 := Nat.mul_le_mul hk7 (by omega)
      rw [Nat.mul_add, Nat.mul_one] at h1
      omega
    omega
  have e2 : IntKind.u64.wrap ((y : Int) * 2 ^ (8 * k)) = ((y * 2 ^ (8 * k) : Nat) : Int) := by
    rw [e1, IntKind.wrap_u64]
    omega
  rw [e2]
  have h1 : (BitVec.ofInt 64 (a : Int)).toNat = a := by
    rw [BitVec.ofInt_natCast, BitVec.toNat_ofNat]; omega
  have h2 : (BitVec.ofInt 64 ((y * 2 ^ (8 * k) : Nat) : Int)).toNat = y * 2 ^ (8 * k) := by
    rw [BitVec.ofInt_natCast, BitVec.toNat_ofNat]; omega
  show IntKind.u64.wrap ((BitVec.ofInt 64 (a : Int) ||| BitVec.ofInt 64 ((y * 2 ^ (8 * k) : Nat) : Int)).toNat : Int) = _
  rw [BitVec.toNat_or, h1, h2, Nat.or_comm, Nat.mul_comm, ← Nat.two_pow_add_eq_or_of_lt (by rw [hp]; exact ha), hp, Nat.add_comm, IntKind.wrap_u64]
  omega
set_option maxHeartbeats 4000000 in
set_option maxRecDepth 100000 in
theorem get_calls (w : World) (A : Option Addr) (c : Nat) (bs : List UInt8) (N : Nat) (hN : bs.length = N) (hr : Rd w A bs) (hl : N ≤ 8) :
    Calls Tryd.prog 52 #[.slice A N c] w fun e w' => e = .returned (.int .u64 (le bs : Int)) ∧ w = w' := by
  have HN := Lib.hid hN
  have Hr := Lib.hid hr
  clear hN hr
  go_enter Tryd.func52, Tryd.ntmps52
  go_wp2_with fail
  go_loop [3, 8] (fun t j => ∃ (k : Nat), t = .int .u64 ((le (bs.take k) : Nat) : Int) ∧ j = .int .i64 (k : Int) ∧ k ≤ N) (fun _ j => N - (intOf j).toNat)
  case atStart => exact ⟨0, by simp [le], rfl, by omega⟩
  case round =>
    obtain ⟨k, rfl, rfl, hk⟩ := hrel
    by_cases hlt : k < N
    · have hlti : (k : Int) < (N : Int) := by omega
      obtain ⟨ad, hA, hx⟩ := Hr.out k (by rw [HN.out]; exact hlt)
      subst hA
      obtain ⟨x, hxe⟩ : ∃ x, bs[k]'(by rw [HN.out]; exact hlt) = x := ⟨_, rfl⟩
      rw [hxe] at hx
      simp only [vb] at hx
      obtain ⟨a, ha⟩ : ∃ a, le (bs.take k) = a := ⟨_, rfl⟩
      rw [ha]
      obtain ⟨y, hy⟩ : ∃ y, x.toNat = y := ⟨_, rfl⟩
      have hyl := x.toNat_lt
      rw [hy] at hx hyl
      have Hx := Lib.hid (And.intro hxe (And.intro ha hy))
      clear hxe ha hy
      go_wp2_with fail
      have ha : a < 256 ^ k := by
        have := le_lt (bs.take k)
        rw [Hx.out.2.1, List.length_take, HN.out, Nat.min_eq_left (by omega)] at this
        exact this
      refine ⟨⟨k + 1, ?_, by go_num, by omega⟩, by simp [intOf]; omega⟩
      rw [or_shift a y k ha (by omega) (by omega), List.take_succ_eq_append_getElem (by rw [HN.out]; exact hlt), le_append, Hx.out.1, Hx.out.2.1, List.length_take, HN.out, Nat.min_eq_left (by omega)]
      congr 2
      simp [le, Hx.out.2.2]
    · obtain rfl : k = N := by omega
      have HE := Lib.hid (show bs.take k = bs from List.take_of_length_le (by rw [HN.out]; exact Nat.le_refl _))
      go_wp2_with fail
      go_ret
      exact ⟨by rw [HE.out]; rfl, rfl⟩
end Go.Proofs.YtgkamdgegfioiaaDoor
