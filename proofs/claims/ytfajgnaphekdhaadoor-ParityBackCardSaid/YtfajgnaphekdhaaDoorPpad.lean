/- Walks of pad.add: a piece is added to a row. Conditions: the row lies behind all that was there when the piece was read; the piece is no longer. -/
import Derived.Test.YtfajgnaphekdhaaDoorPlist
namespace Go.Proofs.YtfajgnaphekdhaaDoor
open Go.RowKit
set_option linter.unusedSimpArgs false
set_option linter.unusedVariables false
def xorL : List UInt8 → List UInt8 → List UInt8
  | L, [] => L
  | [], _ :: _ => []
  | x :: L, y :: b => (x ^^^ y) :: xorL L b
theorem xorL_len : ∀ (L b : List UInt8), b.length ≤ L.length → (xorL L b).length = L.length
  | L, [], _ => by cases L <;> rfl
  | [], _ :: _, h => by simp at h
  | x :: L, y :: b, h => by
    simp only [xorL, List.length_cons]
    rw [xorL_len L b (by simpa using h)]
theorem xorL_nil (L : List UInt8) : xorL L [] = L := by cases L <;> rfl
theorem xorL_step : ∀ (L b : List UInt8) (k : Nat), b.length ≤ L.length → k < b.length → (xorL L (b.take k)).getD k 0 = L.getD k 0 ∧ (xorL L (b.take k)).set k (L.getD k 0 ^^^ b.getD k 0) = xorL L (b.take (k + 1))
  | L, [], k, _, hk => by simp at hk
  | [], _ :: _, _, h, _ => by simp at h
  | x :: L, y :: b, 0, h, hk => by
    constructor
    · simp [xorL]
    · simp [xorL, xorL_nil]
  | x :: L, y :: b, k + 1, h, hk => by
    obtain ⟨h1, h2⟩ := xorL_step L b k (by simpa using h) (by simpa using hk)
    constructor
    · simpa [xorL] using h1
    · simpa [xorL] using h2
theorem u8_xor_cast (x y : UInt8) : bits .xor .u8 (x.toNat : Int) (y.toNat : Int) = (((x ^^^ y).toNat : Nat) : Int) := by
  rw [u8_xor_nat _ _ x.toNat_lt y.toNat_lt]
  simp [UInt8.toNat_xor]
set_option maxHeartbeats 1000000 in
set_option maxRecDepth 100000 in
theorem add_calls (w0 w : World) (g : Nat) (L bs : List UInt8) (A : Option Addr) (c cap : Nat) (hrow : w.heap[g]? = some (.cells (bArr L) 5 (0, 0))) (hg : w0.heap.size ≤ g) (hB : Below w0.heap.size w0 w) (hr : Rd w0 A bs) (hl : bs.length ≤ L.length) (hs : L.length ≤ 4096) :
    Calls Tryd.prog 40 #[.slice (some ⟨g, 0, none⟩) L.length cap, .slice A bs.length c] w fun e w' => e = .returned (.tuple #[]) ∧ w' = w.setRow g (bArr (xorL L bs)) := by
  have h0 : w = w.setRow g (bArr (xorL L (bs.take 0))) := by
    rw [List.take_zero, xorL_nil, setRow_self w g _ 5 (0, 0) hrow]
  have H0 := Lib.hid h0
  clear h0
  have Hrow := Lib.hid hrow
  have HB := Lib.hid hB
  have Hr := Lib.hid hr
  have Hl := Lib.hid hl
  clear hrow hB hr
  obtain ⟨n, hn⟩ : ∃ n, L.length = n := ⟨_, rfl⟩
  have Hn := Lib.hid hn
  rw [hn] at hl hs ⊢
  clear hn
  go_enter Tryd.func40, Tryd.ntmps40
  go_wp2_with fail
  go_loopw [8] (fun i wr => ∃ k : Nat, k ≤ bs.length ∧ i = .int .i64 k ∧ Hid (wr = w.setRow g (bArr (xorL L (bs.take k))))) (fun i _ => bs.length - (intOf i).toNat)
  case atStart => exact ⟨0, by omega, rfl, H0⟩
  case round =>
    clear H0
    obtain ⟨k, hk, rfl, H⟩ := hrel
    by_cases hlt : k < bs.length
    · have hlen : (xorL L (bs.take k)).length = L.length := xorL_len _ _ (by have := Hl.out; simp; omega)
      obtain ⟨hs1, hs2⟩ := xorL_step L bs k Hl.out hlt
      have hkl : k < n := by omega
      have hkL : k < L.length := by have := Hn.out; omega
      have hrow2 : wr.heap[g]? = some (.cells (bArr (xorL L (bs.take k))) 5 (0, 0)) := by
        rw [H.out]; exact setRow_heap w g _ _ 5 _ Hrow.out
      have h1 : wr.cell? ⟨g, k, none⟩ = some (.int .u8 ((L.getD k 0).toNat : Int)) := by
        rw [cell_of_row _ _ _ _ _ _ hrow2, bArr_getD _ _ (by rw [hlen]; exact hkL), hs1]
      have hf : wr.frozen? ⟨g, k, none⟩ = false := frozen_of_row _ g k _ 5 hrow2
      have hBr : Below w0.heap.size w0 wr := by rw [H.out]; exact below_setRow HB.out hg _
      obtain ⟨ad, hA, hc⟩ := (Hr.out.below hBr) k hlt
      subst hA
      have hbk : bs.getD k 0 = bs[k] := by simp [List.getD, hlt]
      rw [hbk] at hs2
      simp only [vb] at hc
      have hst := setRow_set (C' := #[]) Hrow.out (xorL L (bs.take k)) k (L.getD k 0 ^^^ bs[k])
      rw [hs2, ← H.out] at hst
      have hx := u8_xor_cast (L.getD k 0) bs[k]
      generalize L.getD k 0 = a at *
      generalize bs[k] = b at *
      rw [← hx] at hst
      have Hst := Lib.hid hst
      clear hst hx hs1 hs2 hlen hrow2 hBr hbk hkL
      go_wp2_with fail
      exact ⟨⟨k + 1, by omega, by go_num, Lib.hid Hst.out⟩, by simp [intOf]; omega⟩
    · obtain rfl : k = bs.length := by omega
      have hw := H.out
      rw [List.take_length] at hw
      have Hw := Lib.hid hw
      clear hw H
      go_wp2_with fail
      go_end0
      exact ⟨rfl, Hw.out⟩
end Go.Proofs.YtfajgnaphekdhaaDoor
