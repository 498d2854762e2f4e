/- Walks of pad.add again, where the piece may lie anywhere but in the row itself, and of slices.Clone at pieces and at pads; worlds that are alike but for some rows. -/
import Derived.Test.YtfajgnaphekdhaaDoorPtm
import Derived.Laws.Cover3
namespace Go.Proofs.YtfajgnaphekdhaaDoor
open Go.RowKit
set_option linter.unusedSimpArgs false
set_option linter.unusedVariables false
set_option maxHeartbeats 1000000 in
set_option maxRecDepth 100000 in
theorem add2_calls (w : World) (g : Nat) (L bs : List UInt8) (A : Option Addr) (c cap n : Nat) (hrow : w.heap[g]? = some (.cells (bArr L) 5 (0, 0))) (hr : ∀ L' : List UInt8, Rd (w.setRow g (bArr L')) A bs) (hl : bs.length ≤ n) (hnL : n ≤ L.length) (hs : n ≤ 4096) :
    Calls Tryd.prog 40 #[.slice (some ⟨g, 0, none⟩) n cap, .slice A bs.length c] w fun e w' => e = .returned (.tuple #[]) ∧ w' = w.setRow g (bArr (xorL L bs)) := by
  have h0 : w = w.setRow g (bArr (xorL L (bs.take 0))) := by
    rw [List.take_zero, xorL_nil, setRow_self w g _ 5 (0, 0) hrow]
  have H0 := Lib.hid h0
  clear h0
  have Hrow := Lib.hid hrow
  have Hr := Lib.hid hr
  have Hl := Lib.hid hl
  have Hn := Lib.hid hnL
  clear hrow hr hnL
  go_enter Tryd.func40, Tryd.ntmps40
  go_wp2_with fail
  go_loopw [8] (fun i wr => ∃ k : Nat, k ≤ bs.length ∧ i = .int .i64 k ∧ Hid (wr = w.setRow g (bArr (xorL L (bs.take k))))) (fun i _ => bs.length - (intOf i).toNat)
  case atStart => exact ⟨0, by omega, rfl, H0⟩
  case round =>
    clear H0
    obtain ⟨k, hk, rfl, H⟩ := hrel
    by_cases hlt : k < bs.length
    · have hlL : bs.length ≤ L.length := Nat.le_trans hl Hn.out
      have hlen : (xorL L (bs.take k)).length = L.length := xorL_len _ _ (by simp; omega)
      obtain ⟨hs1, hs2⟩ := xorL_step L bs k hlL hlt
      have hkl : k < n := by omega
      have hkL : k < L.length := by omega
      have hrow2 : wr.heap[g]? = some (.cells (bArr (xorL L (bs.take k))) 5 (0, 0)) := by
        rw [H.out]; exact setRow_heap w g _ _ 5 _ Hrow.out
      have h1 : wr.cell? ⟨g, k, none⟩ = some (.int .u8 ((L.getD k 0).toNat : Int)) := by
        rw [cell_of_row _ _ _ _ _ _ hrow2, bArr_getD _ _ (by rw [hlen]; exact hkL), hs1]
      have hf : wr.frozen? ⟨g, k, none⟩ = false := frozen_of_row _ g k _ 5 hrow2
      have hrr : Rd wr A bs := by rw [H.out]; exact Hr.out _
      obtain ⟨ad, hA, hc⟩ := hrr k hlt
      subst hA
      have hbk : bs.getD k 0 = bs[k] := by simp [List.getD, hlt]
      rw [hbk] at hs2
      simp only [vb] at hc
      have hst := setRow_set (C' := #[]) Hrow.out (xorL L (bs.take k)) k (L.getD k 0 ^^^ bs[k])
      rw [hs2, ← H.out] at hst
      have hx := u8_xor_cast (L.getD k 0) bs[k]
      generalize L.getD k 0 = a at *
      generalize bs[k] = b at *
      rw [← hx] at hst
      have Hst := Lib.hid hst
      clear hst hx hs1 hs2 hlen hrow2 hbk hkL hlL hrr
      go_wp2_with fail
      exact ⟨⟨k + 1, by omega, by go_num, Lib.hid Hst.out⟩, by simp [intOf]; omega⟩
    · obtain rfl : k = bs.length := by omega
      have hw := H.out
      rw [List.take_length] at hw
      have Hw := Lib.hid hw
      clear hw H
      go_wp2_with fail
      go_end0
      exact ⟨rfl, Hw.out⟩
/-- a slice of bytes of its own: empty, or the beginning of a row from block B on -/
def ElG (W : World) (B : Nat) (v : Value) (bs : List UInt8) : Prop := ∃ A c, v = .slice A bs.length c ∧ bs.length ≤ c ∧ (bs = [] ∨ ∃ b X, A = some ⟨b, 0, none⟩ ∧ B ≤ b ∧ b < W.heap.size ∧ W.heap[b]? = some (.cells (bArr (bs ++ X)) 5 (0, 0)))
theorem ElG.below {W W' : World} {B : Nat} {v : Value} {bs : List UInt8} (h : ElG W B v bs) (hb : Below W.heap.size W W') : ElG W' B v bs := by
  obtain ⟨A, c, h1, h2, h3⟩ := h
  refine ⟨A, c, h1, h2, ?_⟩
  rcases h3 with h3 | ⟨b, X, e1, e2, e3, e4⟩
  · exact .inl h3
  · exact .inr ⟨b, X, e1, e2, Nat.lt_of_lt_of_le e3 hb.size, (hb.block b e3).trans e4⟩
theorem ElG.mono {W : World} {B B' : Nat} {v : Value} {bs : List UInt8} (h : ElG W B v bs) (hB : B' ≤ B) : ElG W B' v bs := by
  obtain ⟨A, c, h1, h2, h3⟩ := h
  refine ⟨A, c, h1, h2, ?_⟩
  rcases h3 with h3 | ⟨b, X, e1, e2, e3⟩
  · exact .inl h3
  · exact .inr ⟨b, X, e1, Nat.le_trans hB e2, e3⟩
theorem ElG.rd {W : World} {B : Nat} {v : Value} {bs : List UInt8} (h : ElG W B v bs) : ∃ A c, v = .slice A bs.length c ∧ Rd W A bs ∧ bs.length ≤ c := by
  obtain ⟨A, c, h1, h2, h3⟩ := h
  refine ⟨A, c, h1, ?_, h2⟩
  rcases h3 with h3 | ⟨b, X, e1, e2, e3, e4⟩
  · intro j hj; rw [h3] at hj; simp at hj
  · rw [e1]; exact Rd.block e4 ⟨X, rfl⟩
theorem eql_nil {P : Program} (w : World) (t e : TypeId) (a : Option Addr) (l c : Nat) (h : P.underlying t = some (.slice e)) : (binOp .eql t (.slice a l c) (.slice none 0 0)).run P w = .ok (.bool a.isNone) w := by
  simp only [binOp]
  simp [run_equal_slice_nil w t e a l c h]
set_option maxHeartbeats 1000000 in
set_option maxRecDepth 100000 in
theorem clone_calls (A : Option Addr) (c : Nat) (bs : List UInt8) (w : World) (hr : Rd w A bs) (hn : bs.length ≤ 140737488351232) :
    Calls Tryd.prog 39 #[.slice A bs.length c] w fun e W' => ∃ v, e = .returned v ∧ ElG W' w.heap.size v bs ∧ Below w.heap.size w W' := by
  obtain ⟨i5, hi, hz0, hz1, hz2⟩ := info_parts info5
  cases A with
  | none =>
    have hb : bs = [] := by
      cases bs with
      | nil => rfl
      | cons b r => obtain ⟨ad, he, _⟩ := hr 0 (by simp); cases he
    subst hb
    clear hr hn
    have heq := fun W l c => eql_nil (P := Tryd.prog) W 33 5 none l c Tryd.underlying33
    go_enter Tryd.func39, Tryd.ntmps39
    go_wp2_with fail
    all_goals
      go_ret
      exact ⟨_, rfl, ⟨none, 0, rfl, Nat.le_refl _, .inl rfl⟩, Below.refl _ _⟩
  | some a =>
    have heq := fun W l c => eql_nil (P := Tryd.prog) W 33 5 (some a) l c Tryd.underlying33
    have hem := run_emptySlice (P := Tryd.prog) w 33 5 i5 Tryd.underlying33 hi
    have hba : Below w.heap.size w (w.alloc (.cells #[] 5)) := (Below.refl _ _).alloc (Nat.le_refl _) _
    obtain ⟨g', Z, w', r1, r2, r3, r4⟩ := run_append_lit (P := Tryd.prog) (w.alloc (.cells #[] 5)) 33 33 5 i5 Tryd.underlying33 hi hz0 hz1 hz2 w.heap.size (heap_alloc_new w _) (some a) c bs (hr.below hba) hn
    have HF := Lib.hid (show ElG w' w.heap.size (.slice (some ⟨g', 0, none⟩) bs.length (bs.length + Z)) bs ∧ Below w.heap.size w w' from ⟨⟨_, _, rfl, by omega, .inr ⟨g', _, rfl, r4, (Array.getElem?_eq_some_iff.1 r2).1, r2⟩⟩, hba.trans (r3.mono (by simp))⟩)
    have R1 := Lib.hid r1
    clear r1 r2 r3 r4 hba hr
    go_enter Tryd.func39, Tryd.ntmps39
    go_wp2_with (at_builtin; go_must (refine wpList_append_run rfl (.tmp 5) (.tmp 6) 33 33 rfl rfl rfl (by exact R1.out) ?_))
    go_ret
    exact ⟨_, rfl, HF.out.1, HF.out.2⟩
set_option maxHeartbeats 1000000 in
set_option maxRecDepth 100000 in
theorem clonep_calls (a : Addr) (c : Nat) (bs : List UInt8) (w : World) (hr : Rd w (some a) bs) (hn : bs.length ≤ 140737488351232) :
    Calls Tryd.prog 46 #[.slice (some a) bs.length c] w fun e W' => ∃ g X c', e = .returned (.slice (some ⟨g, 0, none⟩) bs.length c') ∧ w.heap.size ≤ g ∧ W'.heap[g]? = some (.cells (bArr (bs ++ X)) 5 (0, 0)) ∧ Below w.heap.size w W' := by
  obtain ⟨i5, hi, hz0, hz1, hz2⟩ := info_parts info5
  have heq := fun W l c => eql_nil (P := Tryd.prog) W 57 5 (some a) l c Tryd.underlying57
  have hem := run_emptySlice (P := Tryd.prog) w 57 5 i5 Tryd.underlying57 hi
  have hba : Below w.heap.size w (w.alloc (.cells #[] 5)) := (Below.refl _ _).alloc (Nat.le_refl _) _
  obtain ⟨g', Z, w', r1, r2, r3, r4⟩ := run_append_lit (P := Tryd.prog) (w.alloc (.cells #[] 5)) 57 57 5 i5 Tryd.underlying57 hi hz0 hz1 hz2 w.heap.size (heap_alloc_new w _) (some a) c bs (hr.below hba) hn
  have HF := Lib.hid (And.intro r4 (And.intro r2 (hba.trans (r3.mono (by simp)))))
  have R1 := Lib.hid r1
  clear r1 r2 r3 r4 hba hr
  go_enter Tryd.func46, Tryd.ntmps46
  go_wp2_with (at_builtin; go_must (refine wpList_append_run rfl (.tmp 5) (.tmp 6) 57 57 rfl rfl rfl (by exact R1.out) ?_))
  go_ret
  exact ⟨g', _, _, rfl, HF.out.1, HF.out.2.1, HF.out.2.2⟩
end Go.Proofs.YtfajgnaphekdhaaDoor
