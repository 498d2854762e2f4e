/- The piece that was turned is found; which pieces are odd. No walk. -/
import Derived.Test.YtfajgnaphekdhaaDoorPbk
namespace Go.Proofs.YtfajgnaphekdhaaDoor
open Go.RowKit
set_option linter.unusedSimpArgs false
set_option linter.unusedVariables false
theorem xor_move {p q r s : Nat} (h : p ^^^ q = r ^^^ s) : q = p ^^^ (r ^^^ s) := by
  rw [← h, ← Nat.xor_assoc, Nat.xor_self, Nat.zero_xor]
theorem colP_setb (a : Nat) (D : List (List UInt8)) (i : Nat) (b : List UInt8) (h : i < D.length) : colP (colAt a (D.set i b)) = (b.getD a 0).toNat ^^^ ((D[i].getD a 0).toNat ^^^ colP (colAt a D)) := by
  have h1 := colP_set a (D.set i b) i (by simpa using h)
  rw [List.set_set, List.getElem_set_self, colP_set a D i h] at h1
  exact xor_move h1.symm
theorem colQ_setb (a : Nat) (D : List (List UInt8)) (i : Nat) (b : List UInt8) (h : i < D.length) : colQ 0 (colAt a (D.set i b)) = dblN i (b.getD a 0).toNat ^^^ (dblN i (D[i].getD a 0).toNat ^^^ colQ 0 (colAt a D)) := by
  have h1 := colQ_set a (D.set i b) i 0 (by simpa using h)
  rw [List.set_set, List.getElem_set_self, colQ_set a D i 0 h, Nat.zero_add] at h1
  exact xor_move h1.symm
section
variable (L : List (List UInt8)) (sz : Nat)
variable (hL : ∀ b ∈ L, b.length = sz) (h0 : 0 < sz) (hs : sz ≤ 4096) (hn : 1 ≤ L.length) (hn2 : L.length ≤ 16)
include hL h0 hs hn hn2 in
theorem find_back (i : Nat) (b : List UInt8) (hi : i < L.length + 2) (hb : b.length = sz) (c : List UInt8) (hc : (L ++ pq L sz 2).getD i [] = c) : findR ((L ++ pq L sz 2).set i b) 2 = (0, if b = c then -1 else (i : Int)) := by
  have hAl := pq_len L sz hL 2
  have hAlen : (L ++ pq L sz 2).length = L.length + 2 := by simp [pq]
  obtain ⟨Y, hY⟩ : ∃ Y, (L ++ pq L sz 2).set i b = Y := ⟨_, rfl⟩
  have hYlen : Y.length = L.length + 2 := by rw [← hY]; simpa using hAlen
  have hYl : ∀ x ∈ Y, x.length = sz := fun x hx => by
    rw [← hY] at hx
    rcases List.mem_or_eq_of_mem_set hx with hx | rfl
    · exact hAl x hx
    · exact hb
  have hclen : c.length = sz := by
    rw [← hc, getD_at (by omega)]; exact hAl _ (List.getElem_mem _)
  have hsz := szL_zero sz h0 Y (fun x hx => .inr (hYl x hx)) ⟨Y[0]'(by omega), List.getElem_mem _, hYl _ (List.getElem_mem _)⟩
  have hch := chk_ok Y L.length 2 sz hYlen (Nat.le_refl _) h0 hs hn hn2 hsz
  have hlo : lostL 0 Y = [] := (lostL_nil Y 0).2 fun x hx => by rw [hYl x hx]; omega
  have hle1 : (pAcc sz L.reverse).length = sz := pAcc_len sz _ fun b hb => by rw [hL b (List.mem_reverse.1 hb)]; exact Nat.le_refl _
  have hle2 : (qAcc sz L.reverse).length = sz := qAcc_len sz _ fun b hb => by rw [hL b (List.mem_reverse.1 hb)]; exact Nat.le_refl _
  have hDle : ∀ x ∈ Y.take L.length, x.length ≤ sz := fun x hx => by rw [hYl x (List.mem_of_mem_take hx)]; exact Nat.le_refl _
  rw [hY]
  unfold findR
  rw [show chkR Y 2 = ((sz : Int), 0) from hch, if_neg (show ¬ (((sz : Int), (0 : Int)).2 ≠ 0) by simp), if_neg (by simp [hlo])]
  show findOut sz (Y.length - 2) Y 2 = _
  rw [hYlen, Nat.add_sub_cancel]
  show find2 L.length (xorL (pAcc sz (Y.take L.length).reverse) (Y.getD L.length [])) (xorL (qAcc sz (Y.take L.length).reverse) (Y.getD (L.length + 1) [])) = _
  have hPl : (Y.getD L.length []).length = sz := by rw [getD_at (by omega)]; exact hYl _ (List.getElem_mem _)
  have hQl : (Y.getD (L.length + 1) []).length = sz := by rw [getD_at (by omega)]; exact hYl _ (List.getElem_mem _)
  have zP := (sum_zero (Pp := Y.getD L.length []) hDle (by omega)).1
  have zQ := (sum_zero (Pp := Y.getD (L.length + 1) []) hDle (by omega)).2
  have zB := fun j => both_zero (Pp := Y.getD L.length []) (Qq := Y.getD (L.length + 1) []) hDle (by omega) (by omega) j
  have hbc := list_iff hb hclen
  have hp0 := p0_get L sz hL
  have hq0 := q0_get L sz hL
  have hAn : (L ++ pq L sz 2).getD L.length [] = pAcc sz L.reverse := by
    rw [getD_at (by omega), List.getElem_append_right (by omega)]; simp [pq]
  have hAn1 : (L ++ pq L sz 2).getD (L.length + 1) [] = qAcc sz L.reverse := by
    rw [getD_at (by omega), List.getElem_append_right (by omega)]; simp [pq]
  have ff : ∀ b : Bool, ¬ b = true → b = false := fun b h => by cases b <;> simp_all
  unfold find2
  rcases (show i < L.length ∨ i = L.length ∨ i = L.length + 1 by omega) with hi1 | rfl | rfl
  · have hD : Y.take L.length = L.set i b := by rw [← hY, List.take_set, List.take_left]
    have hYn : Y.getD L.length [] = pAcc sz L.reverse := by
      rw [← hAn, ← hY, getD_at (by simp [pq]), getD_at (by omega), List.getElem_set_ne (by omega)]
    have hYn1 : Y.getD (L.length + 1) [] = qAcc sz L.reverse := by
      rw [← hAn1, ← hY, getD_at (by simp [pq]), getD_at (by omega), List.getElem_set_ne (by omega)]
    have hci : c = L[i] := by rw [← hc, getD_at (by omega), List.getElem_append_left hi1]
    have eP : ∀ a, colP (colAt a (Y.take L.length)) ^^^ ((Y.getD L.length []).getD a 0).toNat = (b.getD a 0).toNat ^^^ (c.getD a 0).toNat := fun a => by
      rw [hD, hYn, hp0, colP_setb a L i b hi1, hci, Nat.xor_assoc, Nat.xor_assoc, Nat.xor_self, Nat.xor_zero]
    have eQ : ∀ a, colQ 0 (colAt a (Y.take L.length)) ^^^ ((Y.getD (L.length + 1) []).getD a 0).toNat = dblN i ((b.getD a 0).toNat ^^^ (c.getD a 0).toNat) := fun a => by
      rw [hD, hYn1, hq0, colQ_setb a L i b hi1, hci, Nat.xor_assoc, Nat.xor_assoc, Nat.xor_self, Nat.xor_zero, dblN_xor]
    have hel : ∀ a, (b.getD a 0).toNat ^^^ (c.getD a 0).toNat < 256 := fun a => Nat.xor_lt_two_pow (n := 8) (UInt8.toNat_lt _) (UInt8.toNat_lt _)
    have zP2 : zeroB (xorL (pAcc sz (Y.take L.length).reverse) (Y.getD L.length [])) = true ↔ b = c := by
      rw [zP, hbc]
      refine forall_congr' fun a => imp_congr_right fun _ => ?_
      rw [eq_comm, ← xor_zero_iff, eP, xor_zero_iff]
    have zQ2 : zeroB (xorL (qAcc sz (Y.take L.length).reverse) (Y.getD (L.length + 1) [])) = true ↔ b = c := by
      rw [zQ, hbc]
      refine forall_congr' fun a => imp_congr_right fun _ => ?_
      rw [eq_comm, ← xor_zero_iff, eQ, dblN_zero_iff _ _ (hel a), xor_zero_iff]
    by_cases hbe : b = c
    · rw [if_pos ⟨zP2.2 hbe, zQ2.2 hbe⟩, if_pos hbe]
    · rw [if_neg (fun h => hbe (zP2.1 h.1)), if_neg (fun h => hbe (zQ2.1 h)), if_neg (fun h => hbe (zP2.1 h)), if_neg hbe]
      obtain ⟨a0, ha0, hne⟩ : ∃ a, a < sz ∧ (b.getD a 0).toNat ≠ (c.getD a 0).toNat := Classical.byContradiction fun h => hbe (hbc.2 fun a ha => Classical.byContradiction fun e => h ⟨a, ha, e⟩)
      have hf : firstI (xorL (pAcc sz (Y.take L.length).reverse) (Y.getD L.length [])) (xorL (qAcc sz (Y.take L.length).reverse) (Y.getD (L.length + 1) [])) L.length = some i := by
        unfold firstI
        rw [List.find?_range_eq_some]
        refine ⟨(zB i).2 fun a _ => by rw [eP, eQ], List.mem_range.2 hi1, fun j hj => ?_⟩
        cases hz : zeroB (xorL (mapK j (xorL (pAcc sz (Y.take L.length).reverse) (Y.getD L.length []))) (xorL (qAcc sz (Y.take L.length).reverse) (Y.getD (L.length + 1) [])))
        · simp [hz]
        · exfalso
          have := (zB j).1 hz a0 ha0
          rw [eP, eQ] at this
          have := dbl_ne j i _ (by omega) (by omega) (hel a0) (fun e => hne ((xor_zero_iff _ _).1 e)) this
          omega
      rw [hf]
  · have hD : Y.take L.length = L := by rw [← hY, List.take_set_of_le (Nat.le_refl _), List.take_left]
    have hYn : Y.getD L.length [] = b := by rw [← hY, getD_at (by simp [pq])]; simp
    have hYn1 : Y.getD (L.length + 1) [] = qAcc sz L.reverse := by
      rw [← hAn1, ← hY, getD_at (by simp [pq]), getD_at (by omega), List.getElem_set_ne (by omega)]
    have hci : c = pAcc sz L.reverse := by rw [← hc, hAn]
    have zP2 : zeroB (xorL (pAcc sz (Y.take L.length).reverse) (Y.getD L.length [])) = true ↔ b = c := by
      rw [zP, hbc]
      refine forall_congr' fun a => imp_congr_right fun _ => ?_
      rw [hYn, hD, hci, hp0]
    have zQ2 : zeroB (xorL (qAcc sz (Y.take L.length).reverse) (Y.getD (L.length + 1) [])) = true := by
      rw [zQ]
      intro a _
      rw [hYn1, hD, hq0]
    by_cases hbe : b = c
    · rw [if_pos ⟨zP2.2 hbe, zQ2⟩, if_pos hbe]
    · rw [if_neg (fun h => hbe (zP2.1 h.1)), if_pos zQ2, if_neg hbe]
  · have hD : Y.take L.length = L := by rw [← hY, List.take_set_of_le (by omega), List.take_left]
    have hYn : Y.getD L.length [] = pAcc sz L.reverse := by
      rw [← hAn, ← hY, getD_at (by simp [pq]), getD_at (by omega), List.getElem_set_ne (by omega)]
    have hYn1 : Y.getD (L.length + 1) [] = b := by rw [← hY, getD_at (by simp [pq])]; simp
    have hci : c = qAcc sz L.reverse := by rw [← hc, hAn1]
    have zP2 : zeroB (xorL (pAcc sz (Y.take L.length).reverse) (Y.getD L.length [])) = true := by
      rw [zP]
      intro a _
      rw [hYn, hD, hp0]
    have zQ2 : zeroB (xorL (qAcc sz (Y.take L.length).reverse) (Y.getD (L.length + 1) [])) = true ↔ b = c := by
      rw [zQ, hbc]
      refine forall_congr' fun a => imp_congr_right fun _ => ?_
      rw [hYn1, hD, hci, hq0]
    by_cases hbe : b = c
    · rw [if_pos ⟨zP2, zQ2.2 hbe⟩, if_pos hbe]
    · rw [if_neg (fun h => hbe (zQ2.1 h.2)), if_neg (fun h => hbe (zQ2.1 h)), if_pos zP2, if_neg hbe]
      rfl
end
/-- pieces are not as they may be -/
def oddB (L : List (List UInt8)) : Bool := (L.any fun b => b.length != (L.getD 0 []).length || decide (4096 < b.length)) || (L.length == 0 || (L.getD 0 []).length == 0)
theorem odd_false (L : List (List UInt8)) (h : oddB L = false) : ∃ sz, 0 < sz ∧ sz ≤ 4096 ∧ 1 ≤ L.length ∧ ∀ b ∈ L, b.length = sz := by
  unfold oddB at h
  simp only [Bool.or_eq_false_iff, List.any_eq_false, beq_eq_false_iff_ne, ne_eq, Bool.or_eq_true, bne_iff_ne, decide_eq_true_eq, not_or, Decidable.not_not] at h
  obtain ⟨h1, h2, h3⟩ := h
  refine ⟨(L.getD 0 []).length, by omega, ?_, by omega, fun b hb => (h1 b hb).1⟩
  have := h1 (L.getD 0 []) (by rw [getD_at (by omega)]; exact List.getElem_mem _)
  omega
theorem makeR_odd (L : List (List UInt8)) (lv : Nat) (hlv : lv ≤ 2) (hn2 : L.length ≤ 16) : makeR L (lv : Int) = if oddB L = true then (10, []) else (0, pq L (L.getD 0 []).length lv) := by
  cases ho : oddB L
  · rw [if_neg (by decide)]
    obtain ⟨sz, h0, hs, hn, hL⟩ := odd_false L ho
    have e0 : (L.getD 0 []).length = sz := by rw [getD_at (by omega)]; exact hL _ (List.getElem_mem _)
    have hsz := szL_zero sz h0 L (fun x hx => .inr (hL x hx)) ⟨L[0]'(by omega), List.getElem_mem _, hL _ (List.getElem_mem _)⟩
    have hlo : lostL 0 L = [] := (lostL_nil L 0).2 fun x hx => by rw [hL x hx]; omega
    have hz : sizedR L (L.length : Int) = ((sz : Int), true) := by
      unfold sizedR
      rw [hsz]
      show ((sz : Int), szOk sz (L.length : Int)) = _
      congr 1
      unfold szOk
      rw [decide_eq_true h0, decide_eq_true hs, decide_eq_true (show (1 : Int) ≤ (L.length : Int) by omega), decide_eq_true (show (L.length : Int) ≤ 16 by omega)]
      rfl
    unfold makeR
    rw [if_neg (by omega), hz, if_neg (by simp [hlo]), e0]
    simp only [Int.toNat_natCast]
    rfl
  · rw [if_pos rfl]
    unfold makeR
    rw [if_neg (by omega)]
    by_cases hc : (sizedR L (L.length : Int)).2 = false ∨ lostL 0 L ≠ []
    · rw [if_pos hc]
    · exfalso
      have hz2 : (sizedR L (L.length : Int)).2 = true := by
        cases h : (sizedR L (L.length : Int)).2
        · exact absurd (.inl h) hc
        · rfl
      have hlo : lostL 0 L = [] := Classical.byContradiction fun h => hc (.inr h)
      have hne := (lostL_nil L 0).1 hlo
      unfold sizedR at hz2
      cases hz : szL 0 L with
      | none => rw [hz] at hz2; cases hz2
      | some s =>
        rw [hz] at hz2
        obtain ⟨k1, k2, k3, k4⟩ := szOk_true hz2
        have hL : ∀ b ∈ L, b.length = s := fun b hb => szL_eq L 0 s hz b hb (by have := hne b hb; omega)
        have e0 : (L.getD 0 []).length = s := by rw [getD_at (by omega)]; exact hL _ (List.getElem_mem _)
        have : oddB L = false := by
          unfold oddB
          simp only [Bool.or_eq_false_iff, List.any_eq_false, beq_eq_false_iff_ne, ne_eq, Bool.or_eq_true, bne_iff_ne, decide_eq_true_eq, not_or, Decidable.not_not]
          refine ⟨fun b hb => ?_, by omega, by omega⟩
          rw [hL b hb, e0]
          omega
        rw [this] at ho
        cases ho
end Go.Proofs.YtfajgnaphekdhaaDoor
