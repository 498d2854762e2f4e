/- The reference's Find tells what parity.Find tells. No walk. -/
import Derived.Test.YtfajgnaphekdhaaDoorRfind
import Derived.Test.YtfajgnaphekdhaaDoorRmendc
import Derived.Test.YtfajgnaphekdhaaDoorPfind
namespace Go.Proofs.YtfajgnaphekdhaaDoor
open Go.RowKit
set_option linter.unusedSimpArgs false
set_option linter.unusedVariables false
theorem zeroB_iff (L : List UInt8) : zeroB L = true ↔ ∀ a, a < L.length → (L.getD a 0).toNat = 0 := by
  unfold zeroB
  rw [List.all_eq_true]
  constructor
  · intro h a ha
    have := h L[a] (List.getElem_mem ha)
    have e : L[a] = 0 := by simpa using this
    simp [List.getD, ha, e]
  · intro h b hb
    obtain ⟨a, ha, rfl⟩ := List.getElem_of_mem hb
    have := h a ha
    simp only [List.getD, List.getElem?_eq_getElem ha, Option.getD_some] at this
    have e : L[a] = 0 := UInt8.toNat_inj.1 (by simpa using this)
    simp [e]
theorem colP_set (a : Nat) : ∀ (D : List (List UInt8)) (i : Nat) (h : i < D.length), colP (colAt a (D.set i [])) = (D[i].getD a 0).toNat ^^^ colP (colAt a D)
  | [], i, h => by simp at h
  | b :: r, 0, h => by
    simp only [List.set_cons_zero, colAt, List.map_cons, colP, List.getElem_cons_zero]
    rw [← Nat.xor_assoc (b.getD a 0).toNat (b.getD a 0).toNat, Nat.xor_self, Nat.zero_xor]
    show 0 ^^^ _ = _
    rw [Nat.zero_xor]
  | b :: r, i + 1, h => by
    have ih := colP_set a r i (by simpa using h)
    simp only [List.set_cons_succ, colAt, List.map_cons, colP, List.getElem_cons_succ] at ih ⊢
    rw [ih, ← Nat.xor_assoc, Nat.xor_comm (b.getD a 0).toNat, Nat.xor_assoc]
theorem colQ_set (a : Nat) : ∀ (D : List (List UInt8)) (i j : Nat) (h : i < D.length), colQ j (colAt a (D.set i [])) = dblN (j + i) (D[i].getD a 0).toNat ^^^ colQ j (colAt a D)
  | [], i, j, h => by simp at h
  | b :: r, 0, j, h => by
    simp only [List.set_cons_zero, colAt, List.map_cons, colQ, List.getElem_cons_zero, Nat.add_zero]
    rw [← Nat.xor_assoc (dblN j (b.getD a 0).toNat) (dblN j (b.getD a 0).toNat), Nat.xor_self, Nat.zero_xor]
    show dblN j 0 ^^^ _ = _
    rw [dblN_zero, Nat.zero_xor]
  | b :: r, i + 1, j, h => by
    have ih := colQ_set a r i (j + 1) (by simpa using h)
    simp only [List.set_cons_succ, colAt, List.map_cons, colQ, List.getElem_cons_succ] at ih ⊢
    rw [ih, ← Nat.xor_assoc, Nat.xor_comm (dblN j (b.getD a 0).toNat), Nat.xor_assoc, show j + 1 + i = j + (i + 1) by omega]
theorem lostL_set : ∀ (D : List (List UInt8)) (k i : Nat), lostL k D = [] → i < D.length → lostL k (D.set i []) = [k + i]
  | [], k, i, _, h => by simp at h
  | b :: r, k, 0, h, _ => by
    simp only [lostL] at h
    split at h
    · cases h
    · simp only [List.set_cons_zero, lostL]
      rw [if_pos (show ([] : List UInt8).length = 0 from rfl), h, Nat.add_zero]
  | b :: r, k, i + 1, h, hi => by
    simp only [lostL] at h
    split at h
    · cases h
    · rename_i h0
      simp only [List.set_cons_succ, lostL]
      rw [if_neg h0, lostL_set r (k + 1) i h (by simpa using hi), show k + 1 + i = k + (i + 1) by omega]
theorem cw_none (p : Nat → Bool) : ∀ N, (∀ j, j < N → p j = false) → cw p N = (0, 0)
  | 0, _ => rfl
  | N + 1, h => by
    simp only [cw]
    rw [h N (by omega), if_neg (by decide), cw_none p N (fun j hj => h j (by omega))]
theorem cw_one (p : Nat → Bool) (i : Nat) (hi : p i = true) : ∀ N, i < N → (∀ j, j < N → j ≠ i → p j = false) → cw p N = (1, i)
  | 0, h, _ => by omega
  | N + 1, h, hj => by
    simp only [cw]
    by_cases hN : N = i
    · subst hN
      rw [hi, if_pos rfl, cw_none p N (fun j hjl => hj j (by omega) (by omega))]
    · rw [hj N (by omega) hN, if_neg (by decide), cw_one p i hi N (by omega) (fun j hjl => hj j (by omega))]
theorem dblN_zero_iff (k x : Nat) (h : x < 256) : dblN k x = 0 ↔ x = 0 := by
  constructor
  · intro e
    rw [← dblN_inv k x h, e, dblN_zero]
  · rintro rfl; exact dblN_zero k
theorem xor_zero_iff (a b : Nat) : a ^^^ b = 0 ↔ a = b := by
  constructor
  · intro h
    have : a ^^^ b ^^^ b = 0 ^^^ b := by rw [h]
    rwa [Nat.xor_assoc, Nat.xor_self, Nat.xor_zero, Nat.zero_xor] at this
  · rintro rfl; exact Nat.xor_self a
section
variable {sz n : Nat} {D : List (List UInt8)} {Pp Qq : List UInt8}
/-- the places of the sums -/
theorem sum_zero (hD : ∀ b ∈ D, b.length ≤ sz) (hP : Pp.length ≤ sz) : (zeroB (xorL (pAcc sz D.reverse) Pp) = true ↔ ∀ a, a < sz → (Pp.getD a 0).toNat = colP (colAt a D)) ∧ (zeroB (xorL (qAcc sz D.reverse) Pp) = true ↔ ∀ a, a < sz → (Pp.getD a 0).toNat = colQ 0 (colAt a D)) := by
  obtain ⟨l1, l2⟩ := acc_len (Pp := Pp) hD hP
  rw [zeroB_iff, zeroB_iff, l1, l2]
  refine ⟨?_, ?_⟩
  · refine forall_congr' fun a => imp_congr_right fun _ => ?_
    rw [(acc_get hD hP a).1, xor_zero_iff]
    exact eq_comm
  · refine forall_congr' fun a => imp_congr_right fun _ => ?_
    rw [(acc_get hD hP a).2, xor_zero_iff]
    exact eq_comm
theorem both_zero (hD : ∀ b ∈ D, b.length ≤ sz) (hP : Pp.length ≤ sz) (hQ : Qq.length ≤ sz) (i : Nat) : zeroB (xorL (mapK i (xorL (pAcc sz D.reverse) Pp)) (xorL (qAcc sz D.reverse) Qq)) = true ↔ ∀ a, a < sz → dblN i (colP (colAt a D) ^^^ (Pp.getD a 0).toNat) = colQ 0 (colAt a D) ^^^ (Qq.getD a 0).toNat := by
  obtain ⟨l1, _⟩ := acc_len (Pp := Pp) hD hP
  obtain ⟨_, l2⟩ := acc_len (Pp := Qq) hD hQ
  rw [zeroB_iff, xorL_len _ _ (by rw [mapK_len, l1, l2]; exact Nat.le_refl _), mapK_len, l1]
  refine forall_congr' fun a => imp_congr_right fun _ => ?_
  rw [xorL_get _ _ _ (by rw [mapK_len, l1, l2]; exact Nat.le_refl _), UInt8.toNat_xor, mapK_get, (acc_get hD hP a).1, (acc_get hD hQ a).2, xor_zero_iff]
end
theorem all_iff (n : Nat) (p : Nat → Bool) : (List.range n).all p = true ↔ ∀ a, a < n → p a = true := by
  rw [List.all_eq_true]
  exact ⟨fun h a ha => h a (List.mem_range.2 ha), fun h a ha => h a (List.mem_range.1 ha)⟩
theorem any_iff (n : Nat) (p : Nat → Bool) : (List.range n).any p = true ↔ ∃ a, a < n ∧ p a = true := by
  rw [List.any_eq_true]
  exact ⟨fun ⟨a, h1, h2⟩ => ⟨a, List.mem_range.1 h1, h2⟩, fun ⟨a, h1, h2⟩ => ⟨a, List.mem_range.2 h1, h2⟩⟩
theorem exN_1 (l : List (List UInt8)) : exN l 0 (((0 : Nat) : Int) + 1) = colP (colAt 0 l) := rfl
theorem exN_2 (l : List (List UInt8)) : exN l 0 (((0 + 1 : Nat) : Int) + 1) = colQ 0 (colAt 0 l) := rfl
/-- a piece is the wrong one: what level 2 tells, in numbers -/
theorem med_data (ls : List (List UInt8)) (n sz i : Nat) (hnm : n + 2 = ls.length) (hall : ∀ b ∈ ls, b.length = sz) (h0 : 0 < sz) (hi : i < n) (hl : lostL 0 (ls.take n) = []) (a : Nat) (ha : a < sz) :
    medAt n ls i a = true ↔ dblN i (colP (colAt a (ls.take n)) ^^^ ((ls.getD n []).getD a 0).toNat) = colQ 0 (colAt a (ls.take n)) ^^^ ((ls.getD (n + 1) []).getD a 0).toNat := by
  have hPl : (ls.getD n []).length = sz := by rw [getD_at (by omega)]; exact hall _ (List.getElem_mem _)
  have hQl : (ls.getD (n + 1) []).length = sz := by rw [getD_at (by omega)]; exact hall _ (List.getElem_mem _)
  have hD : (ls.take n).length = n := by simp; omega
  have e1 : (ls.set i []).take n = (ls.take n).set i [] := List.take_set
  have e2 : (ls.set i []).drop n = [ls.getD n [], ls.getD (n + 1) []] := by
    rw [List.drop_set_of_lt (by omega)]
    exact drop_two hnm
  have hlost := lostL_set (ls.take n) 0 i hl (by omega)
  unfold medAt
  rw [if_neg (by omega), any_iff]
  rw [e1, e2]
  have hx := colP_set a (ls.take n) i (by omega)
  have hy := colQ_set a (ls.take n) i 0 (by omega)
  have hbl := (((ls.take n)[i]'(by omega)).getD a 0).toNat_lt
  have hpl := ((ls.getD n []).getD a 0).toNat_lt
  have hcl := colP_lt a (ls.take n)
  rw [Nat.zero_add] at hy
  have step : ∀ x, x < 256 → (ftL a (fillC a [UInt8.ofNat x] ((ls.take n).set i [])) 0 [ls.getD n [], ls.getD (n + 1) []] = true ↔ ((ls.getD n []).getD a 0).toNat = x ^^^ ((((ls.take n)[i]'(by omega)).getD a 0).toNat ^^^ colP (colAt a (ls.take n))) ∧ ((ls.getD (n + 1) []).getD a 0).toNat = dblN i x ^^^ (dblN i (((ls.take n)[i]'(by omega)).getD a 0).toNat ^^^ colQ 0 (colAt a (ls.take n)))) := fun x hx256 => by
    rw [ftL_one _ _ _ _ _ (by omega), ftL_one _ _ _ _ _ (by omega)]
    simp only [ftL, Bool.and_true, Bool.and_eq_true, decide_eq_true_eq]
    rw [exN_1, exN_2]
    obtain ⟨f1, f2⟩ := fill_one a ((ls.take n).set i []) 0 (0 + i) 0 (UInt8.ofNat x) [] hlost
    rw [f1, f2, ofN x hx256, hx, hy, show 0 + (0 + i - 0) = i by omega]
  generalize (((ls.take n)[i]'(by omega)).getD a 0).toNat = b at *
  generalize ((ls.getD n []).getD a 0).toNat = p at *
  generalize ((ls.getD (n + 1) []).getD a 0).toNat = q at *
  generalize colP (colAt a (ls.take n)) = SP at *
  generalize colQ 0 (colAt a (ls.take n)) = SQ at *
  have key : ∀ x, (p = x ^^^ (b ^^^ SP) ∧ q = dblN i x ^^^ (dblN i b ^^^ SQ)) ↔ (x = SP ^^^ p ^^^ b ∧ dblN i (SP ^^^ p) = SQ ^^^ q) := fun x => by
    have hxx : p = x ^^^ (b ^^^ SP) ↔ x = SP ^^^ p ^^^ b := by
      rw [xor_swap]
      have : (b ^^^ SP) ^^^ p = SP ^^^ p ^^^ b := by rw [Nat.xor_assoc, Nat.xor_comm]
      rw [this]
    rw [hxx]
    constructor
    · rintro ⟨rfl, h⟩
      refine ⟨rfl, ?_⟩
      generalize SP ^^^ p = e at *
      rw [h, dblN_xor i e b, Nat.xor_assoc (dblN i e), ← Nat.xor_assoc (dblN i b) (dblN i b), Nat.xor_self, Nat.zero_xor, Nat.xor_comm (dblN i e) SQ, ← Nat.xor_assoc, Nat.xor_self, Nat.zero_xor]
    · rintro ⟨rfl, h⟩
      refine ⟨rfl, ?_⟩
      generalize SP ^^^ p = e at *
      rw [dblN_xor i e b, Nat.xor_assoc (dblN i e), ← Nat.xor_assoc (dblN i b) (dblN i b), Nat.xor_self, Nat.zero_xor, h, Nat.xor_comm SQ q, Nat.xor_assoc, Nat.xor_self, Nat.xor_zero]
  constructor
  · rintro ⟨x, hx1, hx2⟩
    exact ((key x).1 ((step x hx1).1 hx2)).2
  · intro h
    have hl : SP ^^^ p ^^^ b < 256 := Nat.xor_lt_two_pow (n := 8) (Nat.xor_lt_two_pow (n := 8) hcl hpl) hbl
    exact ⟨SP ^^^ p ^^^ b, hl, (step _ hl).2 ((key _).2 ⟨rfl, h⟩)⟩
theorem two_ne (x y : Nat) (hx : x < 16) (hy : y < 16) (h : dblN x 1 = dblN y 1) : x = y := by
  have hall : ((List.range 16).all fun x => (List.range 16).all fun y => x == y || dblN x 1 != dblN y 1) = true := by kernel_rfl
  have h1 := List.all_eq_true.1 (List.all_eq_true.1 hall x (List.mem_range.2 hx)) y (List.mem_range.2 hy)
  simp only [Bool.or_eq_true, beq_iff_eq, bne_iff_ne, ne_eq] at h1
  rcases h1 with h1 | h1
  · exact h1
  · exact absurd h h1
theorem dbl_ne (x y z : Nat) (hx : x < 16) (hy : y < 16) (hz : z < 256) (h0 : z ≠ 0) (h : dblN x z = dblN y z) : x = y := by
  obtain ⟨k, rfl⟩ := log z h0 hz
  rw [dblN_comm x, dblN_comm y] at h
  exact two_ne x y hx hy (dblN_inj k _ _ (dblN_lt _ _ (by decide)) (dblN_lt _ _ (by decide)) h)
theorem find2_eq (ls : List (List UInt8)) (n sz : Nat) (hnm : n + 2 = ls.length) (hall : ∀ b ∈ ls, b.length = sz) (h0 : 0 < sz) (hn16 : n ≤ 16) (hl : lostL 0 (ls.take n) = []) :
    (if wholeB sz n ls = true then ((0, -1) : Int × Int) else if (cw (med sz n ls) ls.length).1 = 1 then (0, ((cw (med sz n ls) ls.length).2 : Int)) else (11, 0)) = find2 n (xorL (pAcc sz (ls.take n).reverse) (ls.getD n [])) (xorL (qAcc sz (ls.take n).reverse) (ls.getD (n + 1) [])) := by
  have hPl : (ls.getD n []).length = sz := by rw [getD_at (by omega)]; exact hall _ (List.getElem_mem _)
  have hQl : (ls.getD (n + 1) []).length = sz := by rw [getD_at (by omega)]; exact hall _ (List.getElem_mem _)
  have hD : ∀ b ∈ ls.take n, b.length ≤ sz := fun b hb => by rw [hall b (List.mem_of_mem_take hb)]; exact Nat.le_refl _
  have hfn : ∀ a, colAt 0 (fillC a [] (ls.take n)) = colAt a (ls.take n) := fun a => fill_none a _ 0 [] hl
  obtain ⟨zP, _⟩ := sum_zero (Pp := ls.getD n []) hD (by omega)
  obtain ⟨_, zQ⟩ := sum_zero (Pp := ls.getD (n + 1) []) hD (by omega)
  have zB := fun i => both_zero (Pp := ls.getD n []) (Qq := ls.getD (n + 1) []) hD (by omega) (by omega) i
  have hwh : wholeB sz n ls = true ↔ zeroB (xorL (pAcc sz (ls.take n).reverse) (ls.getD n [])) = true ∧ zeroB (xorL (qAcc sz (ls.take n).reverse) (ls.getD (n + 1) [])) = true := by
    rw [zP, zQ]
    unfold wholeB
    rw [all_iff, drop_two hnm]
    have e : ∀ a, ftL a (fillC a [] (ls.take n)) 0 [ls.getD n [], ls.getD (n + 1) []] = true ↔ ((ls.getD n []).getD a 0).toNat = colP (colAt a (ls.take n)) ∧ ((ls.getD (n + 1) []).getD a 0).toNat = colQ 0 (colAt a (ls.take n)) := fun a => by
      rw [ftL_one _ _ _ _ _ (by omega), ftL_one _ _ _ _ _ (by omega)]
      simp only [ftL, Bool.and_true, Bool.and_eq_true, decide_eq_true_eq]
      rw [exN_1, exN_2, hfn]
    constructor
    · intro h; exact ⟨fun a ha => ((e a).1 (h a ha)).1, fun a ha => ((e a).1 (h a ha)).2⟩
    · rintro ⟨h1, h2⟩ a ha; exact (e a).2 ⟨h1 a ha, h2 a ha⟩
  have medn : med sz n ls n = true ↔ zeroB (xorL (qAcc sz (ls.take n).reverse) (ls.getD (n + 1) [])) = true := by
    rw [zQ]
    unfold med
    rw [all_iff]
    refine forall_congr' fun a => imp_congr_right fun _ => ?_
    unfold medAt
    have e1 : (ls.set n []).take n = ls.take n := List.take_set_of_le (Nat.le_refl _)
    have e2 : (ls.set n []).drop n = [[], ls.getD (n + 1) []] := by
      rw [drop_two (by simpa using hnm), getD_at (by simp; omega), getD_at (by simp; omega), getD_at (by omega)]
      simp
    rw [if_pos (Nat.le_refl _), e1, e2, ftL_empty _ _ _ _ _ rfl, ftL_one _ _ _ _ _ (by omega)]
    simp only [ftL, Bool.and_true, decide_eq_true_eq]
    rw [exN_2, hfn]
  have medn1 : med sz n ls (n + 1) = true ↔ zeroB (xorL (pAcc sz (ls.take n).reverse) (ls.getD n [])) = true := by
    rw [zP]
    unfold med
    rw [all_iff]
    refine forall_congr' fun a => imp_congr_right fun _ => ?_
    unfold medAt
    have e1 : (ls.set (n + 1) []).take n = ls.take n := List.take_set_of_le (by omega)
    have e2 : (ls.set (n + 1) []).drop n = [ls.getD n [], []] := by
      rw [drop_two (by simpa using hnm), getD_at (by simp; omega), getD_at (by simp; omega), getD_at (by omega)]
      simp
    rw [if_pos (by omega), e1, e2, ftL_one _ _ _ _ _ (by omega), ftL_empty _ _ _ _ _ rfl]
    simp only [ftL, Bool.and_true, decide_eq_true_eq]
    rw [exN_1, hfn]
  have medi : ∀ i, i < n → (med sz n ls i = true ↔ zeroB (xorL (mapK i (xorL (pAcc sz (ls.take n).reverse) (ls.getD n []))) (xorL (qAcc sz (ls.take n).reverse) (ls.getD (n + 1) []))) = true) := fun i hi => by
    rw [zB i]
    unfold med
    rw [all_iff]
    exact forall_congr' fun a => imp_congr_right fun ha => med_data ls n sz i hnm hall h0 hi hl a ha
  have hlp : ∀ a, colP (colAt a (ls.take n)) ^^^ ((ls.getD n []).getD a 0).toNat < 256 := fun a => Nat.xor_lt_two_pow (n := 8) (colP_lt _ _) (UInt8.toNat_lt _)
  -- Lp = 0 and a mended datum: Lq = 0; Lq = 0: Lp = 0
  have c1 : ∀ i, zeroB (xorL (mapK i (xorL (pAcc sz (ls.take n).reverse) (ls.getD n []))) (xorL (qAcc sz (ls.take n).reverse) (ls.getD (n + 1) []))) = true → zeroB (xorL (qAcc sz (ls.take n).reverse) (ls.getD (n + 1) [])) = true → zeroB (xorL (pAcc sz (ls.take n).reverse) (ls.getD n [])) = true := fun i h1 h2 => by
    rw [zB i] at h1
    rw [zQ] at h2
    rw [zP]
    intro a ha
    have e1 := h1 a ha
    rw [h2 a ha, Nat.xor_self, dblN_zero_iff _ _ (hlp a), xor_zero_iff] at e1
    exact e1.symm
  have c2 : ∀ i, zeroB (xorL (mapK i (xorL (pAcc sz (ls.take n).reverse) (ls.getD n []))) (xorL (qAcc sz (ls.take n).reverse) (ls.getD (n + 1) []))) = true → zeroB (xorL (pAcc sz (ls.take n).reverse) (ls.getD n [])) = true → zeroB (xorL (qAcc sz (ls.take n).reverse) (ls.getD (n + 1) [])) = true := fun i h1 h2 => by
    rw [zB i] at h1
    rw [zP] at h2
    rw [zQ]
    intro a ha
    have e1 := h1 a ha
    rw [h2 a ha, Nat.xor_self, dblN_zero] at e1
    exact ((xor_zero_iff _ _).1 e1.symm).symm
  have c3 : ∀ i j, i < n → j < n → zeroB (xorL (pAcc sz (ls.take n).reverse) (ls.getD n [])) ≠ true → zeroB (xorL (mapK i (xorL (pAcc sz (ls.take n).reverse) (ls.getD n []))) (xorL (qAcc sz (ls.take n).reverse) (ls.getD (n + 1) []))) = true → zeroB (xorL (mapK j (xorL (pAcc sz (ls.take n).reverse) (ls.getD n []))) (xorL (qAcc sz (ls.take n).reverse) (ls.getD (n + 1) []))) = true → i = j := fun i j hi hj hne h1 h2 => by
    rw [zB i] at h1
    rw [zB j] at h2
    rw [Ne, zP] at hne
    obtain ⟨a, ha, hna⟩ : ∃ a, a < sz ∧ ((ls.getD n []).getD a 0).toNat ≠ colP (colAt a (ls.take n)) := Classical.byContradiction fun h => hne fun a ha => Classical.byContradiction fun e => h ⟨a, ha, e⟩
    refine dbl_ne i j _ (by omega) (by omega) (hlp a) (fun e => hna ((xor_zero_iff _ _).1 e).symm) ((h1 a ha).trans (h2 a ha).symm)
  generalize xorL (pAcc sz (ls.take n).reverse) (ls.getD n []) = Lp at *
  generalize xorL (qAcc sz (ls.take n).reverse) (ls.getD (n + 1) []) = Lq at *
  have ff : ∀ b : Bool, ¬ b = true → b = false := fun b h => by cases b <;> simp_all
  unfold find2
  by_cases hw : wholeB sz n ls = true
  · rw [if_pos hw, if_pos (hwh.1 hw)]
  · rw [if_neg hw, if_neg (fun h => hw (hwh.2 h))]
    by_cases hq : zeroB Lq = true
    · have hp : ¬ zeroB Lp = true := fun h => hw (hwh.2 ⟨h, hq⟩)
      rw [if_pos hq]
      have e := cw_one (med sz n ls) n (medn.2 hq) ls.length (by omega) (fun j hj hne => ff _ fun hm => by
        rcases Nat.lt_or_ge j n with h | h
        · exact hp (c1 j ((medi j h).1 hm) hq)
        · obtain rfl : j = n + 1 := by omega
          exact hp (medn1.1 hm))
      rw [e, if_pos rfl]
    · rw [if_neg hq]
      by_cases hp : zeroB Lp = true
      · rw [if_pos hp]
        have e := cw_one (med sz n ls) (n + 1) (medn1.2 hp) ls.length (by omega) (fun j hj hne => ff _ fun hm => by
          rcases Nat.lt_or_ge j n with h | h
          · exact hq (c2 j ((medi j h).1 hm) hp)
          · obtain rfl : j = n := by omega
            exact hq (medn.1 hm))
        rw [e, if_pos rfl]
        rfl
      · rw [if_neg hp]
        cases hf : firstI Lp Lq n with
        | none =>
          unfold firstI at hf
          rw [List.find?_eq_none] at hf
          have e := cw_none (med sz n ls) ls.length (fun j hj => ff _ fun hm => by
            rcases Nat.lt_or_ge j n with h | h
            · exact hf j (List.mem_range.2 h) ((medi j h).1 hm)
            · rcases (show j = n ∨ j = n + 1 by omega) with rfl | rfl
              · exact hq (medn.1 hm)
              · exact hp (medn1.1 hm))
          rw [e, if_neg (by decide)]
        | some i =>
          unfold firstI at hf
          have hmem := List.mem_range.1 (List.mem_of_find?_eq_some hf)
          have hz := List.find?_some hf
          have e := cw_one (med sz n ls) i ((medi i hmem).2 hz) ls.length (by omega) (fun j hj hne => ff _ fun hm => by
            rcases Nat.lt_or_ge j n with h | h
            · exact hne (c3 j i h hmem hp ((medi j h).1 hm) hz)
            · rcases (show j = n ∨ j = n + 1 by omega) with rfl | rfl
              · exact hq (medn.1 hm)
              · exact hp (medn1.1 hm))
          rw [e, if_pos rfl]
theorem refFindR_eq (ls : List (List UInt8)) (lv : Int) : refFindR ls lv = findR ls lv := by
  have heq := lostL_len ls 0
  unfold refFindR findR
  by_cases hlv : lv < 0 ∨ 2 < lv
  · have hch : chkR ls lv = (0, 5) := by unfold chkR; rw [if_pos hlv]
    rw [if_pos hlv, hch, if_pos (by decide)]
  · rw [if_neg hlv]
    by_cases hn : refSize ls ((ls.length : Int) - lv) < 0
    · have hch : chkR ls lv = (0, 10) := by unfold chkR; rw [if_neg hlv, if_pos ((refSize_neg _ _).1 hn)]
      rw [if_pos (.inl hn), hch, if_pos (by decide)]
    · have hok : (sizedR ls ((ls.length : Int) - lv)).2 = true := by
        cases h : (sizedR ls ((ls.length : Int) - lv)).2
        · exact absurd ((refSize_neg _ _).2 h) hn
        · rfl
      have hch : chkR ls lv = ((sizedR ls ((ls.length : Int) - lv)).1, 0) := by unfold chkR; rw [if_neg hlv, if_neg (by rw [hok]; decide)]
      have hrs : refSize ls ((ls.length : Int) - lv) = (sizedR ls ((ls.length : Int) - lv)).1 := by unfold refSize; rw [hok, if_pos rfl]
      rcases chkR_cases ls lv with h | h | ⟨sz, n, m, h, rfl, hnm, k1, k2, k3, k4, k5, hsz⟩
      · rw [hch] at h; injection h with _ h; exact absurd h (by decide)
      · rw [hch] at h; injection h with _ h; exact absurd h (by decide)
      · have hrs2 : refSize ls ((ls.length : Int) - (m : Int)) = (sz : Int) := by
          rw [hrs]
          rw [hch] at h
          injection h
        rw [h, if_neg (show ¬ (((sz : Int), (0 : Int)).2 ≠ 0) by simp)]
        by_cases he : 0 < emptyN ls
        · have hlo : lostL 0 ls ≠ [] := fun e => by rw [e] at heq; simp at heq; omega
          rw [if_pos (.inr he), if_pos hlo]
        · have hlo : lostL 0 ls = [] := List.length_eq_zero_iff.1 (by omega)
          rw [if_neg (show ¬ (refSize ls ((ls.length : Int) - (m : Int)) < 0 ∨ 0 < emptyN ls) by rintro (h | h); exact hn h; exact he h), if_neg (show ¬ (lostL 0 ls ≠ []) by simp [hlo]), hrs2]
          simp only [Int.toNat_natCast, show ls.length - m = n by omega]
          have he0 := (emptyN_zero ls).1 (by omega)
          have hall : ∀ b ∈ ls, b.length = sz := fun b hb => szL_eq ls 0 sz hsz b hb (by have := he0 b hb; omega)
          have hlD : lostL 0 (ls.take n) = [] := by
            have := lostL_append (ls.take n) (ls.drop n) 0
            rw [List.take_append_drop, hlo] at this
            exact (List.append_eq_nil_iff.1 this.symm).1
          have hD : ∀ b ∈ ls.take n, b.length ≤ sz := fun b hb => by rw [hall b (List.mem_of_mem_take hb)]; exact Nat.le_refl _
          rcases (show m = 0 ∨ m = 1 ∨ m = 2 by omega) with rfl | rfl | rfl
          · have hw : wholeB sz n ls = true := by
              unfold wholeB
              rw [all_iff]
              intro a _
              rw [List.drop_of_length_le (by omega)]
              rfl
            rw [if_pos hw]
            rfl
          · have hPl : (ls.getD n []).length = sz := by rw [getD_at (by omega)]; exact hall _ (List.getElem_mem _)
            have zP := (sum_zero (Pp := ls.getD n []) hD (by omega)).1
            have hwh : wholeB sz n ls = true ↔ zeroB (xorL (pAcc sz (ls.take n).reverse) (ls.getD n [])) = true := by
              rw [zP]
              unfold wholeB
              rw [all_iff, drop_one hnm]
              refine forall_congr' fun a => imp_congr_right fun _ => ?_
              rw [ftL_one _ _ _ _ _ (by omega)]
              simp only [ftL, Bool.and_true, decide_eq_true_eq]
              rw [exN_1, fill_none a _ 0 [] hlD]
            show _ = (if zeroB (xorL (pAcc sz (ls.take n).reverse) (ls.getD n [])) = true then ((0, -1) : Int × Int) else (11, 0))
            by_cases hw : wholeB sz n ls = true
            · rw [if_pos hw, if_pos (hwh.1 hw)]
            · rw [if_neg hw, if_neg (fun h => hw (hwh.2 h)), if_neg (by omega)]
          · have e := find2_eq ls n sz hnm hall k1 k4 hlD
            show _ = find2 n _ _
            rw [← e]
            simp
end Go.Proofs.YtfajgnaphekdhaaDoor
