/- There is one way alone in which lost bytes fit: what is computed. No walk. -/
import Derived.Test.YtfajgnaphekdhaaDoorRmend
namespace Go.Proofs.YtfajgnaphekdhaaDoor
open Go.RowKit
set_option linter.unusedSimpArgs false
set_option linter.unusedVariables false
theorem fill_none (a : Nat) : ∀ (D : List (List UInt8)) (i : Nat) (fl : List UInt8), lostL i D = [] → colAt 0 (fillC a fl D) = colAt a D
  | [], _, _, _ => rfl
  | b :: r, i, fl, h => by
    simp only [lostL] at h
    split at h
    · cases h
    · rename_i h0
      simp only [fillC]
      rw [if_neg h0]
      have := fill_none a r (i + 1) fl h
      simp only [colAt, List.map_cons] at this ⊢
      rw [this]
      rfl
theorem getD_empty {b : List UInt8} (h : b.length = 0) (a : Nat) : (b.getD a 0).toNat = 0 := by
  rw [List.length_eq_zero_iff.1 h]; rfl
theorem fill_one (a : Nat) : ∀ (D : List (List UInt8)) (i x j : Nat) (f : UInt8) (fl : List UInt8), lostL i D = [x] →
    colP (colAt 0 (fillC a (f :: fl) D)) = f.toNat ^^^ colP (colAt a D) ∧ colQ j (colAt 0 (fillC a (f :: fl) D)) = dblN (j + (x - i)) f.toNat ^^^ colQ j (colAt a D)
  | [], _, _, _, _, _, h => by simp [lostL] at h
  | b :: r, i, x, j, f, fl, h => by
    simp only [lostL] at h
    split at h
    · rename_i h0
      injection h with e1 e2
      subst e1
      have e := fill_none a r (i + 1) fl e2
      simp only [fillC]
      rw [if_pos h0]
      simp only [colAt, List.map_cons, colP, colQ] at e ⊢
      rw [show (f :: fl).tail = fl from rfl, e, getD_empty h0, Nat.sub_self, Nat.add_zero, dblN_zero, Nat.zero_xor, Nat.zero_xor]
      exact ⟨rfl, rfl⟩
    · rename_i h0
      obtain ⟨j2, hj2, e2, _⟩ := lostL_mem r (i + 1) x (by rw [h]; simp)
      obtain ⟨e3, e4⟩ := fill_one a r (i + 1) x (j + 1) f fl h
      simp only [fillC]
      rw [if_neg h0]
      simp only [colAt, List.map_cons, colP, colQ] at e3 e4 ⊢
      rw [e3, e4, show j + 1 + (x - (i + 1)) = j + (x - i) by omega]
      refine ⟨?_, ?_⟩
      · show (b.getD a 0).toNat ^^^ (f.toNat ^^^ _) = f.toNat ^^^ ((b.getD a 0).toNat ^^^ _)
        rw [← Nat.xor_assoc, Nat.xor_comm (b.getD a 0).toNat, Nat.xor_assoc]
      · show dblN j (b.getD a 0).toNat ^^^ (dblN (j + (x - i)) f.toNat ^^^ _) = dblN (j + (x - i)) f.toNat ^^^ (dblN j (b.getD a 0).toNat ^^^ _)
        rw [← Nat.xor_assoc, Nat.xor_comm (dblN j (b.getD a 0).toNat), Nat.xor_assoc]
theorem fill_two (a : Nat) : ∀ (D : List (List UInt8)) (i x y j : Nat) (f g : UInt8) (fl : List UInt8), lostL i D = [x, y] →
    colP (colAt 0 (fillC a (f :: g :: fl) D)) = f.toNat ^^^ (g.toNat ^^^ colP (colAt a D)) ∧ colQ j (colAt 0 (fillC a (f :: g :: fl) D)) = dblN (j + (x - i)) f.toNat ^^^ (dblN (j + (y - i)) g.toNat ^^^ colQ j (colAt a D))
  | [], _, _, _, _, _, _, _, h => by simp [lostL] at h
  | b :: r, i, x, y, j, f, g, fl, h => by
    simp only [lostL] at h
    split at h
    · rename_i h0
      injection h with e1 e2
      subst e1
      obtain ⟨j2, hj2, e2', _⟩ := lostL_mem r (i + 1) y (by rw [e2]; simp)
      obtain ⟨e3, e4⟩ := fill_one a r (i + 1) y (j + 1) g fl e2
      simp only [fillC]
      rw [if_pos h0]
      simp only [colAt, List.map_cons, colP, colQ] at e3 e4 ⊢
      rw [show (f :: g :: fl).tail = g :: fl from rfl, e3, e4, getD_empty h0, Nat.sub_self, Nat.add_zero, dblN_zero, Nat.zero_xor, Nat.zero_xor, show j + 1 + (y - (i + 1)) = j + (y - i) by omega]
      exact ⟨rfl, rfl⟩
    · rename_i h0
      obtain ⟨j2, hj2, e2, _⟩ := lostL_mem r (i + 1) x (by rw [h]; simp)
      obtain ⟨j3, hj3, e2', _⟩ := lostL_mem r (i + 1) y (by rw [h]; simp)
      obtain ⟨e3, e4⟩ := fill_two a r (i + 1) x y (j + 1) f g fl h
      simp only [fillC]
      rw [if_neg h0]
      simp only [colAt, List.map_cons, colP, colQ] at e3 e4 ⊢
      rw [e3, e4, show j + 1 + (x - (i + 1)) = j + (x - i) by omega, show j + 1 + (y - (i + 1)) = j + (y - i) by omega]
      have comm3 : ∀ p q r s : Nat, p ^^^ (q ^^^ (r ^^^ s)) = q ^^^ (r ^^^ (p ^^^ s)) := fun p q r s => by
        rw [← Nat.xor_assoc, Nat.xor_comm p q, Nat.xor_assoc, ← Nat.xor_assoc p r, Nat.xor_comm p r, Nat.xor_assoc]
      exact ⟨comm3 _ _ _ _, comm3 _ _ _ _⟩
theorem putL_none : ∀ (D L : List (List UInt8)) (i : Nat) (fl : List UInt8), lostL i D = [] → putL fl L D = L
  | [], L, _, _, _ => by cases L <;> rfl
  | b :: r, [], _, _, _ => rfl
  | b :: r, o :: os, i, fl, h => by
    simp only [lostL] at h
    split at h
    · cases h
    · rename_i h0
      simp only [putL]
      rw [if_neg h0, putL_none r os (i + 1) fl h]
theorem putL_one : ∀ (D L : List (List UInt8)) (i x : Nat) (f : UInt8) (fl : List UInt8), lostL i D = [x] → L.length = D.length → putL (f :: fl) L D = L.set (x - i) (L.getD (x - i) [] ++ [f])
  | [], _, _, _, _, _, h, _ => by simp [lostL] at h
  | b :: r, [], _, _, _, _, _, hl => by simp at hl
  | b :: r, o :: os, i, x, f, fl, h, hl => by
    simp only [lostL] at h
    split at h
    · rename_i h0
      injection h with e1 e2
      subst e1
      simp only [putL]
      rw [if_pos h0, show (f :: fl).tail = fl from rfl, putL_none r os (i + 1) fl e2, Nat.sub_self]
      rfl
    · rename_i h0
      obtain ⟨j2, hj2, e2, _⟩ := lostL_mem r (i + 1) x (by rw [h]; simp)
      simp only [putL]
      rw [if_neg h0, putL_one r os (i + 1) x f fl h (by simpa using hl), show x - i = (x - (i + 1)) + 1 by omega]
      rfl
theorem putL_two : ∀ (D L : List (List UInt8)) (i x y : Nat) (f g : UInt8) (fl : List UInt8), lostL i D = [x, y] → L.length = D.length → putL (f :: g :: fl) L D = (L.set (x - i) (L.getD (x - i) [] ++ [f])).set (y - i) (L.getD (y - i) [] ++ [g])
  | [], _, _, _, _, _, _, _, h, _ => by simp [lostL] at h
  | b :: r, [], _, _, _, _, _, _, _, hl => by simp at hl
  | b :: r, o :: os, i, x, y, f, g, fl, h, hl => by
    simp only [lostL] at h
    split at h
    · rename_i h0
      injection h with e1 e2
      subst e1
      obtain ⟨j2, hj2, e2', _⟩ := lostL_mem r (i + 1) y (by rw [e2]; simp)
      simp only [putL]
      rw [if_pos h0, show (f :: g :: fl).tail = g :: fl from rfl, putL_one r os (i + 1) y g fl e2 (by simpa using hl), Nat.sub_self, show y - i = (y - (i + 1)) + 1 by omega]
      rfl
    · rename_i h0
      obtain ⟨j2, hj2, e2, _⟩ := lostL_mem r (i + 1) x (by rw [h]; simp)
      obtain ⟨j3, hj3, e2', _⟩ := lostL_mem r (i + 1) y (by rw [h]; simp)
      simp only [putL]
      rw [if_neg h0, putL_two r os (i + 1) x y f g fl h (by simpa using hl), show x - i = (x - (i + 1)) + 1 by omega, show y - i = (y - (i + 1)) + 1 by omega]
      rfl
theorem take_getD (F : List UInt8) (t : Nat) (h : t < F.length) : F.take t ++ [F.getD t 0] = F.take (t + 1) := by
  rw [List.take_succ_eq_append_getElem h]
  simp [List.getD, h]
theorem outT_none (fnd : Nat → List UInt8) (D : List (List UInt8)) (h : lostL 0 D = []) : ∀ t, outT fnd D t = D
  | 0 => rfl
  | t + 1 => by rw [outT_succ, outT_none fnd D h t, putL_none D D 0 _ h]
theorem lost_at (D : List (List UInt8)) (x : Nat) (h : x ∈ lostL 0 D) : x < D.length ∧ D.getD x [] = [] := by
  obtain ⟨j, hj, e1, e2⟩ := lostL_mem D 0 x h
  obtain rfl : x = j := by omega
  exact ⟨hj, by simp [List.getD, hj, e2]⟩
theorem set_same (D : List (List UInt8)) (x : Nat) (h : D.getD x [] = []) : D.set x [] = D := by
  apply List.ext_getElem
  · simp
  · intro i h1 h2
    by_cases hi : x = i
    · subst hi
      simp only [List.getElem_set_self]
      have h2' : x < D.length := h2
      simpa [List.getD, h2'] using h.symm
    · simp [List.getElem_set_ne hi]
theorem outT_one (fnd : Nat → List UInt8) (D : List (List UInt8)) (x : Nat) (F : List UInt8) (h : lostL 0 D = [x]) (hf : ∀ t, t < F.length → fnd t = [F.getD t 0]) : ∀ t, t ≤ F.length → outT fnd D t = D.set x (F.take t)
  | 0, _ => by
    rw [List.take_zero, set_same D x (lost_at D x (by rw [h]; simp)).2]; rfl
  | t + 1, ht => by
    obtain ⟨hx, _⟩ := lost_at D x (by rw [h]; simp)
    rw [outT_succ, outT_one fnd D x F h hf t (by omega), hf t (by omega), putL_one D _ 0 x _ [] h (by simp), Nat.sub_zero, List.set_set]
    congr 1
    rw [show (D.set x (F.take t)).getD x [] = F.take t by simp [List.getD, hx]]
    exact take_getD F t (by omega)
theorem outT_two (fnd : Nat → List UInt8) (D : List (List UInt8)) (x y : Nat) (F G : List UInt8) (h : lostL 0 D = [x, y]) (hl : G.length = F.length) (hf : ∀ t, t < F.length → fnd t = [F.getD t 0, G.getD t 0]) : ∀ t, t ≤ F.length → outT fnd D t = (D.set x (F.take t)).set y (G.take t)
  | 0, _ => by
    rw [List.take_zero, List.take_zero, set_same D x (lost_at D x (by rw [h]; simp)).2, set_same D y (lost_at D y (by rw [h]; simp)).2]; rfl
  | t + 1, ht => by
    obtain ⟨hx, _⟩ := lost_at D x (by rw [h]; simp)
    obtain ⟨hy, _⟩ := lost_at D y (by rw [h]; simp)
    have hxy : x ≠ y := by
      have := lostL_sorted D 0
      rw [h] at this
      have : x < y := by simpa using this
      omega
    rw [outT_succ, outT_two fnd D x y F G h hl hf t (by omega), hf t (by omega), putL_two D _ 0 x y _ _ [] h (by simp), Nat.sub_zero, Nat.sub_zero]
    rw [show ((D.set x (F.take t)).set y (G.take t)).getD x [] = F.take t by
      simp [List.getD, hx, List.getElem_set_ne (Ne.symm hxy)]]
    rw [show ((D.set x (F.take t)).set y (G.take t)).getD y [] = G.take t by simp [List.getD, hy]]
    rw [take_getD F t (by omega), take_getD G t (by omega), List.set_comm _ _ (Ne.symm hxy), List.set_set, List.set_set]
end Go.Proofs.YtfajgnaphekdhaaDoor
