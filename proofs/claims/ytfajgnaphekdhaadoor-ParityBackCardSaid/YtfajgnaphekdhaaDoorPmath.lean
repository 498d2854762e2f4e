/- P and Q as the reference tells them are those that are summed up. No walk. -/
import Derived.Test.YtfajgnaphekdhaaDoorPmake
import Derived.Test.YtfajgnaphekdhaaDoorPextra
namespace Go.Proofs.YtfajgnaphekdhaaDoor
open Go.RowKit
set_option linter.unusedSimpArgs false
set_option linter.unusedVariables false
theorem xorL_get : ∀ (L b : List UInt8) (a : Nat), b.length ≤ L.length → (xorL L b).getD a 0 = L.getD a 0 ^^^ b.getD a 0
  | L, [], a, _ => by rw [xorL_nil]; simp
  | [], _ :: _, _, h => by simp at h
  | x :: L, y :: b, 0, _ => by simp [xorL]
  | x :: L, y :: b, a + 1, h => by
    have := xorL_get L b a (by simpa using h)
    simpa [xorL] using this
theorem mapD_get (L : List UInt8) (a : Nat) : ((mapD L).getD a 0).toNat = dbl (L.getD a 0).toNat := by
  unfold mapD
  rw [List.getD, List.getElem?_map, List.getD]
  cases h : L[a]? with
  | none => decide
  | some x => exact ofN _ (dbl_lt _ x.toNat_lt)
theorem pAcc_get (n : Nat) (ls : List (List UInt8)) (a : Nat) (h : ∀ b ∈ ls, b.length ≤ n) : ((pAcc n ls.reverse).getD a 0).toNat = colP (colAt a ls) := by
  induction ls with
  | nil =>
    simp only [List.reverse_nil, pAcc, List.foldl_nil, colAt, List.map_nil, colP]
    by_cases h : a < n <;> simp [List.getD, h]
  | cons b r ih =>
    have hr : ∀ b ∈ r, b.length ≤ n := fun x hx => h x (by simp [hx])
    rw [List.reverse_cons, pAcc_snoc, xorL_get _ _ _ (by rw [pAcc_len n _ (fun x hx => hr x (List.mem_reverse.1 hx))]; exact h b (by simp)), UInt8.toNat_xor, ih hr]
    simp only [colAt, List.map_cons, colP]
    rw [Nat.xor_comm]
theorem qAcc_get (n : Nat) (ls : List (List UInt8)) (a : Nat) (h : ∀ b ∈ ls, b.length ≤ n) : ((qAcc n ls.reverse).getD a 0).toNat = colQ 0 (colAt a ls) := by
  rw [← horn_colQ]
  induction ls with
  | nil =>
    simp only [List.reverse_nil, qAcc, List.foldl_nil, colAt, List.map_nil, horn]
    by_cases h : a < n <;> simp [List.getD, h]
  | cons b r ih =>
    have hr : ∀ b ∈ r, b.length ≤ n := fun x hx => h x (by simp [hx])
    have hm : (mapD (qAcc n r.reverse)).length = n := by
      rw [show (mapD (qAcc n r.reverse)).length = (qAcc n r.reverse).length by simp [mapD]]
      exact qAcc_len n _ (fun x hx => hr x (List.mem_reverse.1 hx))
    rw [List.reverse_cons, qAcc_snoc, xorL_get _ _ _ (by rw [hm]; exact h b (by simp)), UInt8.toNat_xor, mapD_get, ih hr]
    simp only [colAt, List.map_cons, horn]
/-- P (k = 1) or Q, n bytes of it -/
def rowB (n : Nat) (k : Int) (ls : List (List UInt8)) : List UInt8 := (List.range n).map fun a => UInt8.ofNat (exN ls a k)
theorem rowB_eq (n : Nat) (k : Int) (ls : List (List UInt8)) (X : List UInt8) (hl : X.length = n) (h : ∀ a, a < n → (X.getD a 0).toNat = exN ls a k) : rowB n k ls = X := by
  apply List.ext_getElem
  · simp [rowB, hl]
  · intro i h1 h2
    have := h i (by omega)
    rw [List.getD, List.getElem?_eq_getElem h2, Option.getD_some] at this
    simp only [rowB, List.getElem_map, List.getElem_range]
    rw [← this]
    simp
theorem rowB_p (n : Nat) (ls : List (List UInt8)) (h : ∀ b ∈ ls, b.length ≤ n) : rowB n 1 ls = pAcc n ls.reverse :=
  rowB_eq n 1 ls _ (pAcc_len n _ (fun x hx => h x (List.mem_reverse.1 hx))) fun a _ => by rw [pAcc_get n ls a h]; rfl
theorem rowB_q (n : Nat) (ls : List (List UInt8)) (h : ∀ b ∈ ls, b.length ≤ n) : rowB n 2 ls = qAcc n ls.reverse :=
  rowB_eq n 2 ls _ (qAcc_len n _ (fun x hx => h x (List.mem_reverse.1 hx))) fun a _ => by rw [qAcc_get n ls a h]; rfl
theorem emptyN_zero : ∀ (ls : List (List UInt8)), emptyN ls = 0 ↔ ∀ b ∈ ls, b.length ≠ 0
  | [] => by simp [emptyN]
  | b :: r => by
    simp only [emptyN]
    constructor
    · intro h x hx
      rcases List.mem_cons.1 hx with rfl | hx
      · intro h0; rw [if_pos h0] at h; omega
      · exact (emptyN_zero r).1 (by omega) x hx
    · intro h
      rw [if_neg (h b (by simp)), (emptyN_zero r).2 (fun x hx => h x (by simp [hx]))]
/-- what the reference's Make answers -/
def refMakeR (ls : List (List UInt8)) (lv : Int) : Int × List (List UInt8) :=
  if lv < 0 ∨ 2 < lv then (5, []) else if refSize ls ls.length < 0 ∨ 0 < emptyN ls then (10, [])
  else (0, (List.range lv.toNat).map fun (k : Nat) => rowB (refSize ls ls.length).toNat ((k : Int) + 1) ls)
theorem refSize_neg (ls : List (List UInt8)) (d : Int) : refSize ls d < 0 ↔ (sizedR ls d).2 = false := by
  unfold refSize
  cases h : (sizedR ls d).2
  · simp
  · simp only [if_true, Bool.true_eq_false, iff_false]
    unfold sizedR at h ⊢
    cases hz : szL 0 ls with
    | none => rw [hz] at h; cases h
    | some n => simp
theorem refMakeR_eq (ls : List (List UInt8)) (lv : Int) : refMakeR ls lv = makeR ls lv := by
  unfold refMakeR makeR
  by_cases h1 : lv < 0 ∨ 2 < lv
  · rw [if_pos h1, if_pos h1]
  · rw [if_neg h1, if_neg h1]
    have he : 0 < emptyN ls ↔ lostL 0 ls ≠ [] := by
      rw [Ne, lostL_nil, ← emptyN_zero]; omega
    by_cases h2 : refSize ls ls.length < 0 ∨ 0 < emptyN ls
    · rw [if_pos h2, if_pos (by rw [← refSize_neg, ← he]; exact h2)]
    · rw [if_neg h2, if_neg (by rw [← refSize_neg, ← he]; exact h2)]
      have hs : (sizedR ls ls.length).2 = true := by
        cases h : (sizedR ls ls.length).2
        · exact absurd (.inl ((refSize_neg ls _).2 h)) h2
        · rfl
      have hz : refSize ls ls.length = (sizedR ls ls.length).1 := by unfold refSize; rw [hs, if_pos rfl]
      rw [hz]
      obtain ⟨n, hn, hsz⟩ : ∃ n : Nat, (sizedR ls (ls.length : Int)).1 = (n : Int) ∧ szL 0 ls = some n := by
        unfold sizedR at hs ⊢
        cases h : szL 0 ls with
        | none => rw [h] at hs; cases hs
        | some n => exact ⟨n, rfl, rfl⟩
      rw [hn, Int.toNat_natCast]
      have hall := (szL_all ls 0 n hsz).2.1
      rw [← rowB_p n ls hall, ← rowB_q n ls hall]
      rcases (show lv = 0 ∨ lv = 1 ∨ lv = 2 by omega) with rfl | rfl | rfl <;> rfl
end Go.Proofs.YtfajgnaphekdhaaDoor
