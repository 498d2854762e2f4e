/- Folding twice is folding once, as many bytes, folds of what is joined. No program. -/
import Derived.Test.YtoeagociikihnaaDoorFoldp
namespace Go.Proofs.YtoeagociikihnaaDoor
open Go
set_option linter.unusedSimpArgs false
set_option linter.unusedVariables false
theorem chunk_good (x : UInt8) (d : Nat × Nat) (h2 : (Lib.encodeRune (d.1 : Nat)).length = d.2) : chunk x d = Lib.encodeRune (lowN d.1 : Nat) := by
  unfold chunk
  rw [if_neg]
  rintro ⟨e1, e2⟩
  rw [e1, e2, enc_three 65533 (.inr (by omega))] at h2
  simp at h2
theorem fold_bad (x : UInt8) (t : List UInt8) (h : decL (x :: t) = (65533, 1)) : fold (x :: t) = x :: fold t := by
  rw [fold_cons, h]; rfl
theorem enc_cons (r : Nat) (hr : Sc r) : ∃ h q, Lib.encodeRune (r : Int) = h :: q ∧ ¬ h.toNat / 64 = 2 := by
  unfold Sc at hr
  by_cases h1 : r ≤ 127
  · exact ⟨_, _, enc_one r h1, by rw [ofN _ (by omega)]; omega⟩
  · by_cases h2 : r ≤ 2047
    · exact ⟨_, _, enc_two r (by omega) h2, by rw [ofN _ (by omega)]; omega⟩
    · by_cases h3 : r ≤ 65535
      · exact ⟨_, _, enc_three r (by omega), by rw [ofN _ (by omega)]; omega⟩
      · exact ⟨_, _, enc_four r (by omega) (by omega), by rw [ofN _ (by omega)]; omega⟩
theorem fold_good (r : Nat) (t : List UInt8) (hr : Sc r) : fold (Lib.encodeRune (r : Int) ++ t) = Lib.encodeRune (lowN r : Nat) ++ fold t := by
  obtain ⟨h, q, he, _⟩ := enc_cons r hr
  have hd := dec_enc r hr t
  have hl : (Lib.encodeRune (r : Int) ++ t).drop (Lib.encodeRune (r : Int)).length = t := by simp
  rw [he, List.cons_append] at hd hl ⊢
  rw [fold_cons, hd, hl]
  congr 1
  refine chunk_good h _ ?_
  show (Lib.encodeRune (r : Int)).length = _
  rw [he]
theorem fold_rec {Q : List UInt8 → Prop} (h0 : Q []) (h1 : ∀ x t, decL (x :: t) = (65533, 1) → Q t → Q (x :: t)) (h2 : ∀ r t, Sc r → Q t → Q (Lib.encodeRune ((r : Nat) : Int) ++ t)) : ∀ (n : Nat) (l : List UInt8), l.length ≤ n → Q l
  | 0, l, h => by
    obtain rfl : l = [] := List.length_eq_zero_iff.1 (by omega)
    exact h0
  | n + 1, [], _ => h0
  | n + 1, x :: t, h => by
    rcases dec_cases x t with hb | ⟨hs, hl, he⟩
    · exact h1 x t hb (fold_rec h0 h1 h2 n t (by simpa using h))
    · have hp := decL_pos (x :: t)
      rw [he]
      exact h2 _ _ hs (fold_rec h0 h1 h2 n _ (by simp at h ⊢; omega))
theorem fold_len (l : List UInt8) : (fold l).length = l.length := by
  refine fold_rec (Q := fun l => (fold l).length = l.length) rfl ?_ ?_ l.length l (Nat.le_refl _)
  · intro x t hb ih
    rw [fold_bad x t hb]; simp [ih]
  · intro r t hs ih
    rw [fold_good r t hs]; simp [ih, low_len r hs]
def contP (l : List UInt8) : List UInt8 := l.takeWhile (fun b => decide (b.toNat / 64 = 2))
theorem dec_cont (x : UInt8) (t : List UInt8) : decL (x :: t) = decL (x :: contP t) := by
  match t with
  | [] => rfl
  | a :: t1 =>
    by_cases ha : a.toNat / 64 = 2
    · match t1 with
      | [] => simp [contP, ha]
      | b :: t2 =>
        by_cases hb : b.toNat / 64 = 2
        · match t2 with
          | [] => simp [contP, ha, hb]
          | c :: t3 =>
            by_cases hc : c.toNat / 64 = 2
            · simp [contP, ha, hb, hc, decL, Lib.decodeN]
            · simp [contP, ha, hb, hc, decL, Lib.decodeN]
        · simp [contP, ha, hb, decL, Lib.decodeN]
    · simp [contP, ha, decL, Lib.decodeN]
theorem contP_enc (r : Nat) (hs : Sc r) (t : List UInt8) : contP (Lib.encodeRune (r : Int) ++ t) = [] := by
  obtain ⟨h, q, he, hn⟩ := enc_cons r hs
  rw [he]; simp [contP, hn]
theorem fold_cont (l : List UInt8) : contP (fold l) = contP l := by
  refine fold_rec (Q := fun l => contP (fold l) = contP l) rfl ?_ ?_ l.length l (Nat.le_refl _)
  · intro x t hb ih
    rw [fold_bad x t hb]
    unfold contP at ih ⊢
    simp only [List.takeWhile_cons, ih]
  · intro r t hs ih
    rw [fold_good r t hs, contP_enc _ (low_sc r hs), contP_enc r hs]
theorem fold_fold (l : List UInt8) : fold (fold l) = fold l := by
  refine fold_rec (Q := fun l => fold (fold l) = fold l) rfl ?_ ?_ l.length l (Nat.le_refl _)
  · intro x t hb ih
    rw [fold_bad x t hb, fold_bad x (fold t) (by rw [dec_cont, fold_cont, ← dec_cont]; exact hb), ih]
  · intro r t hs ih
    rw [fold_good r t hs, fold_good _ _ (low_sc r hs), low_low, ih]
/-- no character is the one that stands for what is none -/
def okL : Nat → List UInt8 → Bool
  | 0, _ => true
  | _ + 1, [] => true
  | f + 1, x :: t => decide ((decL (x :: t)).1 ≠ 65533) && okL f ((x :: t).drop (decL (x :: t)).2)
theorem fold_append : ∀ (f : Nat) (a b : List UInt8), a.length ≤ f → okL f a = true → fold (a ++ b) = fold a ++ fold b
  | _, [], b, _, _ => rfl
  | 0, x :: t, b, h, _ => by simp at h
  | f + 1, x :: t, b, h, hok => by
    simp only [okL, Bool.and_eq_true, decide_eq_true_eq] at hok
    rcases dec_cases x t with hb | ⟨hs, hl, he⟩
    · rw [hb] at hok; exact absurd rfl hok.1
    · have hp := decL_pos (x :: t)
      have ih := fold_append f _ b (by simp at h ⊢; omega) hok.2
      rw [he, List.append_assoc, fold_good _ _ hs, fold_good _ _ hs, ih, List.append_assoc]
theorem get_list (s : ByteArray) (i : Nat) : s.get! i = s.data.toList.getD i 0 := by
  obtain ⟨⟨l⟩⟩ := s
  simp [ByteArray.get!, List.getD, getElem!_def]
  cases h : l[i]? with
  | none => rfl
  | some x => rfl
theorem getD_drop (l : List UInt8) (i k : Nat) : (l.drop i).getD k 0 = l.getD (i + k) 0 := by
  rw [List.getD, List.getD, List.getElem?_drop]
theorem dec_list (s : ByteArray) (i : Nat) : Utf8.decode s i = decL (s.data.toList.drop i) := by
  rw [Lib.decode_at]
  unfold decL
  have hs : s.size = s.data.toList.length := rfl
  rw [getD_drop, getD_drop, getD_drop, getD_drop, List.length_drop, get_list, get_list, get_list, get_list, hs]
  rfl
end Go.Proofs.YtoeagociikihnaaDoor
