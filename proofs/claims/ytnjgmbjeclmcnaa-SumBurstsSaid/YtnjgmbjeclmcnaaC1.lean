/- Plain laws of bursts: two texts whose bits differ within 32 in a row have different sums. No program. -/
import Derived.Test.YtnjgmbjeclmcnaaC0
namespace Go.Proofs.Ytnjgmbjeclmcnaa
set_option linter.unusedSimpArgs false
set_option linter.unusedVariables false
def bitAt (L : List UInt8) (p : Nat) : Bool := (L.getD (p / 8) 0).toBitVec.getLsbD (p % 8)
def bv1 (b : Bool) : BitVec 32 := if b then 1#32 else 0#32
/-- the rest behind the first p bits -/
def pre (r : BitVec 32) (L : List UInt8) : Nat → BitVec 32
  | 0 => r
  | p + 1 => stp (pre r L p ^^^ bv1 (bitAt L p))
theorem bv1_bit (b : UInt8) (k : Nat) : (b32 b >>> k) &&& 1#32 = bv1 ((b32 b).getLsbD k) := by
  apply BitVec.eq_of_getLsbD_eq
  intro i hi
  rw [BitVec.getLsbD_and, BitVec.getLsbD_ushiftRight]
  unfold bv1
  cases i with
  | zero => cases h : (b32 b).getLsbD k <;> simp [h]
  | succ i => cases h : (b32 b).getLsbD k <;> simp [h]
theorem b32_bit (b : UInt8) (k : Nat) (hk : k < 8) : (b32 b).getLsbD k = b.toBitVec.getLsbD k := by
  unfold b32
  rw [BitVec.getLsbD_setWidth]
  have : k < 32 := by omega
  simp [this]
theorem pre_byte (r : BitVec 32) (L : List UInt8) (i : Nat) (j : Nat) (hj : j ≤ 8) :
    pre r L (8 * i + j) ^^^ brest (L.getD i 0) j = stpN j (pre r L (8 * i) ^^^ b32 (L.getD i 0)) := by
  induction j with
  | zero => simp [brest, stpN]
  | succ j ih =>
    have ih := ih (by omega)
    rw [stpN_succ, ← ih]
    show stp (pre r L (8 * i + j) ^^^ bv1 (bitAt L (8 * i + j))) ^^^ brest (L.getD i 0) (j + 1) = _
    have hb : bitAt L (8 * i + j) = (b32 (L.getD i 0)).getLsbD j := by
      unfold bitAt
      rw [show (8 * i + j) / 8 = i by omega, show (8 * i + j) % 8 = j by omega, b32_bit _ _ (by omega)]
    rw [hb, ← bv1_bit, brest_split (L.getD i 0) j, ← BitVec.xor_assoc, stp_later]
    simp only [brest, BitVec.getLsbD_ushiftRight]
    exact b32_high _ _ (by omega)
theorem pre_8 (r : BitVec 32) (L : List UInt8) (i : Nat) : pre r L (8 * (i + 1)) = stpN 8 (pre r L (8 * i) ^^^ b32 (L.getD i 0)) := by
  rw [← pre_byte r L i 8 (by omega)]
  have : brest (L.getD i 0) 8 = 0#32 := by
    apply BitVec.eq_of_getLsbD_eq
    intro i hi
    simp only [brest, BitVec.getLsbD_ushiftRight]
    rw [b32_high _ _ (by omega)]
    simp
  rw [this, BitVec.xor_zero]
  rfl
theorem pre_fd (r : BitVec 32) (L : List UInt8) (n : Nat) (hn : n ≤ L.length) : pre r L (8 * n) = fd r (L.take n) := by
  induction n with
  | zero => simp [pre, fd]
  | succ n ih =>
    rw [pre_8, ih (by omega), List.take_succ_eq_append_getElem (by omega), fd_snoc]
    congr 2
    rw [List.getD, List.getElem?_eq_getElem (by omega)]
    rfl
/-- one bit turned -/
def flip (L : List UInt8) (p : Nat) : List UInt8 := L.set (p / 8) (L.getD (p / 8) 0 ^^^ (1 <<< UInt8.ofNat (p % 8)))
def fl (L : List UInt8) (s : Nat) (t : BitVec 32) : Nat → List UInt8
  | 0 => L
  | k + 1 => if t.getLsbD k then flip (fl L s t k) (s + k) else fl L s t k
theorem fl_succ (L : List UInt8) (s : Nat) (t : BitVec 32) (k : Nat) : fl L s t (k + 1) = if t.getLsbD k then flip (fl L s t k) (s + k) else fl L s t k := rfl
def oth (t : BitVec 32) : Nat → Bool
  | 0 => false
  | k + 1 => t.getLsbD k || oth t k
theorem flip_len (L : List UInt8) (p : Nat) : (flip L p).length = L.length := by simp [flip]
theorem fl_len (L : List UInt8) (s : Nat) (t : BitVec 32) (k : Nat) : (fl L s t k).length = L.length := by
  induction k with
  | zero => rfl
  | succ k ih => rw [fl_succ]; split <;> simp [flip_len, ih]
theorem one_shl (j i : Nat) (hj : j < 8) (hi : i < 8) : (1 <<< UInt8.ofNat j : UInt8).toBitVec.getLsbD i = decide (i = j) := by
  have : ∀ j i : Fin 8, (1 <<< UInt8.ofNat j.val : UInt8).toBitVec.getLsbD i.val = decide (i.val = j.val) := by decide
  exact this ⟨j, hj⟩ ⟨i, hi⟩
theorem bit_flip (L : List UInt8) (q p : Nat) (hq : q < 8 * L.length) : bitAt (flip L q) p = (bitAt L p ^^ decide (p = q)) := by
  unfold bitAt flip
  by_cases h : p / 8 = q / 8
  · rw [h, List.getD, List.getElem?_set_self (by omega)]
    simp only [Option.getD_some, UInt8.toBitVec_xor, BitVec.getLsbD_xor]
    rw [one_shl _ _ (by omega) (by omega)]
    congr 1
    have : (p % 8 = q % 8) ↔ (p = q) := by omega
    simp [this]
  · rw [List.getD, List.getElem?_set_ne (fun e => h e.symm)]
    have : ¬ p = q := fun e => h (by rw [e])
    simp [this, List.getD]
theorem bit_fl (L : List UInt8) (s : Nat) (t : BitVec 32) (k p : Nat) (hk : s + k ≤ 8 * L.length) :
    bitAt (fl L s t k) p = (bitAt L p ^^ (decide (s ≤ p) && decide (p < s + k) && t.getLsbD (p - s))) := by
  induction k with
  | zero =>
    show bitAt L p = _
    have : ¬ (s ≤ p ∧ p < s + 0) := by omega
    by_cases h : s ≤ p <;> by_cases h2 : p < s <;> simp [h, h2] <;> omega
  | succ k ih =>
    have ih := ih (by omega)
    have key : bitAt (fl L s t (k + 1)) p = (bitAt (fl L s t k) p ^^ (decide (p = s + k) && t.getLsbD k)) := by
      rw [fl_succ]
      split
      · rename_i ht
        rw [bit_flip _ _ _ (by rw [fl_len]; omega), ht]
        simp
      · rename_i ht
        simp [ht]
    rw [key, ih]
    by_cases h1 : p = s + k
    · subst h1
      have e1 : s ≤ s + k := by omega
      have e2 : ¬ s + k < s + k := by omega
      have e3 : s + k < s + (k + 1) := by omega
      simp [e1, e2, e3]
    · have e : (p < s + (k + 1)) ↔ (p < s + k) := by omega
      simp [h1, e]
/-- the low k bits of t -/
def low (t : BitVec 32) (k : Nat) : BitVec 32 := (t.setWidth k).setWidth 32
theorem low_bit_k (t : BitVec 32) (k i : Nat) (hi : i < 32) : (low t k).getLsbD i = (decide (i < k) && t.getLsbD i) := by
  unfold low
  rw [BitVec.getLsbD_setWidth, BitVec.getLsbD_setWidth]
  simp [hi]
theorem oth_iff (t : BitVec 32) (k : Nat) : oth t k = true ↔ ∃ i, i < k ∧ t.getLsbD i = true := by
  induction k with
  | zero => simp [oth]
  | succ k ih =>
    simp only [oth, Bool.or_eq_true, ih]
    constructor
    · rintro (h | ⟨i, hi, h⟩)
      · exact ⟨k, by omega, h⟩
      · exact ⟨i, by omega, h⟩
    · rintro ⟨i, hi, h⟩
      by_cases e : i = k
      · subst e; exact .inl h
      · exact .inr ⟨i, by omega, h⟩
theorem low_zero (t : BitVec 32) (k : Nat) (hk : k ≤ 32) : low t k = 0#32 ↔ oth t k = false := by
  constructor
  · intro h
    cases ho : oth t k with
    | false => rfl
    | true =>
      obtain ⟨i, hi, ht⟩ := (oth_iff t k).1 ho
      have := low_bit_k t k i (by omega)
      rw [h, ht] at this
      simp [hi] at this
  · intro h
    apply BitVec.eq_of_getLsbD_eq
    intro i hi
    rw [low_bit_k t k i hi]
    by_cases hik : i < k
    · cases ht : t.getLsbD i with
      | false => simp
      | true =>
        have := (oth_iff t k).2 ⟨i, hik, ht⟩
        rw [h] at this
        cases this
    · simp [hik]
theorem bv1_xor (a b : Bool) : bv1 (a ^^ b) = bv1 a ^^^ bv1 b := by cases a <;> cases b <;> decide
theorem low_shift (t : BitVec 32) (k j : Nat) (hj : j < k) (hk : k ≤ 32) : low t k >>> j = bv1 (t.getLsbD j) ^^^ ((low t k >>> (j + 1)) <<< 1) := by
  apply BitVec.eq_of_getLsbD_eq
  intro i hi
  rw [BitVec.getLsbD_xor, BitVec.getLsbD_shiftLeft, BitVec.getLsbD_ushiftRight, BitVec.getLsbD_ushiftRight]
  unfold bv1
  cases i with
  | zero =>
    rw [Nat.add_zero, low_bit_k t k j (by omega)]
    cases h : t.getLsbD j <;> simp [hj]
  | succ i =>
    rw [show j + 1 + (i + 1 - 1) = j + (i + 1) by omega]
    cases h : t.getLsbD j <;> simp [hi]
theorem delta_in (r : BitVec 32) (L : List UInt8) (s : Nat) (t : BitVec 32) (k : Nat) (hk : k ≤ 32) (hs : s + k ≤ 8 * L.length) :
    (∀ p, p ≤ s → pre r (fl L s t k) p = pre r L p) ∧ (∀ j, j ≤ k → pre r (fl L s t k) (s + j) ^^^ pre r L (s + j) ^^^ (low t k >>> j) = stpN j (low t k)) := by
  have hb := fun p => bit_fl L s t k p hs
  have h1 : ∀ p, p ≤ s → pre r (fl L s t k) p = pre r L p := by
    intro p
    induction p with
    | zero => intro _; rfl
    | succ p ih =>
      intro hp
      show stp (_ ^^^ bv1 (bitAt (fl L s t k) p)) = stp (_ ^^^ bv1 (bitAt L p))
      rw [ih (by omega), hb p]
      have : ¬ s ≤ p := by omega
      simp [this]
  refine ⟨h1, ?_⟩
  intro j
  induction j with
  | zero =>
    intro _
    rw [Nat.add_zero, h1 s (Nat.le_refl _)]
    simp [stpN]
  | succ j ih =>
    intro hj
    have ih := ih (by omega)
    rw [stpN_succ, ← ih]
    show stp (pre r (fl L s t k) (s + j) ^^^ bv1 (bitAt (fl L s t k) (s + j))) ^^^ stp (pre r L (s + j) ^^^ bv1 (bitAt L (s + j))) ^^^ (low t k >>> (j + 1)) = _
    have e1 : s ≤ s + j := by omega
    have e2 : s + j < s + k := by omega
    rw [hb (s + j), show (decide (s ≤ s + j) && decide (s + j < s + k) && t.getLsbD (s + j - s)) = t.getLsbD j by simp [e1, e2], bv1_xor, ← stp_xor, low_shift t k j (by omega) hk, ← BitVec.xor_assoc (pre r (fl L s t k) (s + j) ^^^ pre r L (s + j)) (bv1 (t.getLsbD j)), stp_later]
    · congr 2
      apply BitVec.eq_of_getLsbD_eq
      intro i hi
      simp only [BitVec.getLsbD_xor]
      cases (pre r (fl L s t k) (s + j)).getLsbD i <;> cases (pre r L (s + j)).getLsbD i <;> cases (bv1 (bitAt L (s + j))).getLsbD i <;> cases (bv1 (t.getLsbD j)).getLsbD i <;> rfl
    · rw [BitVec.getLsbD_ushiftRight, BitVec.getLsbD_of_ge _ _ (by omega)]
theorem delta_out (r : BitVec 32) (L : List UInt8) (s : Nat) (t : BitVec 32) (k : Nat) (hk : k ≤ 32) (hs : s + k ≤ 8 * L.length) (m : Nat) :
    pre r (fl L s t k) (s + k + m) ^^^ pre r L (s + k + m) = stpN m (stpN k (low t k)) := by
  have hb := fun p => bit_fl L s t k p hs
  induction m with
  | zero =>
    have h := (delta_in r L s t k hk hs).2 k (Nat.le_refl _)
    have h0 : low t k >>> k = 0#32 := by
      apply BitVec.eq_of_getLsbD_eq
      intro i hi
      rw [BitVec.getLsbD_ushiftRight]
      by_cases h32 : k + i < 32
      · have hn : ¬ k + i < k := by omega
        rw [low_bit_k _ _ _ h32]; simp [hn]
      · rw [BitVec.getLsbD_of_ge _ _ (by omega)]; simp
    rw [h0, BitVec.xor_zero] at h
    exact h
  | succ m ih =>
    rw [stpN_succ, ← ih]
    show stp (pre r (fl L s t k) (s + k + m) ^^^ bv1 (bitAt (fl L s t k) (s + k + m))) ^^^ stp (pre r L (s + k + m) ^^^ bv1 (bitAt L (s + k + m))) = _
    have e2 : ¬ s + k + m < s + k := by omega
    rw [hb (s + k + m), ← stp_xor]
    simp only [e2, decide_false, Bool.and_false, Bool.false_and, Bool.xor_false]
    congr 1
    apply BitVec.eq_of_getLsbD_eq
    intro i hi
    simp only [BitVec.getLsbD_xor]
    cases (pre r (fl L s t k) (s + k + m)).getLsbD i <;> cases (pre r L (s + k + m)).getLsbD i <;> cases (bv1 (bitAt L (s + k + m))).getLsbD i <;> rfl
theorem bursts (L : List UInt8) (s : Nat) (t : BitVec 32) (k : Nat) (hk : k ≤ 32) (hs : s + k ≤ 8 * L.length) : (crc (fl L s t k) ≠ crc L) ↔ oth t k = true := by
  have h := delta_out (~~~ 0#32) L s t k hk hs (8 * L.length - (s + k))
  rw [show s + k + (8 * L.length - (s + k)) = 8 * L.length by omega] at h
  have e1 := pre_fd (~~~ 0#32) L L.length (Nat.le_refl _)
  have e2 := pre_fd (~~~ 0#32) (fl L s t k) L.length (by rw [fl_len]; exact Nat.le_refl _)
  rw [List.take_of_length_le (by rw [fl_len]; exact Nat.le_refl _)] at e2
  rw [List.take_length] at e1
  rw [e1, e2] at h
  have h2 : crc (fl L s t k) = crc L ↔ low t k = 0#32 := by
    constructor
    · intro e
      have e' : fd (~~~ 0#32) (fl L s t k) = fd (~~~ 0#32) L := by
        unfold crc at e
        have := congrArg (fun x => ~~~ x) e
        simpa using this
      rw [e', BitVec.xor_self] at h
      exact stpN_inj0 _ _ (stpN_inj0 _ _ h.symm)
    · intro e
      rw [e, stpN_zero, stpN_zero] at h
      have e' : fd (~~~ 0#32) (fl L s t k) = fd (~~~ 0#32) L := by
        have := congrArg (fun x => x ^^^ fd (~~~ 0#32) L) h
        simpa [BitVec.xor_assoc] using this
      unfold crc
      rw [e']
  rw [ne_eq, h2, low_zero t k hk]
  cases oth t k <;> simp
end Go.Proofs.Ytnjgmbjeclmcnaa
