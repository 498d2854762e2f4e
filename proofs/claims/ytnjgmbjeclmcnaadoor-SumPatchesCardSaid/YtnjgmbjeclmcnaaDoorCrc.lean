/- plain laws of the sum: no program -/
namespace Go.Proofs.YtnjgmbjeclmcnaaDoor
set_option linter.unusedSimpArgs false
set_option linter.unusedVariables false
/-- sum.step -/
def stp (r : BitVec 32) : BitVec 32 := if r.getLsbD 0 then (r >>> 1) ^^^ 0x82f63b78#32 else r >>> 1
def stpN : Nat → BitVec 32 → BitVec 32
  | 0, r => r
  | n + 1, r => stpN n (stp r)
theorem stpN_succ (n : Nat) (r : BitVec 32) : stpN (n + 1) r = stp (stpN n r) := by
  induction n generalizing r with
  | zero => rfl
  | succ n ih => exact ih (stp r)
theorem stpN_add (m n : Nat) (r : BitVec 32) : stpN (m + n) r = stpN m (stpN n r) := by
  induction m with
  | zero => simp [stpN]
  | succ m ih => rw [Nat.add_right_comm, stpN_succ, ih, stpN_succ]
def b32 (b : UInt8) : BitVec 32 := b.toBitVec.setWidth 32
def fd (r : BitVec 32) (bs : List UInt8) : BitVec 32 := bs.foldl (fun r b => stpN 8 (r ^^^ b32 b)) r
def crc (bs : List UInt8) : BitVec 32 := ~~~ fd (~~~ 0#32) bs
theorem stp_yes (a : BitVec 32) (h : a.getLsbD 0 = true) : stp a = (a >>> 1) ^^^ 0x82f63b78#32 := by unfold stp; rw [if_pos h]
theorem stp_no (a : BitVec 32) (h : a.getLsbD 0 = false) : stp a = a >>> 1 := by unfold stp; rw [if_neg (by rw [h]; exact Bool.false_ne_true)]
theorem stp_xor (a b : BitVec 32) : stp (a ^^^ b) = stp a ^^^ stp b := by
  have hx : (a ^^^ b).getLsbD 0 = (a.getLsbD 0 ^^ b.getLsbD 0) := BitVec.getLsbD_xor
  cases ha : a.getLsbD 0 <;> cases hb : b.getLsbD 0 <;> rw [ha, hb] at hx
  · rw [stp_no _ ha, stp_no _ hb, stp_no _ hx, BitVec.ushiftRight_xor_distrib]
  · rw [stp_no _ ha, stp_yes _ hb, stp_yes _ hx, BitVec.ushiftRight_xor_distrib, BitVec.xor_assoc]
  · rw [stp_yes _ ha, stp_no _ hb, stp_yes _ hx, BitVec.ushiftRight_xor_distrib, BitVec.xor_assoc, BitVec.xor_assoc, BitVec.xor_comm (b >>> 1)]
  · rw [stp_yes _ ha, stp_yes _ hb, stp_no _ hx, BitVec.ushiftRight_xor_distrib]
    have : ∀ x y p : BitVec 32, x ^^^ y = x ^^^ p ^^^ (y ^^^ p) := by
      intro x y p
      apply BitVec.eq_of_getLsbD_eq
      intro i hi
      rw [BitVec.getLsbD_xor, BitVec.getLsbD_xor, BitVec.getLsbD_xor, BitVec.getLsbD_xor]
      cases x.getLsbD i <;> cases y.getLsbD i <;> cases p.getLsbD i <;> rfl
    exact this _ _ _
theorem stp_zero : stp 0#32 = 0#32 := by decide
theorem stp_inj0 (a : BitVec 32) (h : stp a = 0#32) : a = 0#32 := by
  cases h0 : a.getLsbD 0 with
  | true =>
    exfalso
    rw [stp_yes _ h0] at h
    have h31 : ((a >>> 1) ^^^ 0x82f63b78#32).getLsbD 31 = false := by rw [h]; rfl
    rw [BitVec.getLsbD_xor, BitVec.getLsbD_ushiftRight, BitVec.getLsbD_of_ge a _ (by omega)] at h31
    exact absurd h31 (by decide)
  | false =>
    rw [stp_no _ h0] at h
    apply BitVec.eq_of_getLsbD_eq
    intro i hi
    cases i with
    | zero => rw [h0]; rfl
    | succ i =>
      have h1 : (a >>> 1).getLsbD i = false := by rw [h]; simp
      rw [BitVec.getLsbD_ushiftRight, Nat.add_comm] at h1
      rw [h1]; simp
theorem stpN_xor (n : Nat) (a b : BitVec 32) : stpN n (a ^^^ b) = stpN n a ^^^ stpN n b := by
  induction n generalizing a b with
  | zero => rfl
  | succ n ih => simp only [stpN]; rw [stp_xor, ih]
theorem stpN_zero (n : Nat) : stpN n 0#32 = 0#32 := by
  induction n with
  | zero => rfl
  | succ n ih => simp only [stpN]; rw [stp_zero, ih]
theorem stpN_inj0 (n : Nat) (a : BitVec 32) (h : stpN n a = 0#32) : a = 0#32 := by
  induction n generalizing a with
  | zero => exact h
  | succ n ih => exact stp_inj0 _ (ih _ h)
theorem fd_append (r : BitVec 32) (a b : List UInt8) : fd r (a ++ b) = fd (fd r a) b := by simp [fd]
theorem fd_snoc (r : BitVec 32) (a : List UInt8) (b : UInt8) : fd r (a ++ [b]) = stpN 8 (fd r a ^^^ b32 b) := by simp [fd]
/-- bedrockref.turned, after i rounds -/
def trn (r : BitVec 32) : Nat → BitVec 32
  | 0 => 0#32
  | i + 1 => (trn r i <<< 1) ||| ((r >>> i) &&& 1#32)
/-- bedrockref.Sum: one bit -/
def rbit (r : BitVec 32) (b : UInt8) (k : Nat) : BitVec 32 := if (r >>> 31) ^^^ ((b32 b >>> k) &&& 1#32) = 1#32 then (r <<< 1) ^^^ 0x1edc6f41#32 else r <<< 1
def rbits (r : BitVec 32) (b : UInt8) : Nat → BitVec 32
  | 0 => r
  | k + 1 => rbit (rbits r b k) b k
def rfd (r : BitVec 32) (bs : List UInt8) : BitVec 32 := bs.foldl (fun r b => rbits r b 8) r
theorem rfd_snoc (r : BitVec 32) (a : List UInt8) (b : UInt8) : rfd r (a ++ [b]) = rbits (rfd r a) b 8 := by simp [rfd]
theorem rbit_yes (r : BitVec 32) (b : UInt8) (k : Nat) (h : (r >>> 31) ^^^ ((b32 b >>> k) &&& 1#32) = 1#32) : rbit r b k = (r <<< 1) ^^^ 0x1edc6f41#32 := by unfold rbit; rw [if_pos h]
theorem rbit_no (r : BitVec 32) (b : UInt8) (k : Nat) (h : ¬ (r >>> 31) ^^^ ((b32 b >>> k) &&& 1#32) = 1#32) : rbit r b k = r <<< 1 := by unfold rbit; rw [if_neg h]
def rcrc (bs : List UInt8) : BitVec 32 := ~~~ trn (rfd 0xffffffff#32 bs) 32
/-! ### the reference's sum, turned round, is the program's -/
theorem trn_bit (r : BitVec 32) (n i : Nat) (hn : n ≤ 32) (hi : i < 32) : (trn r n).getLsbD i = (decide (i < n) && r.getLsbD (n - 1 - i)) := by
  induction n generalizing i with
  | zero => simp [trn]
  | succ n ih =>
    have ihn := ih
    have e1 : ((r >>> n) &&& 1#32).getLsbD i = (decide (i = 0) && r.getLsbD n) := by
      rw [BitVec.getLsbD_and, BitVec.getLsbD_ushiftRight]
      cases i with
      | zero => simp
      | succ i => simp
    show ((trn r n <<< 1) ||| ((r >>> n) &&& 1#32)).getLsbD i = _
    rw [BitVec.getLsbD_or, e1, BitVec.getLsbD_shiftLeft]
    cases i with
    | zero => simp
    | succ i =>
      rw [show i + 1 - 1 = i by omega, ihn i (by omega) (by omega), show n + 1 - 1 - (i + 1) = n - 1 - i by omega]
      have : (i + 1 < n + 1) ↔ i < n := by omega
      simp [this, hi]
theorem trn32 (r : BitVec 32) (i : Nat) (hi : i < 32) : (trn r 32).getLsbD i = r.getLsbD (31 - i) := by
  rw [trn_bit r 32 i (by omega) hi]
  simp [hi]
/-- one bit: the reference's step is the program's, turned round -/
theorem trn_rbit (r : BitVec 32) (b : UInt8) (k : Nat) (hk : k < 8) : trn (rbit r b k) 32 = stp (trn r 32 ^^^ ((b32 b >>> k) &&& 1#32)) := by
  have e1 : ∀ i, ((b32 b >>> k) &&& 1#32).getLsbD i = (decide (i = 0) && (b32 b).getLsbD k) := by
    intro i
    rw [BitVec.getLsbD_and, BitVec.getLsbD_ushiftRight]
    cases i with
    | zero => simp
    | succ i => simp
  have e0 : (trn r 32 ^^^ ((b32 b >>> k) &&& 1#32)).getLsbD 0 = (r.getLsbD 31 ^^ (b32 b).getLsbD k) := by
    rw [BitVec.getLsbD_xor, trn32 r 0 (by omega), e1]
    simp
  have etop : ((r >>> 31) ^^^ ((b32 b >>> k) &&& 1#32) = 1#32) ↔ (r.getLsbD 31 ^^ (b32 b).getLsbD k) = true := by
    have hb : ∀ i, i < 32 → ((r >>> 31) ^^^ ((b32 b >>> k) &&& 1#32)).getLsbD i = (decide (i = 0) && (r.getLsbD 31 ^^ (b32 b).getLsbD k)) := by
      intro i hi
      rw [BitVec.getLsbD_xor, e1, BitVec.getLsbD_ushiftRight]
      cases i with
      | zero => simp
      | succ i => rw [BitVec.getLsbD_of_ge _ _ (by omega)]; simp
    constructor
    · intro h
      have := hb 0 (by omega)
      rw [h] at this
      simpa using this.symm
    · intro h
      apply BitVec.eq_of_getLsbD_eq
      intro i hi
      rw [hb i hi, h]
      cases i with
      | zero => rfl
      | succ i => simp
  apply BitVec.eq_of_getLsbD_eq
  intro i hi
  rw [trn32 _ i hi]
  cases ht : (r.getLsbD 31 ^^ (b32 b).getLsbD k) with
  | true =>
    rw [rbit_yes r b k (etop.2 ht), stp_yes _ (e0.trans ht), BitVec.getLsbD_xor, BitVec.getLsbD_xor, BitVec.getLsbD_ushiftRight, BitVec.getLsbD_xor, e1, BitVec.getLsbD_shiftLeft]
    have hp : ∀ i : Fin 32, (0x1edc6f41#32).getLsbD (31 - i.val) = (0x82f63b78#32).getLsbD i.val := by decide
    rw [hp ⟨i, hi⟩]
    by_cases h31 : i = 31
    · subst h31
      rw [BitVec.getLsbD_of_ge (trn r 32) _ (by omega)]
      simp
    · rw [trn32 r (1 + i) (by omega), show 31 - i - 1 = 31 - (1 + i) by omega]
      have h1 : ¬ (31 - i < 1) := by omega
      have h2 : 31 - i < 32 := by omega
      have h3 : ¬ (1 + i = 0) := by omega
      simp [h1, h2, h3]
  | false =>
    rw [rbit_no r b k (fun h => by rw [etop] at h; rw [ht] at h; cases h), stp_no _ (e0.trans ht), BitVec.getLsbD_ushiftRight, BitVec.getLsbD_xor, e1, BitVec.getLsbD_shiftLeft]
    by_cases h31 : i = 31
    · subst h31
      rw [BitVec.getLsbD_of_ge (trn r 32) _ (by omega)]
      simp
    · rw [trn32 r (1 + i) (by omega), show 31 - i - 1 = 31 - (1 + i) by omega]
      have h1 : ¬ (31 - i < 1) := by omega
      have h2 : 31 - i < 32 := by omega
      have h3 : ¬ (1 + i = 0) := by omega
      simp [h1, h2, h3]
/-- a bit that is put in later is a bit that stood higher -/
theorem stp_later (x y : BitVec 32) (hy : y.getLsbD 31 = false) : stp (x ^^^ (y <<< 1)) = stp x ^^^ y := by
  rw [stp_xor]
  congr 1
  have h0 : (y <<< 1).getLsbD 0 = false := by simp
  rw [stp_no _ h0]
  apply BitVec.eq_of_getLsbD_eq
  intro i hi
  rw [BitVec.getLsbD_ushiftRight, BitVec.getLsbD_shiftLeft]
  by_cases h : i = 31
  · subst h; rw [hy]; simp
  · have h1 : 1 + i < 32 := by omega
    simp [h1]
/-- the bits of b from k on -/
def brest (b : UInt8) (k : Nat) : BitVec 32 := b32 b >>> k
theorem brest_split (b : UInt8) (k : Nat) : brest b k = ((b32 b >>> k) &&& 1#32) ^^^ (brest b (k + 1) <<< 1) := by
  apply BitVec.eq_of_getLsbD_eq
  intro i hi
  rw [BitVec.getLsbD_xor, BitVec.getLsbD_and, BitVec.getLsbD_shiftLeft]
  simp only [brest, BitVec.getLsbD_ushiftRight]
  cases i with
  | zero => simp
  | succ i =>
    rw [show k + 1 + (i + 1 - 1) = k + (i + 1) by omega]
    simp [hi]
theorem b32_high (b : UInt8) (i : Nat) (hi : 8 ≤ i) : (b32 b).getLsbD i = false := by
  unfold b32
  rw [BitVec.getLsbD_setWidth, BitVec.getLsbD_of_ge _ _ hi]
  simp
theorem rbits_stp (r : BitVec 32) (b : UInt8) (k : Nat) (hk : k ≤ 8) : trn (rbits r b k) 32 ^^^ brest b k = stpN k (trn r 32 ^^^ b32 b) := by
  induction k with
  | zero => simp [rbits, brest, stpN]
  | succ k ih =>
    have ih := ih (by omega)
    rw [stpN_succ, ← ih]
    show trn (rbit (rbits r b k) b k) 32 ^^^ brest b (k + 1) = _
    rw [trn_rbit _ _ _ (by omega), brest_split b k, ← BitVec.xor_assoc, stp_later]
    simp only [brest, BitVec.getLsbD_ushiftRight]
    exact b32_high _ _ (by omega)
theorem rbits_8 (r : BitVec 32) (b : UInt8) : trn (rbits r b 8) 32 = stpN 8 (trn r 32 ^^^ b32 b) := by
  rw [← rbits_stp r b 8 (by omega)]
  have : brest b 8 = 0#32 := by
    apply BitVec.eq_of_getLsbD_eq
    intro i hi
    simp only [brest, BitVec.getLsbD_ushiftRight]
    rw [b32_high _ _ (by omega)]
    simp
  rw [this, BitVec.xor_zero]
theorem rfd_fd (bs : List UInt8) : ∀ r, trn (rfd r bs) 32 = fd (trn r 32) bs := by
  induction bs with
  | nil => intro r; rfl
  | cons b bs ih =>
    intro r
    show trn (rfd (rbits r b 8) bs) 32 = fd (stpN 8 (trn r 32 ^^^ b32 b)) bs
    rw [ih, rbits_8]
theorem crc_eq (bs : List UInt8) : crc bs = rcrc bs := by
  unfold crc rcrc
  rw [rfd_fd]
  congr 2
end Go.Proofs.YtnjgmbjeclmcnaaDoor
