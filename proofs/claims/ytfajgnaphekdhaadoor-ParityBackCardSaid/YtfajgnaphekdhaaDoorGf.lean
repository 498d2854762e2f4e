/- Numbers of eight bits, added and doubled: what the reference's product is. No program. -/
import Derived.KernelRfl
namespace Go.Proofs.YtfajgnaphekdhaaDoor
set_option linter.unusedSimpArgs false
set_option linter.unusedVariables false
/-- one step of taking the rest: bit i is cleared by c -/
def stp (i c r : Nat) : Nat := if r.testBit i then r ^^^ c else r
theorem stp_xor (i c a b : Nat) : stp i c (a ^^^ b) = stp i c a ^^^ stp i c b := by
  unfold stp
  rw [Nat.testBit_xor]
  cases ha : a.testBit i <;> cases hb : b.testBit i <;> simp
  · exact Nat.xor_assoc _ _ _
  · rw [Nat.xor_assoc, Nat.xor_comm b c, ← Nat.xor_assoc]
  · rw [Nat.xor_assoc a c, ← Nat.xor_assoc c b c, Nat.xor_comm c b, Nat.xor_assoc b c c, Nat.xor_self, Nat.xor_zero]
def dbl (x : Nat) : Nat := stp 8 285 (x <<< 1)
theorem dbl_xor (a b : Nat) : dbl (a ^^^ b) = dbl a ^^^ dbl b := by
  unfold dbl
  rw [Nat.shiftLeft_xor_distrib, stp_xor]
theorem dbl_lt (x : Nat) (h : x < 256) : dbl x < 256 := by
  have hall : ((List.range 256).all fun x => decide (dbl x < 256)) = true := by kernel_rfl
  exact of_decide_eq_true (List.all_eq_true.1 hall x (List.mem_range.2 h))
def dblN : Nat → Nat → Nat
  | 0, x => x
  | n + 1, x => dbl (dblN n x)
theorem dblN_xor (n a b : Nat) : dblN n (a ^^^ b) = dblN n a ^^^ dblN n b := by
  induction n with
  | zero => rfl
  | succ n ih => simp only [dblN, ih, dbl_xor]
theorem dblN_lt (n x : Nat) (h : x < 256) : dblN n x < 256 := by
  induction n with
  | zero => exact h
  | succ n ih => exact dbl_lt _ ih
theorem dblN_zero (n : Nat) : dblN n 0 = 0 := by
  induction n with
  | zero => rfl
  | succ n ih => simp only [dblN, ih]; rfl
theorem dblN_add (m n x : Nat) : dblN (m + n) x = dblN m (dblN n x) := by
  induction m with
  | zero => simp [dblN]
  | succ m ih => rw [Nat.succ_add]; simp only [dblN, ih]
theorem dblN_comm (m n x : Nat) : dblN m (dblN n x) = dblN n (dblN m x) := by
  rw [← dblN_add, Nat.add_comm, dblN_add]
theorem dblN_succ (n x : Nat) : dblN (n + 1) x = dblN n (dbl x) := dblN_add n 1 x
/-- the polynomials' product of x and the first n bits of y -/
def polyN (x y : Nat) : Nat → Nat
  | 0 => 0
  | n + 1 => if y.testBit n then polyN x y n ^^^ (x <<< n) else polyN x y n
/-- the rest, bits 14 down to 8, the first n of them -/
def redN : Nat → Nat → Nat
  | 0, r => r
  | n + 1, r => stp (14 - n) (285 <<< (6 - n)) (redN n r)
def mulN (x y : Nat) : Nat := redN 7 (polyN x y 8)
theorem redN_xor (n a b : Nat) : redN n (a ^^^ b) = redN n a ^^^ redN n b := by
  induction n with
  | zero => rfl
  | succ n ih => simp only [redN, ih, stp_xor]
theorem redN_shift (x i : Nat) (hx : x < 256) (hi : i < 8) : redN 7 (x <<< i) = dblN i x := by
  have hall : ((List.range 256).all fun x => (List.range 8).all fun i => redN 7 (x <<< i) == dblN i x) = true := by kernel_rfl
  have h := List.all_eq_true.1 (List.all_eq_true.1 hall x (List.mem_range.2 hx)) i (List.mem_range.2 hi)
  simpa using h
/-- the sum of the doublings of x that y's first n bits tell -/
def sumD (x y : Nat) : Nat → Nat
  | 0 => 0
  | n + 1 => if y.testBit n then sumD x y n ^^^ dblN n x else sumD x y n
theorem redN_zero (n : Nat) : redN n 0 = 0 := by
  induction n with
  | zero => rfl
  | succ n ih => simp only [redN, ih, stp, Nat.zero_testBit]; rfl
theorem redN_poly (x y n : Nat) (hx : x < 256) (hn : n ≤ 8) : redN 7 (polyN x y n) = sumD x y n := by
  induction n with
  | zero => exact redN_zero 7
  | succ n ih =>
    simp only [polyN, sumD]
    split
    · rw [redN_xor, ih (by omega), redN_shift x n hx (by omega)]
    · exact ih (by omega)
theorem mulN_sum (x y : Nat) (hx : x < 256) : mulN x y = sumD x y 8 := redN_poly x y 8 hx (Nat.le_refl _)
theorem sumD_dbl (m x y n : Nat) : sumD (dblN m x) y n = dblN m (sumD x y n) := by
  induction n with
  | zero => exact (dblN_zero m).symm
  | succ n ih =>
    simp only [sumD]
    split
    · rw [ih, dblN_xor, dblN_comm]
    · exact ih
theorem mulN_one (y : Nat) (h : y < 256) : mulN 1 y = y := by
  have hall : ((List.range 256).all fun y => mulN 1 y == y) = true := by kernel_rfl
  have := List.all_eq_true.1 hall y (List.mem_range.2 h)
  simpa using this
theorem mulN_dbl (m y : Nat) (h : y < 256) : mulN (dblN m 1) y = dblN m y := by
  rw [mulN_sum _ _ (dblN_lt m 1 (by decide)), sumD_dbl, ← mulN_sum 1 y (by decide), mulN_one y h]
theorem mulN_two (x : Nat) (h : x < 256) : mulN x 2 = dbl x := by
  have hall : ((List.range 256).all fun x => mulN x 2 == dbl x) = true := by kernel_rfl
  have := List.all_eq_true.1 hall x (List.mem_range.2 h)
  simpa using this
/-- P and Q of one column: the bytes of the pieces at one place -/
def colP : List Nat → Nat
  | [] => 0
  | b :: r => b ^^^ colP r
def colQ : Nat → List Nat → Nat
  | _, [] => 0
  | i, b :: r => dblN i b ^^^ colQ (i + 1) r
/-- Q by Horner's rule, from the last piece on -/
def horn : List Nat → Nat
  | [] => 0
  | b :: r => dbl (horn r) ^^^ b
theorem colQ_succ (l : List Nat) : ∀ i, colQ (i + 1) l = dbl (colQ i l) := by
  induction l with
  | nil => intro i; exact (dblN_zero 1).symm
  | cons b r ih =>
    intro i
    simp only [colQ]
    rw [dbl_xor, ih (i + 1)]
    rfl
theorem horn_colQ (l : List Nat) : horn l = colQ 0 l := by
  induction l with
  | nil => rfl
  | cons b r ih =>
    simp only [horn, colQ, dblN]
    rw [colQ_succ, ih, Nat.xor_comm]
end Go.Proofs.YtfajgnaphekdhaaDoor
