/- Numbers of eight bits other than 0 are doublings of 1: products, inverses and sums of them. No program. -/
import Derived.Test.YtfajgnaphekdhaaDoorGf
namespace Go.Proofs.YtfajgnaphekdhaaDoor
set_option linter.unusedSimpArgs false
set_option linter.unusedVariables false
/-- x and its next n - 1 doublings -/
def pows : Nat → Nat → List Nat
  | 0, _ => []
  | n + 1, x => x :: pows n (dbl x)
theorem pows_mem : ∀ (n j y : Nat), y ∈ pows n (dblN j 1) → ∃ k, y = dblN (j + k) 1
  | 0, _, _, h => by simp [pows] at h
  | n + 1, j, y, h => by
    simp only [pows, List.mem_cons] at h
    rcases h with rfl | h
    · exact ⟨0, rfl⟩
    · obtain ⟨k, hk⟩ := pows_mem n (j + 1) y h
      exact ⟨k + 1, by rw [hk, show j + 1 + k = j + (k + 1) by omega]⟩
set_option maxRecDepth 100000 in
theorem log_all : ((fun l : List Nat => (List.range 255).all fun x => l.elem (x + 1)) (pows 255 1)) = true := by kernel_rfl
theorem log (x : Nat) (h0 : x ≠ 0) (hx : x < 256) : ∃ k, x = dblN k 1 := by
  have h := List.all_eq_true.1 log_all (x - 1) (List.mem_range.2 (by omega))
  rw [show x - 1 + 1 = x by omega] at h
  have := pows_mem 255 0 x (List.elem_iff.1 h)
  simpa using this
theorem dblN_255_1 : dblN 255 1 = 1 := by kernel_rfl
theorem dblN_255 (y : Nat) (h : y < 256) : dblN 255 y = y := by
  rw [← mulN_dbl 255 y h, dblN_255_1, mulN_one y h]
theorem dblN_255k (k y : Nat) (h : y < 256) : dblN (255 * k) y = y := by
  induction k with
  | zero => rfl
  | succ k ih => rw [Nat.mul_succ, dblN_add, dblN_255 y h, ih]
theorem dblN_inv (k y : Nat) (h : y < 256) : dblN (254 * k) (dblN k y) = y := by
  rw [← dblN_add, show 254 * k + k = 255 * k by omega, dblN_255k k y h]
theorem dblN_inv' (k y : Nat) (h : y < 256) : dblN k (dblN (254 * k) y) = y := by
  rw [dblN_comm, dblN_inv k y h]
theorem dblN_inj (k x y : Nat) (hx : x < 256) (hy : y < 256) (h : dblN k x = dblN k y) : x = y := by
  rw [← dblN_inv k x hx, ← dblN_inv k y hy, h]
theorem mulN_zero (y : Nat) : mulN 0 y = 0 := by
  rw [mulN_sum 0 y (by decide)]
  have : ∀ n, sumD 0 y n = 0 := by
    intro n
    induction n with
    | zero => rfl
    | succ n ih => simp only [sumD, ih, dblN_zero]; split <;> rfl
  exact this 8
/-- a product with a doubling of 1 is a doubling -/
theorem mulN_right (x k : Nat) (hx : x < 256) : mulN x (dblN k 1) = dblN k x := by
  by_cases h0 : x = 0
  · subst h0
    rw [mulN_zero, dblN_zero]
  · obtain ⟨j, rfl⟩ := log x h0 hx
    rw [mulN_dbl j _ (dblN_lt k 1 (by decide)), dblN_comm]
/-- what the 254th power comes to -/
def iterM (x : Nat) : Nat → Nat
  | 0 => 1
  | n + 1 => mulN (iterM x n) x
theorem iterM_dbl (k : Nat) : ∀ n, iterM (dblN k 1) n = dblN (n * k) 1
  | 0 => by simp [iterM, dblN]
  | n + 1 => by
    simp only [iterM]
    rw [iterM_dbl k n, mulN_right _ k (dblN_lt _ 1 (by decide)), ← dblN_add, show k + n * k = (n + 1) * k by rw [Nat.succ_mul]; omega]
theorem iterM_lt (x : Nat) : ∀ n, iterM x n < 256
  | 0 => by simp [iterM]
  | n + 1 => by
    simp only [iterM]
    rw [mulN_sum _ _ (iterM_lt x n)]
    have : ∀ m, sumD (iterM x n) x m < 256 := by
      intro m
      induction m with
      | zero => exact Nat.zero_lt_succ _
      | succ m ih =>
        simp only [sumD]
        split
        · exact Nat.xor_lt_two_pow (n := 8) ih (dblN_lt _ _ (iterM_lt x n))
        · exact ih
    exact this 8
/-- the sum of two doublings of 1 is none of 0 -/
theorem two_log (x y : Nat) (hx : x < 16) (hy : y < 16) (h : x ≠ y) : ∃ k, dblN x 1 ^^^ dblN y 1 = dblN k 1 := by
  have hall : ((List.range 16).all fun x => (List.range 16).all fun y => x == y || dblN x 1 ^^^ dblN y 1 != 0) = true := by kernel_rfl
  have h1 := List.all_eq_true.1 (List.all_eq_true.1 hall x (List.mem_range.2 hx)) y (List.mem_range.2 hy)
  have hb : (x == y) = false := by simpa using h
  rw [hb, Bool.false_or, bne_iff_ne] at h1
  exact log _ h1 (Nat.xor_lt_two_pow (n := 8) (dblN_lt _ _ (by decide)) (dblN_lt _ _ (by decide)))
theorem dblN_sum (x y k z : Nat) (h : dblN x 1 ^^^ dblN y 1 = dblN k 1) (hz : z < 256) : dblN x z ^^^ dblN y z = dblN k z := by
  by_cases h0 : z = 0
  · subst h0
    rw [dblN_zero, dblN_zero, dblN_zero]; rfl
  · obtain ⟨j, rfl⟩ := log z h0 hz
    rw [dblN_comm x, dblN_comm y, dblN_comm k, ← h, dblN_xor]
end Go.Proofs.YtfajgnaphekdhaaDoor
