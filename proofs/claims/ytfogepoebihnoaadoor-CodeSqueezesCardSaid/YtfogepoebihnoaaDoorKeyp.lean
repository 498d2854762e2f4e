/- Keys as plain data: the parts, what is wrong with them, the key's bytes. No program. -/
namespace Go.Proofs.YtfogepoebihnoaaDoor
set_option linter.unusedSimpArgs false
set_option linter.unusedVariables false
structure PartD where
  kind : Int
  num : Nat
  text : List UInt8
deriving DecidableEq
/-- how many bytes a number takes -/
def nb (n : Nat) : Nat := if n = 0 then 0 else nb (n / 256) + 1
decreasing_by omega
def be (n : Nat) : Nat → List UInt8
  | 0 => []
  | k + 1 => UInt8.ofNat (n / 256 ^ k) :: be n k
def numB (n : Nat) : List UInt8 := UInt8.ofNat (16 + nb n) :: be n (nb n)
def esc : List UInt8 → List UInt8
  | [] => []
  | b :: r => if b = 0 then 0 :: 255 :: esc r else b :: esc r
def txtB (s : List UInt8) : List UInt8 := 32 :: (esc s ++ [0, 1])
def keyL : List UInt8 → List PartD → Int × List UInt8
  | out, [] => (0, out)
  | out, p :: r => if p.kind = 1 ∧ p.text = [] then keyL (out ++ numB p.num) r else if p.kind ≠ 2 ∨ p.num ≠ 0 then (5, []) else if 60 < p.text.length then (6, []) else keyL (out ++ txtB p.text) r
def key (l : List PartD) : Int × List UInt8 := if 8 < l.length then (14, []) else keyL [] l
theorem nb_zero : nb 0 = 0 := by rw [nb]; rfl
theorem nb_pos (n : Nat) (h : n ≠ 0) : nb n = nb (n / 256) + 1 := by rw [nb, if_neg h]
theorem nb_le (k : Nat) : ∀ n, n < 256 ^ k → nb n ≤ k := by
  induction k with
  | zero => intro n h; obtain rfl : n = 0 := by simpa using h
            rw [nb_zero]; exact Nat.le_refl 0
  | succ k ih =>
    intro n h
    by_cases h0 : n = 0
    · rw [h0, nb_zero]; omega
    · rw [nb_pos n h0]
      have := ih (n / 256) (by rw [Nat.pow_succ] at h; omega)
      omega
theorem be_len (n k : Nat) : (be n k).length = k := by
  induction k with
  | zero => rfl
  | succ k ih => simp [be, ih]
theorem esc_len (s : List UInt8) : (esc s).length ≤ 2 * s.length := by
  induction s with
  | nil => simp [esc]
  | cons b r ih => simp only [esc]; split <;> simp <;> omega
theorem esc_append (a b : List UInt8) : esc (a ++ b) = esc a ++ esc b := by
  induction a with
  | nil => rfl
  | cons x a ih => simp only [List.cons_append, esc]; split <;> simp [ih]
end Go.Proofs.YtfogepoebihnoaaDoor
