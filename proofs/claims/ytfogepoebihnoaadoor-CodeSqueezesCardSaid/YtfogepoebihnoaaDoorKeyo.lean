/- Keys are ordered as their bytes are: plain. No program. -/
import Derived.Test.YtfogepoebihnoaaDoorKeyp
namespace Go.Proofs.YtfogepoebihnoaaDoor
set_option linter.unusedSimpArgs false
set_option linter.unusedVariables false
def partLt (x y : PartD) : Bool := (x.kind != y.kind && x.kind == 1) || (x.kind == y.kind && (decide (x.num < y.num) || decide (x.text < y.text)))
def ordL : List PartD → List PartD → Int
  | [], [] => 0
  | [], _ :: _ => -1
  | _ :: _, [] => 1
  | x :: a, y :: b => if x = y then ordL a b else if partLt x y = true then -1 else 1
/-- where two texts part, the first has the lesser byte -/
def Spl (a b : List UInt8) : Prop := ∃ c x y r s, a = c ++ x :: r ∧ b = c ++ y :: s ∧ x < y
theorem lt_pre (c a b : List UInt8) : c ++ a < c ++ b ↔ a < b := by
  induction c with
  | nil => rfl
  | cons x c ih => simp [List.cons_lt_cons_iff, ih]
theorem Spl.lt {a b : List UInt8} (h : Spl a b) : a < b := by
  obtain ⟨c, x, y, r, s, rfl, rfl, h⟩ := h
  rw [lt_pre, List.cons_lt_cons_iff]
  exact .inl h
theorem Spl.app {a b : List UInt8} (h : Spl a b) (u v : List UInt8) : Spl (a ++ u) (b ++ v) := by
  obtain ⟨c, x, y, r, s, rfl, rfl, h⟩ := h
  exact ⟨c, x, y, r ++ u, s ++ v, by simp, by simp, h⟩
theorem Spl.pre {a b : List UInt8} (h : Spl a b) (d : List UInt8) : Spl (d ++ a) (d ++ b) := by
  obtain ⟨c, x, y, r, s, rfl, rfl, h⟩ := h
  exact ⟨d ++ c, x, y, r, s, by simp, by simp, h⟩
theorem Spl.head {x y : UInt8} (h : x < y) (r s : List UInt8) : Spl (x :: r) (y :: s) := ⟨[], x, y, r, s, rfl, rfl, h⟩
theorem lt_irr (a : List UInt8) : ¬ a < a := by
  induction a with
  | nil => simp
  | cons x a ih =>
    rw [List.cons_lt_cons_iff]
    rintro (h | ⟨_, h⟩)
    · exact absurd (UInt8.lt_iff_toNat_lt.1 h) (Nat.lt_irrefl _)
    · exact ih h
theorem lt_asym : ∀ a b : List UInt8, a < b → ¬ b < a
  | [], [], h => by simp at h
  | [], _ :: _, _ => by simp
  | _ :: _, [], h => by simp at h
  | x :: a, y :: b, h => by
    rw [List.cons_lt_cons_iff] at h ⊢
    rintro (h2 | ⟨h2, h3⟩) <;> rcases h with h | ⟨h4, h5⟩
    · have := UInt8.lt_iff_toNat_lt.1 h; have := UInt8.lt_iff_toNat_lt.1 h2; omega
    · subst h4; exact absurd (UInt8.lt_iff_toNat_lt.1 h2) (Nat.lt_irrefl _)
    · subst h2; exact absurd (UInt8.lt_iff_toNat_lt.1 h) (Nat.lt_irrefl _)
    · exact lt_asym a b h5 h3
theorem lt_tot : ∀ a b : List UInt8, a ≠ b → a < b ∨ b < a
  | [], [], h => absurd rfl h
  | [], _ :: _, _ => .inl (by simp)
  | _ :: _, [], _ => .inr (by simp)
  | x :: a, y :: b, h => by
    rw [List.cons_lt_cons_iff, List.cons_lt_cons_iff]
    by_cases hx : x = y
    · subst hx
      rcases lt_tot a b (fun e => h (by rw [e])) with h2 | h2
      · exact .inl (.inr ⟨rfl, h2⟩)
      · exact .inr (.inr ⟨rfl, h2⟩)
    · have : x.toNat ≠ y.toNat := fun e => hx (UInt8.toNat_inj.1 e)
      rcases Nat.lt_or_gt_of_ne this with h2 | h2
      · exact .inl (.inl (UInt8.lt_iff_toNat_lt.2 h2))
      · exact .inr (.inl (UInt8.lt_iff_toNat_lt.2 h2))
theorem nb_mono : ∀ m n, n ≤ m → nb n ≤ nb m := by
  intro m
  induction m using Nat.strongRecOn with
  | ind m ih =>
    intro n h
    by_cases hn : n = 0
    · rw [hn, nb_zero]; omega
    · rw [nb_pos n hn, nb_pos m (by omega)]
      have := ih (m / 256) (by omega) (n / 256) (by omega)
      omega
theorem nb_lt : ∀ n, n < 256 ^ nb n := by
  intro n
  induction n using Nat.strongRecOn with
  | ind n ih =>
    by_cases hn : n = 0
    · rw [hn, nb_zero]; decide
    · rw [nb_pos n hn, Nat.pow_succ]
      have := ih (n / 256) (by omega)
      omega
theorem ofNat_lt {a b : Nat} (h : a % 256 < b % 256) : UInt8.ofNat a < UInt8.ofNat b := by
  rw [UInt8.lt_iff_toNat_lt, UInt8.toNat_ofNat', UInt8.toNat_ofNat']
  exact h
theorem be_spl : ∀ k n m, n % 256 ^ k < m % 256 ^ k → Spl (be n k) (be m k) := by
  intro k
  induction k with
  | zero => intro n m h; simp [Nat.mod_one] at h
  | succ k ih =>
    intro n m h
    have d1 := Nat.mod_mul_right_div_self n (256 ^ k) 256
    have d2 := Nat.mod_mul_right_div_self m (256 ^ k) 256
    have m1 := Nat.mod_mul_right_mod n (256 ^ k) 256
    have m2 := Nat.mod_mul_right_mod m (256 ^ k) 256
    rw [Nat.pow_succ] at h
    generalize hN : n % (256 ^ k * 256) = N at *
    generalize hM : m % (256 ^ k * 256) = M at *
    have e1 := Nat.div_add_mod N (256 ^ k)
    have e2 := Nat.div_add_mod M (256 ^ k)
    have hle : N / 256 ^ k ≤ M / 256 ^ k := Nat.div_le_div_right (by omega)
    by_cases hq : N / 256 ^ k < M / 256 ^ k
    · exact Spl.head (ofNat_lt (by rw [← d1, ← d2]; exact hq)) _ _
    · have hq2 : N / 256 ^ k = M / 256 ^ k := by omega
      have hh : UInt8.ofNat (n / 256 ^ k) = UInt8.ofNat (m / 256 ^ k) := by
        apply UInt8.toNat_inj.1
        rw [UInt8.toNat_ofNat', UInt8.toNat_ofNat']
        show n / 256 ^ k % 256 = m / 256 ^ k % 256
        rw [← d1, ← d2, hq2]
      have := ih n m (by rw [← m1, ← m2]; rw [hq2] at e1; omega)
      show Spl (UInt8.ofNat (n / 256 ^ k) :: be n k) (UInt8.ofNat (m / 256 ^ k) :: be m k)
      rw [hh]
      exact this.pre [_]
theorem numB_spl {n m : Nat} (h : n < m) (hm : m < 256 ^ 8) : Spl (numB n) (numB m) := by
  have h8 := nb_le 8 m hm
  have hmo := nb_mono m n (by omega)
  unfold numB
  by_cases hq : nb n < nb m
  · exact Spl.head (ofNat_lt (by omega)) _ _
  · have e : nb n = nb m := by omega
    rw [e]
    refine Spl.pre (be_spl _ n m ?_) [_]
    have h1 := nb_lt m
    rw [Nat.mod_eq_of_lt h1, Nat.mod_eq_of_lt (by omega)]
    exact h
theorem esc_spl : ∀ s t : List UInt8, s < t → Spl (esc s ++ [0, 1]) (esc t ++ [0, 1])
  | s, [], h => by simp at h
  | [], b :: t, _ => by
    simp only [esc]
    split
    · exact (Spl.head (x := 1) (y := 255) (by decide) [] (esc t ++ [0, 1])).pre [0]
    · rename_i hb
      refine Spl.head ?_ _ _
      rw [UInt8.lt_iff_toNat_lt]
      have : b.toNat ≠ (0 : UInt8).toNat := fun e => hb (UInt8.toNat_inj.1 e)
      have e0 : (0 : UInt8).toNat = 0 := rfl
      omega
  | a :: s, b :: t, h => by
    rw [List.cons_lt_cons_iff] at h
    rcases h with h | ⟨rfl, h⟩
    · have hb : b ≠ 0 := by
        intro e
        subst e
        have := UInt8.lt_iff_toNat_lt.1 h
        have e0 : (0 : UInt8).toNat = 0 := rfl
        omega
      simp only [esc, if_neg hb]
      by_cases ha : a = 0
      · subst ha
        exact Spl.head h _ _
      · rw [if_neg ha]
        exact Spl.head h _ _
    · have := esc_spl s t h
      simp only [esc]
      split
      · exact this.pre [0, 255]
      · exact this.pre [a]
def encP (p : PartD) : List UInt8 := if p.kind = 1 then numB p.num else txtB p.text
def enc : List PartD → List UInt8
  | [] => []
  | p :: r => encP p ++ enc r
def Good (p : PartD) : Prop := p.num < 256 ^ 8 ∧ ((p.kind = 1 ∧ p.text = []) ∨ (p.kind = 2 ∧ p.num = 0))
theorem part_spl {x y : PartD} (hx : Good x) (hy : Good y) (hne : x ≠ y) : if partLt x y = true then Spl (encP x) (encP y) else Spl (encP y) (encP x) := by
  obtain ⟨kx, nx, tx⟩ := x
  obtain ⟨ky, ny, ty⟩ := y
  obtain ⟨hx0, hx⟩ := hx
  obtain ⟨hy0, hy⟩ := hy
  simp only at hx hy hx0 hy0
  rcases hx with ⟨rfl, rfl⟩ | ⟨rfl, rfl⟩ <;> rcases hy with ⟨rfl, rfl⟩ | ⟨rfl, rfl⟩
  · have hn : nx ≠ ny := fun e => hne (by rw [e])
    by_cases h : nx < ny
    · rw [if_pos (by simp [partLt, h])]
      exact numB_spl h hy0
    · rw [if_neg (by simp [partLt, h])]
      exact numB_spl (show ny < nx by omega) hx0
  · rw [if_pos (by simp [partLt])]
    have h8 := nb_le 8 nx hx0
    exact Spl.head (by
      rw [UInt8.lt_iff_toNat_lt, UInt8.toNat_ofNat']
      show (16 + nb nx) % 256 < 32
      omega) _ _
  · rw [if_neg (by simp [partLt])]
    have h8 := nb_le 8 ny hy0
    exact Spl.head (by
      rw [UInt8.lt_iff_toNat_lt, UInt8.toNat_ofNat']
      show (16 + nb ny) % 256 < 32
      omega) _ _
  · have ht : tx ≠ ty := fun e => hne (by rw [e])
    by_cases h : tx < ty
    · rw [if_pos (by simp [partLt, h])]
      exact (esc_spl _ _ h).pre [32]
    · rw [if_neg (by simp [partLt, h])]
      exact (esc_spl _ _ ((lt_tot tx ty ht).resolve_left h)).pre [32]
theorem encP_cons (p : PartD) : ∃ b r, encP p = b :: r := by
  unfold encP
  split
  · exact ⟨_, _, rfl⟩
  · exact ⟨_, _, rfl⟩
/-- what the law computes of two keys' bytes -/
def cmpB (x y : List UInt8) : Int := if x < y then -1 else if y < x then 1 else 0
theorem ord_enc : ∀ a b : List PartD, (∀ p ∈ a, Good p) → (∀ p ∈ b, Good p) → cmpB (enc a) (enc b) = ordL a b
  | [], [], _, _ => by simp [cmpB, enc, ordL]
  | [], y :: b, _, _ => by
    obtain ⟨c, r, h⟩ := encP_cons y
    simp [cmpB, enc, ordL, h]
  | x :: a, [], _, _ => by
    obtain ⟨c, r, h⟩ := encP_cons x
    simp [cmpB, enc, ordL, h]
  | x :: a, y :: b, ha, hb => by
    by_cases hxy : x = y
    · subst hxy
      have h := ord_enc a b (fun p hp => ha p (List.mem_cons_of_mem _ hp)) (fun p hp => hb p (List.mem_cons_of_mem _ hp))
      have e : ordL (x :: a) (x :: b) = ordL a b := if_pos rfl
      rw [e, ← h]
      simp only [cmpB, enc, lt_pre]
    · have h := part_spl (ha x (List.mem_cons_self ..)) (hb y (List.mem_cons_self ..)) hxy
      have e : ordL (x :: a) (y :: b) = if partLt x y = true then -1 else 1 := if_neg hxy
      rw [e]
      by_cases hp : partLt x y = true
      · rw [if_pos hp] at h ⊢
        exact if_pos (h.app (enc a) (enc b)).lt
      · rw [if_neg hp] at h ⊢
        have hl := (h.app (enc b) (enc a)).lt
        exact (if_neg (lt_asym _ _ hl)).trans (if_pos hl)
/-- a list without faults gives its bytes -/
theorem keyL_good : ∀ (l : List PartD) (out : List UInt8), (keyL out l).1 = 0 → (keyL out l).2 = out ++ enc l ∧ ∀ p ∈ l, (p.kind = 1 ∧ p.text = []) ∨ (p.kind = 2 ∧ p.num = 0)
  | [], out, _ => ⟨by simp [keyL, enc], by simp⟩
  | p :: r, out, h => by
    by_cases c1 : p.kind = 1 ∧ p.text = []
    · have e : keyL out (p :: r) = keyL (out ++ numB p.num) r := if_pos c1
      rw [e] at h ⊢
      obtain ⟨h1, h2⟩ := keyL_good r _ h
      refine ⟨by rw [h1]; simp [enc, encP, c1.1], ?_⟩
      intro q hq
      rcases List.mem_cons.1 hq with rfl | hq
      · exact .inl c1
      · exact h2 q hq
    · by_cases c2 : p.kind ≠ 2 ∨ p.num ≠ 0
      · have e : keyL out (p :: r) = (5, []) := (if_neg c1).trans (if_pos c2)
        rw [e] at h
        cases h
      · by_cases c3 : 60 < p.text.length
        · have e : keyL out (p :: r) = (6, []) := (if_neg c1).trans ((if_neg c2).trans (if_pos c3))
          rw [e] at h
          cases h
        · have e : keyL out (p :: r) = keyL (out ++ txtB p.text) r := (if_neg c1).trans ((if_neg c2).trans (if_neg c3))
          rw [e] at h ⊢
          obtain ⟨h1, h2⟩ := keyL_good r _ h
          have hk : p.kind = 2 ∧ p.num = 0 := by omega
          refine ⟨by rw [h1]; simp [enc, encP, hk.1], ?_⟩
          intro q hq
          rcases List.mem_cons.1 hq with rfl | hq
          · exact .inr hk
          · exact h2 q hq
theorem keyL_take : ∀ (l : List PartD) (out out' : List UInt8) (n : Nat), (keyL out l).1 = 0 → (keyL out' (l.take n)).1 = 0
  | [], _, _, _, _ => by simp [keyL]
  | p :: r, out, out', 0, _ => rfl
  | p :: r, out, out', n + 1, h => by
    rw [List.take_succ_cons]
    by_cases c1 : p.kind = 1 ∧ p.text = []
    · have e : ∀ o l, keyL o (p :: l) = keyL (o ++ numB p.num) l := fun o l => if_pos c1
      rw [e] at h ⊢
      exact keyL_take r _ _ n h
    · by_cases c2 : p.kind ≠ 2 ∨ p.num ≠ 0
      · have e : keyL out (p :: r) = (5, []) := (if_neg c1).trans (if_pos c2)
        rw [e] at h
        cases h
      · by_cases c3 : 60 < p.text.length
        · have e : keyL out (p :: r) = (6, []) := (if_neg c1).trans ((if_neg c2).trans (if_pos c3))
          rw [e] at h
          cases h
        · have e : ∀ o l, keyL o (p :: l) = keyL (o ++ txtB p.text) l := fun o l => (if_neg c1).trans ((if_neg c2).trans (if_neg c3))
          rw [e] at h ⊢
          exact keyL_take r _ _ n h
theorem key_good (l : List PartD) (h : (key l).1 = 0) (hn : ∀ p ∈ l, p.num < 256 ^ 8) : (key l).2 = enc l ∧ ∀ p ∈ l, Good p := by
  unfold key at h ⊢
  by_cases h8 : 8 < l.length
  · rw [if_pos h8] at h; cases h
  · rw [if_neg h8] at h ⊢
    obtain ⟨h1, h2⟩ := keyL_good l [] h
    exact ⟨by simpa using h1, fun p hp => ⟨hn p hp, h2 p hp⟩⟩
theorem key_take (l : List PartD) (n : Nat) (h : (key l).1 = 0) : (key (l.take n)).1 = 0 := by
  unfold key at h ⊢
  by_cases h8 : 8 < l.length
  · rw [if_pos h8] at h; cases h
  · rw [if_neg h8] at h
    rw [if_neg (by simp; omega)]
    exact keyL_take l [] [] n h
theorem enc_take (l : List PartD) (n : Nat) : ∃ u, enc l = enc (l.take n) ++ u := by
  induction l generalizing n with
  | nil => exact ⟨[], by simp [enc]⟩
  | cons p r ih =>
    cases n with
    | zero => exact ⟨enc (p :: r), by simp [enc]⟩
    | succ n =>
      obtain ⟨u, hu⟩ := ih n
      exact ⟨u, by simp only [List.take_succ_cons, enc, List.append_assoc, ← hu]⟩
end Go.Proofs.YtfogepoebihnoaaDoor
