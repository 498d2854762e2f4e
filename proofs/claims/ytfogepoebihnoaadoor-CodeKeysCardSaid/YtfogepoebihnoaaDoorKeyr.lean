/- Keys read again: plain. No program. -/
import Derived.Test.YtfogepoebihnoaaDoorKeyo
import Derived.Lib.Bytealg
namespace Go.Proofs.YtfogepoebihnoaaDoor
set_option linter.unusedSimpArgs false
set_option linter.unusedVariables false
/-- a text read: what it adds to s, and what is left; none: it is none -/
def txtR : Nat → List UInt8 → List UInt8 → Option (List UInt8 × List UInt8)
  | 0, _, _ => none
  | f + 1, s, rest =>
    if Lib.indexByte rest 0 < 0 ∨ (rest.length : Int) ≤ Lib.indexByte rest 0 + 1 then none
    else if rest.getD ((Lib.indexByte rest 0).toNat + 1) 0 = 1 then some (s ++ rest.take (Lib.indexByte rest 0).toNat, rest.drop ((Lib.indexByte rest 0).toNat + 2))
    else if rest.getD ((Lib.indexByte rest 0).toNat + 1) 0 = 255 then txtR f (s ++ rest.take (Lib.indexByte rest 0).toNat ++ [0]) (rest.drop ((Lib.indexByte rest 0).toNat + 2))
    else none
/-- the number of bytes, the greatest first -/
def numOf (b : List UInt8) : Nat := b.foldl (fun n x => n * 256 + x.toNat) 0
/-- a part behind a mark, and what is left -/
def partR (t : UInt8) (rest : List UInt8) : Option (PartD × List UInt8) :=
  if t.toNat = 32 then
    match txtR (rest.length + 1) [] rest with
    | none => none
    | some (s, r) => if s.length ≤ 60 then some (⟨2, 0, s⟩, r) else none
  else if 16 ≤ t.toNat ∧ t.toNat < 32 then
    if 24 < t.toNat ∨ rest.length < t.toNat - 16 ∨ (16 < t.toNat ∧ rest.getD 0 0 = 0) then none
    else some (⟨1, numOf (rest.take (t.toNat - 16)), []⟩, rest.drop (t.toNat - 16))
  else none
def partsR : Nat → List PartD → List UInt8 → Int × List PartD
  | 0, _, _ => (7, [])
  | _ + 1, out, [] => (0, out)
  | f + 1, out, t :: r =>
    match partR t r with
    | none => (7, [])
    | some (p, rest) => if out.length = 8 then (7, []) else partsR f (out ++ [p]) rest
def parts (b : List UInt8) : Int × List PartD := partsR (b.length + 1) [] b
theorem idx_spec : ∀ (l : List UInt8) (c : UInt8), (Lib.indexByte l c = -1 ∧ c ∉ l) ∨ ∃ i : Nat, Lib.indexByte l c = i ∧ ∃ a r, l = a ++ c :: r ∧ a.length = i ∧ c ∉ a
  | [], c => .inl ⟨rfl, by simp⟩
  | b :: l, c => by
    by_cases h : b = c
    · subst h
      exact .inr ⟨0, by simp [Lib.indexByte], [], l, rfl, rfl, by simp⟩
    · have hb : (b == c) = false := by simpa using h
      rcases idx_spec l c with ⟨h1, h2⟩ | ⟨i, h1, a, r, rfl, h3, h4⟩
      · exact .inl ⟨by simp [Lib.indexByte, hb, h1], by simp only [List.mem_cons, not_or]; exact ⟨fun e => h e.symm, h2⟩⟩
      · refine .inr ⟨i + 1, ?_, b :: a, r, rfl, by simp [h3], by simp only [List.mem_cons, not_or]; exact ⟨fun e => h e.symm, h4⟩⟩
        have hne : ((i : Int) == -1) = false := by
          rw [beq_eq_false_iff_ne]
          omega
        simp [Lib.indexByte, hb, h1, hne]
theorem esc_id (a : List UInt8) (h : (0 : UInt8) ∉ a) : esc a = a := by
  induction a with
  | nil => rfl
  | cons x a ih =>
    simp only [List.mem_cons, not_or] at h
    simp only [esc, if_neg (fun e => h.1 (Eq.symm e))]
    rw [ih h.2]
theorem txtR_sound : ∀ (f : Nat) (s rest s' r' : List UInt8), txtR f s rest = some (s', r') → ∃ t, s' = s ++ t ∧ rest = esc t ++ [0, 1] ++ r'
  | 0, _, _, _, _, h => by cases h
  | f + 1, s, rest, s', r', h => by
    unfold txtR at h
    split at h
    · cases h
    · rename_i hc
      rcases idx_spec rest 0 with ⟨h1, _⟩ | ⟨i, h1, a, r, he, ha, hz⟩
      · rw [h1] at hc; exact absurd (Or.inl (by decide)) hc
      · rw [h1] at h hc
        subst he
        have hr : r ≠ [] := by
          intro e
          subst e
          exact hc (.inr (by simp; omega))
        obtain ⟨x, q, rfl⟩ : ∃ x q, r = x :: q := by cases r; exact absurd rfl hr; exact ⟨_, _, rfl⟩
        have e1 : (a ++ 0 :: x :: q).getD ((i : Int).toNat + 1) 0 = x := by
          simp [List.getD, ← ha]
        have e2 : (a ++ 0 :: x :: q).take (i : Int).toNat = a := by simp [← ha]
        have e3 : (a ++ 0 :: x :: q).drop ((i : Int).toNat + 2) = q := by
          rw [show (i : Int).toNat + 2 = a.length + 2 by rw [ha]; rfl]
          simp
        rw [e1, e2, e3] at h
        split at h
        · rename_i hx
          simp only [Option.some.injEq, Prod.mk.injEq] at h
          obtain ⟨rfl, rfl⟩ := h
          exact ⟨a, rfl, by rw [esc_id a hz, hx]; simp⟩
        · split at h
          · rename_i hx
            obtain ⟨t, ht1, ht2⟩ := txtR_sound f _ q s' r' h
            refine ⟨a ++ 0 :: t, by rw [ht1]; simp, ?_⟩
            rw [esc_append, esc_id a hz, hx, ht2]
            simp [esc]
          · cases h
theorem esc_split : ∀ t : List UInt8, (esc t = t ∧ (0 : UInt8) ∉ t) ∨ ∃ a u, t = a ++ 0 :: u ∧ (0 : UInt8) ∉ a
  | [] => .inl ⟨rfl, by simp⟩
  | b :: t => by
    by_cases h : b = 0
    · exact .inr ⟨[], t, by rw [h]; rfl, by simp⟩
    · rcases esc_split t with ⟨h1, h2⟩ | ⟨a, u, rfl, h2⟩
      · exact .inl ⟨by simp [esc, h, h1], by simp only [List.mem_cons, not_or]; exact ⟨fun e => h e.symm, h2⟩⟩
      · exact .inr ⟨b :: a, u, rfl, by simp only [List.mem_cons, not_or]; exact ⟨fun e => h e.symm, h2⟩⟩
theorem idx_at : ∀ (a r : List UInt8) (c : UInt8), c ∉ a → Lib.indexByte (a ++ c :: r) c = a.length
  | [], r, c, _ => by simp [Lib.indexByte]
  | b :: a, r, c, h => by
    simp only [List.mem_cons, not_or] at h
    have hb : (b == c) = false := by simpa using fun e => h.1 (Eq.symm e)
    have hne : ((a.length : Int) == -1) = false := by
      rw [beq_eq_false_iff_ne]
      omega
    simp [Lib.indexByte, hb, idx_at a r c h.2, hne]
theorem txtR_step (f : Nat) (s a : List UInt8) (x : UInt8) (q : List UInt8) (hz : (0 : UInt8) ∉ a) :
    txtR (f + 1) s (a ++ 0 :: x :: q) = if x = 1 then some (s ++ a, q) else if x = 255 then txtR f (s ++ a ++ [0]) q else none := by
  conv => lhs; unfold txtR
  rw [idx_at a (x :: q) 0 hz]
  have e1 : (a ++ 0 :: x :: q).getD ((a.length : Int).toNat + 1) 0 = x := by simp [List.getD]
  have e2 : (a ++ 0 :: x :: q).take (a.length : Int).toNat = a := by simp
  have e3 : (a ++ 0 :: x :: q).drop ((a.length : Int).toNat + 2) = q := by
    rw [show (a.length : Int).toNat + 2 = a.length + 2 from rfl]
    simp
  rw [e1, e2, e3, if_neg (by simp; omega)]
theorem txtR_whole : ∀ (f : Nat) (t s r' : List UInt8), t.length < f → txtR f s (esc t ++ [0, 1] ++ r') = some (s ++ t, r')
  | 0, _, _, _, h => by omega
  | f + 1, t, s, r', h => by
    rcases esc_split t with ⟨h1, h2⟩ | ⟨a, u, rfl, h2⟩
    · rw [h1]
      have := txtR_step f s t 1 r' h2
      rw [if_pos rfl] at this
      rw [← this]
      simp
    · have := txtR_step f s a 255 (esc u ++ [0, 1] ++ r') h2
      rw [if_neg (by decide), if_pos rfl, txtR_whole f u (s ++ a ++ [0]) r' (by simp at h; omega)] at this
      rw [esc_append, esc_id a h2]
      simp only [esc, ↓reduceIte]
      rw [show a ++ 0 :: 255 :: esc u ++ [0, 1] ++ r' = a ++ 0 :: 255 :: (esc u ++ [0, 1] ++ r') by simp, this]
      simp
theorem foldl_val (b : List UInt8) : ∀ n, b.foldl (fun n (x : UInt8) => n * 256 + x.toNat) n = n * 256 ^ b.length + numOf b := by
  induction b with
  | nil => intro n; simp [numOf]
  | cons x b ih =>
    intro n
    simp only [List.foldl_cons, numOf]
    rw [ih, ih (0 * 256 + x.toNat), List.length_cons, Nat.pow_succ]
    simp only [Nat.zero_mul, Nat.zero_add]
    rw [Nat.add_mul, Nat.mul_assoc, Nat.mul_comm 256]
    omega
theorem numOf_cons (x : UInt8) (b : List UInt8) : numOf (x :: b) = x.toNat * 256 ^ b.length + numOf b := by
  show b.foldl _ (0 * 256 + x.toNat) = _
  rw [foldl_val]
  simp
theorem numOf_snoc (b : List UInt8) (x : UInt8) : numOf (b ++ [x]) = numOf b * 256 + x.toNat := by simp [numOf]
theorem numOf_lt (b : List UInt8) : numOf b < 256 ^ b.length := by
  induction b with
  | nil => decide
  | cons x b ih =>
    rw [numOf_cons, List.length_cons, Nat.pow_succ]
    have hx := x.toNat_lt
    have : x.toNat * 256 ^ b.length ≤ 255 * 256 ^ b.length := Nat.mul_le_mul_right _ (by omega)
    omega
theorem be_congr : ∀ k n m, n % 256 ^ k = m % 256 ^ k → be n k = be m k
  | 0, _, _, _ => rfl
  | k + 1, n, m, h => by
    have d1 := Nat.mod_mul_right_div_self n (256 ^ k) 256
    have d2 := Nat.mod_mul_right_div_self m (256 ^ k) 256
    have m1 := Nat.mod_mul_right_mod n (256 ^ k) 256
    have m2 := Nat.mod_mul_right_mod m (256 ^ k) 256
    rw [Nat.pow_succ] at h
    have hh : UInt8.ofNat (n / 256 ^ k) = UInt8.ofNat (m / 256 ^ k) := by
      apply UInt8.toNat_inj.1
      rw [UInt8.toNat_ofNat', UInt8.toNat_ofNat']
      show n / 256 ^ k % 256 = m / 256 ^ k % 256
      rw [← d1, ← d2, h]
    show UInt8.ofNat (n / 256 ^ k) :: be n k = UInt8.ofNat (m / 256 ^ k) :: be m k
    rw [hh, be_congr k n m (by rw [← m1, ← m2, h])]
theorem be_num (b : List UInt8) : be (numOf b) b.length = b := by
  induction b with
  | nil => rfl
  | cons x b ih =>
    have hl := numOf_lt b
    have hp : 0 < 256 ^ b.length := Nat.pow_pos (by omega)
    have e : numOf (x :: b) / 256 ^ b.length = x.toNat := by
      rw [numOf_cons, Nat.mul_comm, Nat.mul_add_div hp, Nat.div_eq_of_lt hl]; rfl
    show UInt8.ofNat (numOf (x :: b) / 256 ^ b.length) :: be (numOf (x :: b)) b.length = _
    rw [e, be_congr b.length (numOf (x :: b)) (numOf b) (by rw [numOf_cons, Nat.mul_comm, Nat.mul_add_mod]), ih]
    simp
theorem nb_eq {n k : Nat} (h1 : 256 ^ k ≤ n) (h2 : n < 256 ^ (k + 1)) : nb n = k + 1 := by
  have a := nb_le (k + 1) n h2
  have b := nb_lt n
  by_cases h : nb n ≤ k
  · have : 256 ^ nb n ≤ 256 ^ k := Nat.pow_le_pow_right (by omega) h
    omega
  · omega
theorem nb_num (b : List UInt8) (h : b ≠ [] → b.getD 0 0 ≠ 0) : nb (numOf b) = b.length := by
  cases b with
  | nil => exact nb_zero
  | cons x b =>
    have hx : x ≠ 0 := h (by simp)
    have hx2 : x.toNat ≠ 0 := fun e => hx (UInt8.toNat_inj.1 e)
    have hl := numOf_lt (x :: b)
    refine nb_eq ?_ hl
    rw [numOf_cons]
    have : 1 * 256 ^ b.length ≤ x.toNat * 256 ^ b.length := Nat.mul_le_mul_right _ (by omega)
    omega
theorem num_be : ∀ k n, numOf (be n k) = n % 256 ^ k
  | 0, n => by simp [be, numOf, Nat.mod_one]
  | k + 1, n => by
    have d1 := Nat.mod_mul_right_div_self n (256 ^ k) 256
    have m1 := Nat.mod_mul_right_mod n (256 ^ k) 256
    show numOf (UInt8.ofNat (n / 256 ^ k) :: be n k) = _
    rw [numOf_cons, be_len, num_be k n, UInt8.toNat_ofNat', Nat.pow_succ]
    show n / 256 ^ k % 256 * 256 ^ k + n % 256 ^ k = _
    rw [← d1, ← m1, Nat.mul_comm]
    exact Nat.div_add_mod _ _
theorem be_head (n k : Nat) (h : nb n = k + 1) : (be n (k + 1)).getD 0 0 ≠ 0 := by
  have h1 := nb_lt n
  rw [h, Nat.pow_succ] at h1
  have h2 : 256 ^ k ≤ n := by
    by_cases hh : n < 256 ^ k
    · have := nb_le k n hh; omega
    · omega
  have hp : 0 < 256 ^ k := Nat.pow_pos (by omega)
  have h3 : 1 ≤ n / 256 ^ k := (Nat.one_le_div_iff hp).2 h2
  have h4 : n / 256 ^ k < 256 := Nat.div_lt_of_lt_mul (by omega)
  intro e
  have e2 := congrArg UInt8.toNat e
  simp only [be, List.getD, List.getElem?_cons_zero, Option.getD_some, UInt8.toNat_ofNat'] at e2
  have e0 : (0 : UInt8).toNat = 0 := rfl
  rw [e0, Nat.mod_eq_of_lt h4] at e2
  omega
def Valid (p : PartD) : Prop := (p.kind = 1 ∧ p.text = [] ∧ p.num < 256 ^ 8) ∨ (p.kind = 2 ∧ p.num = 0 ∧ p.text.length ≤ 60)
theorem ofNat_toNat (t : UInt8) (n : Nat) (h : n = t.toNat) : UInt8.ofNat n = t := by rw [h]; simp
theorem partR_sound (t : UInt8) (rest r : List UInt8) (p : PartD) (h : partR t rest = some (p, r)) : t :: rest = encP p ++ r ∧ Valid p := by
  unfold partR at h
  split at h
  · rename_i ht
    cases hx : txtR (rest.length + 1) [] rest with
    | none => rw [hx] at h; cases h
    | some q =>
      obtain ⟨s, q⟩ := q
      rw [hx] at h
      simp only at h
      split at h
      · rename_i hl
        simp only [Option.some.injEq, Prod.mk.injEq] at h
        obtain ⟨rfl, rfl⟩ := h
        obtain ⟨s', e1, e2⟩ := txtR_sound _ _ _ _ _ hx
        simp only [List.nil_append] at e1
        subst e1
        refine ⟨?_, .inr ⟨rfl, rfl, hl⟩⟩
        have ht2 : t = 32 := UInt8.toNat_inj.1 ht
        rw [e2, ht2]
        simp [encP, txtB]
      · cases h
  · split at h
    · rename_i hm
      split at h
      · cases h
      · rename_i hc
        simp only [Option.some.injEq, Prod.mk.injEq] at h
        obtain ⟨rfl, rfl⟩ := h
        have hl : (rest.take (t.toNat - 16)).length = t.toNat - 16 := by simp; omega
        have hnb : nb (numOf (rest.take (t.toNat - 16))) = t.toNat - 16 := by
          rw [nb_num, hl]
          intro hne e
          apply hc
          refine .inr (.inr ⟨?_, ?_⟩)
          · by_cases h16 : 16 < t.toNat
            · exact h16
            · exact absurd (List.length_eq_zero_iff.1 (by omega)) hne
          · have h0 : 0 < t.toNat - 16 := by
              by_cases h16 : 0 < t.toNat - 16
              · exact h16
              · exact absurd (List.length_eq_zero_iff.1 (by omega)) hne
            simpa [List.getD, List.getElem?_take, h0] using e
        have hlt := numOf_lt (rest.take (t.toNat - 16))
        rw [hl] at hlt
        have h8 : 256 ^ (t.toNat - 16) ≤ 256 ^ 8 := Nat.pow_le_pow_right (by omega) (by omega)
        refine ⟨?_, .inl ⟨rfl, rfl, by show numOf _ < _; omega⟩⟩
        have hbe := be_num (rest.take (t.toNat - 16))
        rw [hl] at hbe
        show t :: rest = (if (1 : Int) = 1 then numB (numOf (rest.take (t.toNat - 16))) else _) ++ _
        rw [if_pos rfl]
        unfold numB
        rw [hnb, hbe, ofNat_toNat t (16 + (t.toNat - 16)) (by omega)]
        simp
    · cases h
theorem partR_whole (p : PartD) (hp : Valid p) (r : List UInt8) : ∃ t q, encP p = t :: q ∧ partR t (q ++ r) = some (p, r) := by
  obtain ⟨kd, nm, tx⟩ := p
  rcases hp with ⟨h1, h2, h3⟩ | ⟨h1, h2, h3⟩
  · simp only at h1 h2 h3
    subst h1 h2
    have h8 := nb_le 8 nm h3
    have ht : (UInt8.ofNat (16 + nb nm)).toNat = 16 + nb nm := by rw [UInt8.toNat_ofNat']; exact Nat.mod_eq_of_lt (by omega)
    refine ⟨UInt8.ofNat (16 + nb nm), be nm (nb nm), rfl, ?_⟩
    unfold partR
    rw [ht, if_neg (by omega), if_pos (by omega), show 16 + nb nm - 16 = nb nm by omega]
    have hbl := be_len nm (nb nm)
    rw [if_neg]
    · have e1 : (be nm (nb nm) ++ r).take (nb nm) = be nm (nb nm) := by
        rw [List.take_append_of_le_length (by omega), List.take_of_length_le (by omega)]
      have e2 : (be nm (nb nm) ++ r).drop (nb nm) = r := by
        rw [List.drop_append_of_le_length (by omega), List.drop_of_length_le (by omega)]; rfl
      rw [e1, e2, num_be, Nat.mod_eq_of_lt (nb_lt nm)]
    · rintro (h | h | ⟨h, e⟩)
      · omega
      · simp at h; omega
      · obtain ⟨k, hk⟩ : ∃ k, nb nm = k + 1 := ⟨nb nm - 1, by omega⟩
        have := be_head nm k hk
        rw [← hk] at this
        apply this
        rw [← e]
        simp [List.getD, List.getElem?_append, hbl, show 0 < nb nm by omega]
  · simp only at h1 h2 h3
    subst h1 h2
    refine ⟨32, esc tx ++ [0, 1], rfl, ?_⟩
    unfold partR
    rw [if_pos (by decide), txtR_whole _ tx [] r ?_]
    · simp only [List.nil_append]
      rw [if_pos h3]
    · have : tx.length ≤ (esc tx).length := by
        clear h3
        induction tx with
        | nil => exact Nat.le_refl _
        | cons b t ih => simp only [esc]; split <;> simp <;> omega
      simp
      omega
theorem partsR_sound : ∀ (f : Nat) (out : List PartD) (b : List UInt8) (l : List PartD), out.length ≤ 8 → partsR f out b = (0, l) → ∃ m, l = out ++ m ∧ b = enc m ∧ (∀ p ∈ m, Valid p) ∧ l.length ≤ 8
  | 0, _, _, _, _, h => by cases h
  | f + 1, out, [], l, ho, h => by
    have h2 : (0, out) = ((0 : Int), l) := h
    cases h2
    exact ⟨[], by simp, rfl, by simp, ho⟩
  | f + 1, out, t :: r, l, ho, h => by
    simp only [partsR] at h
    cases hx : partR t r with
    | none => rw [hx] at h; cases h
    | some q =>
      obtain ⟨p, rest⟩ := q
      rw [hx] at h
      simp only at h
      split at h
      · cases h
      · rename_i h8
        obtain ⟨m, e1, e2, e3, e4⟩ := partsR_sound f (out ++ [p]) rest l (by simp; omega) h
        obtain ⟨g1, g2⟩ := partR_sound t r rest p hx
        refine ⟨p :: m, by rw [e1]; simp, by rw [g1, e2]; rfl, ?_, e4⟩
        intro q hq
        rcases List.mem_cons.1 hq with rfl | hq
        · exact g2
        · exact e3 q hq
theorem partsR_whole : ∀ (m : List PartD) (f : Nat) (out : List PartD), m.length < f → out.length + m.length ≤ 8 → (∀ p ∈ m, Valid p) → partsR f out (enc m) = (0, out ++ m)
  | _, 0, _, h, _, _ => by omega
  | [], f + 1, out, _, _, _ => by simp [enc, partsR]
  | p :: m, f + 1, out, hf, h8, hv => by
    obtain ⟨t, q, e1, e2⟩ := partR_whole p (hv p (List.mem_cons_self ..)) (enc m)
    simp only [enc, e1, List.cons_append, partsR, e2]
    simp only [List.length_cons] at h8 hf
    rw [if_neg (by omega), partsR_whole m f (out ++ [p]) (by omega) (by simp; omega) (fun q hq => hv q (List.mem_cons_of_mem _ hq))]
    simp
theorem keyL_valid : ∀ (m : List PartD) (out : List UInt8), (∀ p ∈ m, Valid p) → keyL out m = (0, out ++ enc m)
  | [], out, _ => by simp [keyL, enc]
  | p :: m, out, hv => by
    have ih := fun o => keyL_valid m o (fun q hq => hv q (List.mem_cons_of_mem _ hq))
    rcases hv p (List.mem_cons_self ..) with ⟨h1, h2, h3⟩ | ⟨h1, h2, h3⟩
    · have e : keyL out (p :: m) = keyL (out ++ numB p.num) m := if_pos ⟨h1, h2⟩
      rw [e, ih]
      simp [enc, encP, h1]
    · have e : keyL out (p :: m) = keyL (out ++ txtB p.text) m := (if_neg (by omega)).trans ((if_neg (by omega)).trans (if_neg (by omega)))
      rw [e, ih]
      simp [enc, encP, h1]
theorem parts_key (b : List UInt8) (l : List PartD) (h : parts b = (0, l)) : key l = (0, b) ∧ (∀ p ∈ l, Valid p) := by
  obtain ⟨m, e1, e2, e3, e4⟩ := partsR_sound _ _ _ _ (by simp) h
  simp only [List.nil_append] at e1
  subst e1
  refine ⟨?_, e3⟩
  unfold key
  rw [if_neg (by omega), keyL_valid l [] e3, e2]
  rfl
theorem enc_len (m : List PartD) : m.length ≤ (enc m).length := by
  induction m with
  | nil => exact Nat.le_refl _
  | cons p m ih =>
    obtain ⟨b, r, h⟩ := encP_cons p
    simp only [enc, h, List.length_cons, List.length_append]
    omega
theorem key_parts (m : List PartD) (h8 : m.length ≤ 8) (hv : ∀ p ∈ m, Valid p) : parts (enc m) = (0, m) := by
  unfold parts
  have := enc_len m
  rw [partsR_whole m _ [] (by omega) (by simpa using h8) hv]
  rfl
end Go.Proofs.YtfogepoebihnoaaDoor
