/- What code.Squeeze does, in plain words: literals and copies, what they come to, and how many bytes they are. No program. -/
import Derived.Test.YtfogepoebihnoaaDoorSwp
namespace Go.Proofs.YtfogepoebihnoaaDoor
set_option linter.unusedSimpArgs false
set_option linter.unusedVariables false
/-- literals, 128 at once -/
def chF : Nat → List UInt8 → List UInt8
  | 0, _ => []
  | _ + 1, [] => []
  | f + 1, b :: r => UInt8.ofNat (((b :: r).take 128).length - 1) :: ((b :: r).take 128 ++ chF f ((b :: r).drop 128))
def chunkL (bs : List UInt8) : List UInt8 := chF (bs.length + 1) bs
theorem chF_len : ∀ (f : Nat) (bs : List UInt8), bs.length < f → (chF f bs).length = bs.length + (bs.length + 127) / 128
  | 0, _, h => by omega
  | f + 1, [], _ => by simp [chF]
  | f + 1, b :: r, h => by
    have ih := chF_len f ((b :: r).drop 128) (by simp at h ⊢; omega)
    simp only [chF, List.length_cons, List.length_append, ih, List.length_take, List.length_drop]
    simp only [List.length_cons] at h
    omega
theorem chunkL_len (bs : List UInt8) : (chunkL bs).length = bs.length + (bs.length + 127) / 128 := chF_len _ bs (by omega)
/-- reading s turns what is out from a0 into a1 -/
def Steps (m : Int) (s a0 a1 : List UInt8) : Prop := ∃ t, t ≤ s.length ∧ ∀ rest k, sw m (k + t) (s ++ rest) a0 = sw m k rest a1
theorem Steps.nil (m : Int) (a : List UInt8) : Steps m [] a a := ⟨0, Nat.le_refl _, fun _ _ => rfl⟩
theorem Steps.append {m : Int} {s1 s2 a0 a1 a2 : List UInt8} (h1 : Steps m s1 a0 a1) (h2 : Steps m s2 a1 a2) : Steps m (s1 ++ s2) a0 a2 := by
  obtain ⟨t1, l1, e1⟩ := h1
  obtain ⟨t2, l2, e2⟩ := h2
  refine ⟨t2 + t1, by simp; omega, fun rest k => ?_⟩
  rw [← Nat.add_assoc, List.append_assoc, e1, e2]
theorem steps_lit (m : Int) (c a : List UInt8) (h0 : 0 < c.length) (h1 : c.length ≤ 128) (hm : ((a ++ c).length : Int) ≤ m) : Steps m (UInt8.ofNat (c.length - 1) :: c) a (a ++ c) := by
  refine ⟨1, by simp, fun rest k => ?_⟩
  have ht : (UInt8.ofNat (c.length - 1)).toNat = c.length - 1 := by
    rw [UInt8.toNat_ofNat']
    exact Nat.mod_eq_of_lt (by omega)
  have e : (c ++ rest).take ((UInt8.ofNat (c.length - 1)).toNat + 1) = c := by
    rw [ht, show c.length - 1 + 1 = c.length by omega, List.take_left]
  have e2 : (c ++ rest).drop ((UInt8.ofNat (c.length - 1)).toNat + 1) = rest := by
    rw [ht, show c.length - 1 + 1 = c.length by omega, List.drop_left]
  rw [List.cons_append, sw_lit_go m k _ _ _ (by rw [ht]; omega) (by rw [ht]; simp; omega) (by rw [e]; omega), e, e2]
theorem chF_steps (m : Int) : ∀ (f : Nat) (bs a : List UInt8), bs.length < f → ((a ++ bs).length : Int) ≤ m → Steps m (chF f bs) a (a ++ bs)
  | 0, _, _, h, _ => by omega
  | f + 1, [], a, _, _ => by simpa [chF] using Steps.nil m a
  | f + 1, b :: r, a, h, hm => by
    have hl : ((b :: r).take 128).length ≤ 128 := by simp; omega
    have hl0 : 0 < ((b :: r).take 128).length := by simp
    have hm2 : ((a ++ (b :: r).take 128).length : Int) ≤ m := by
      have : (a ++ (b :: r).take 128).length ≤ (a ++ (b :: r)).length := by simp only [List.length_append, List.length_take]; omega
      omega
    have h1 := steps_lit m ((b :: r).take 128) a hl0 hl hm2
    have h2 := chF_steps m f ((b :: r).drop 128) (a ++ (b :: r).take 128) (by simp at h ⊢; omega) (by rw [List.append_assoc, List.take_append_drop]; exact hm)
    rw [List.append_assoc, List.take_append_drop] at h2
    exact h1.append h2
theorem chunk_steps (m : Int) (bs a : List UInt8) (h : ((a ++ bs).length : Int) ≤ m) : Steps m (chunkL bs) a (a ++ bs) := chF_steps m _ bs a (by omega) h
/-- a copy -/
def cpB (n d : Nat) : List UInt8 := [UInt8.ofNat (n + 125), UInt8.ofNat (d - 1), UInt8.ofNat ((d - 1) / 256)]
theorem cpy_eq (b : List UInt8) (at_ d : Nat) (hd : 1 ≤ d) (hda : d ≤ at_) : ∀ n, at_ + n ≤ b.length → (∀ j, j < n → b.getD (at_ + j) 0 = b.getD (at_ + j - d) 0) → cpyN (b.take at_) d n = b.take (at_ + n)
  | 0, _, _ => rfl
  | n + 1, h, hj => by
    have ih := cpy_eq b at_ d hd hda n (by omega) (fun j hj2 => hj j (by omega))
    simp only [cpyN]
    rw [ih]
    have hl : (b.take (at_ + n)).length = at_ + n := by simp; omega
    rw [hl, show at_ + (n + 1) = (at_ + n) + 1 by omega, List.take_succ_eq_append_getElem (by omega)]
    congr 1
    have h1 := hj n (by omega)
    have e1 : (b.take (at_ + n)).getD (at_ + n - d) 0 = b.getD (at_ + n - d) 0 := by
      simp only [List.getD]
      rw [List.getElem?_take_of_lt (by omega)]
    rw [e1, ← h1]
    simp [List.getD, show at_ + n < b.length by omega]
theorem steps_cp (m : Int) (b : List UInt8) (at_ n d : Nat) (hn : 4 ≤ n) (hn2 : n ≤ 130) (hd : 1 ≤ d) (hda : d ≤ at_) (hd2 : d ≤ 65536) (hl : at_ + n ≤ b.length) (hm : (b.length : Int) ≤ m) (hj : ∀ j, j < n → b.getD (at_ + j) 0 = b.getD (at_ + j - d) 0) :
    Steps m (cpB n d) (b.take at_) (b.take (at_ + n)) := by
  refine ⟨1, by simp [cpB], fun rest k => ?_⟩
  have ht : (UInt8.ofNat (n + 125)).toNat = n + 125 := by
    rw [UInt8.toNat_ofNat']; exact Nat.mod_eq_of_lt (by omega)
  have h0 : (UInt8.ofNat (d - 1)).toNat = (d - 1) % 256 := by rw [UInt8.toNat_ofNat']
  have h1 : (UInt8.ofNat ((d - 1) / 256)).toNat = (d - 1) / 256 := by
    rw [UInt8.toNat_ofNat']; exact Nat.mod_eq_of_lt (by omega)
  have hdist : dist (UInt8.ofNat (d - 1) :: UInt8.ofNat ((d - 1) / 256) :: rest) = d := by
    unfold dist
    simp only [List.getD_cons_zero, List.getD_cons_succ, h0, h1]
    omega
  have hlen : (b.take at_).length = at_ := by simp; omega
  have hc := cpy_eq b at_ d hd hda n hl hj
  show sw m (k + 1) (UInt8.ofNat (n + 125) :: (UInt8.ofNat (d - 1) :: UInt8.ofNat ((d - 1) / 256) :: rest)) (b.take at_) = _
  rw [sw_cp_go m k _ _ _ (by rw [ht]; omega) (by simp) (by rw [hdist, hlen]; omega) (by rw [hdist, ht, Nat.add_sub_cancel, hc]; simp; omega), hdist, ht, Nat.add_sub_cancel, hc]
  rfl
/-- b is the piece of its first p bytes again and again -/
def Per (b : List UInt8) (p : Nat) : Prop := 1 ≤ p ∧ p ≤ 64 ∧ p ≤ b.length ∧ ∀ i, p ≤ i → i < b.length → b.getD i 0 = b.getD (i - p) 0
/-- how far the work of Squeeze has come: what is out reads as the first from bytes, and is short -/
structure SqI (b : List UInt8) (at_ from_ : Nat) (out : List UInt8) : Prop where
  fa : from_ ≤ at_
  al : at_ ≤ b.length
  st : Steps (b.length : Int) out [] (b.take from_)
  base : out.length ≤ from_ + from_ / 128
  per : ∀ p, Per b p → (at_ ≤ p ∧ out.length ≤ from_) ∨ (p < at_ ∧ from_ = at_ ∧ (out.length ≤ p + 4 + 3 * ((at_ - p) / 130) ∨ (at_ = b.length ∧ out.length ≤ p + 7 + 3 * ((at_ - p) / 130)))) ∨ (p < at_ ∧ p ≤ from_ ∧ b.length ≤ from_ + 3 ∧ out.length ≤ p + 4 + 3 * ((from_ - p) / 130)) ∨ (p < at_ ∧ from_ ≤ p ∧ b.length ≤ p + 3 ∧ out.length ≤ from_)
theorem SqI.start (b : List UInt8) : SqI b 0 0 [] := ⟨Nat.le_refl _, Nat.zero_le _, by simpa using Steps.nil _ [], by simp, fun p _ => .inl ⟨Nat.zero_le _, by simp⟩⟩
/-- what is asked of the longest match: no less than at a period -/
def Far (b : List UInt8) (at_ n : Nat) : Prop := ∀ p, Per b p → p ≤ at_ → min 130 (b.length - at_) ≤ n
theorem SqI.lit {b : List UInt8} {at_ from_ n : Nat} {out : List UInt8} (h : SqI b at_ from_ out) (hlt : at_ < b.length) (hn : n < 4) (hf : Far b at_ n) : SqI b (at_ + 1) from_ out := by
  refine ⟨by have := h.fa; omega, by omega, h.st, h.base, fun p hp => ?_⟩
  have hfa := h.fa
  rcases h.per p hp with ⟨h1, h2⟩ | ⟨h1, h2, h3⟩ | ⟨h1, h2, h3, h4⟩ | ⟨h1, h2, h3, h4⟩
  · by_cases e : at_ = p
    · have := hf p hp (by omega)
      exact .inr (.inr (.inr ⟨by omega, by omega, by omega, h2⟩))
    · exact .inl ⟨by omega, h2⟩
  · have := hf p hp (by omega)
    subst h2
    rcases h3 with h3 | ⟨h3, _⟩
    · exact .inr (.inr (.inl ⟨by omega, by omega, by omega, h3⟩))
    · omega
  · exact .inr (.inr (.inl ⟨by omega, h2, h3, h4⟩))
  · exact .inr (.inr (.inr ⟨by omega, h2, h3, h4⟩))
theorem take_cat (b : List UInt8) (i j : Nat) (h : i ≤ j) : b.take i ++ (b.take j).drop i = b.take j := by
  have := List.take_append_drop i (b.take j)
  rwa [List.take_take, Nat.min_eq_left h] at this
theorem SqI.copy {b : List UInt8} {at_ from_ n d : Nat} {out : List UInt8} (h : SqI b at_ from_ out) (hn : 4 ≤ n) (hn2 : n ≤ 130) (hl : at_ + n ≤ b.length) (hd : 1 ≤ d) (hda : d ≤ at_) (hd2 : d ≤ 65536) (hj : ∀ j, j < n → b.getD (at_ + j) 0 = b.getD (at_ + j - d) 0) (hf : Far b at_ n) :
    SqI b (at_ + n) (at_ + n) (out ++ chunkL ((b.take at_).drop from_) ++ cpB n d) := by
  have hfa := h.fa
  have hcl : ((b.take at_).drop from_).length = at_ - from_ := by simp; omega
  have hlen : (out ++ chunkL ((b.take at_).drop from_) ++ cpB n d).length = out.length + (at_ - from_ + (at_ - from_ + 127) / 128) + 3 := by
    rw [List.length_append, List.length_append, chunkL_len, hcl]; rfl
  refine ⟨Nat.le_refl _, hl, ?_, ?_, fun p hp => ?_⟩
  · have h1 := chunk_steps (b.length : Int) ((b.take at_).drop from_) (b.take from_) (by rw [take_cat b _ _ hfa]; simp; omega)
    rw [take_cat b _ _ hfa] at h1
    exact (h.st.append h1).append (steps_cp _ b at_ n d hn hn2 hd hda hd2 hl (by omega) hj)
  · rw [hlen]
    have := h.base
    omega
  · rw [hlen]
    have hb := h.per p hp
    obtain ⟨p1, p2, p3, _⟩ := hp
    rcases hb with ⟨h1, h2⟩ | ⟨h1, h2, h3⟩ | ⟨h1, h2, h3, h4⟩ | ⟨h1, h2, h3, h4⟩
    · by_cases e : at_ + n ≤ p
      · exact .inl ⟨e, by omega⟩
      · exact .inr (.inl ⟨by omega, rfl, .inl (by omega)⟩)
    · have hf2 := hf p ⟨p1, p2, p3, by assumption⟩ (by omega)
      subst h2
      rcases h3 with h3 | ⟨h3, _⟩
      · refine .inr (.inl ⟨by omega, rfl, ?_⟩)
        by_cases e : n = 130
        · exact .inl (by omega)
        · exact .inr ⟨by omega, by omega⟩
      · omega
    · omega
    · omega
theorem SqI.fin {b : List UInt8} {from_ : Nat} {out : List UInt8} (h : SqI b b.length from_ out) : sw (b.length : Int) ((out ++ chunkL (b.drop from_)).length + 1) (out ++ chunkL (b.drop from_)) [] = (0, b) ∧
    (out ++ chunkL (b.drop from_)).length ≤ b.length + (b.length + 127) / 128 ∧ ∀ p, Per b p → (out ++ chunkL (b.drop from_)).length ≤ p + 8 + 3 * (b.length / 130) := by
  have hfa := h.fa
  have hlen : (out ++ chunkL (b.drop from_)).length = out.length + (b.length - from_ + (b.length - from_ + 127) / 128) := by
    rw [List.length_append, chunkL_len, List.length_drop]
  refine ⟨?_, ?_, fun p hp => ?_⟩
  · have h1 := chunk_steps (b.length : Int) (b.drop from_) (b.take from_) (by rw [List.take_append_drop]; omega)
    rw [List.take_append_drop] at h1
    obtain ⟨t, ht, he⟩ := h.st.append h1
    have := he [] ((out ++ chunkL (b.drop from_)).length + 1 - t)
    rw [List.append_nil, show (out ++ chunkL (b.drop from_)).length + 1 - t + t = (out ++ chunkL (b.drop from_)).length + 1 by omega, show (out ++ chunkL (b.drop from_)).length + 1 - t = ((out ++ chunkL (b.drop from_)).length - t) + 1 by omega] at this
    rw [this]
    rfl
  · rw [hlen]
    have := h.base
    omega
  · rw [hlen]
    have hb := h.per p hp
    obtain ⟨p1, p2, p3, _⟩ := hp
    rcases hb with ⟨h1, h2⟩ | ⟨h1, h2, h3⟩ | ⟨h1, h2, h3, h4⟩ | ⟨h1, h2, h3, h4⟩
    · omega
    · rcases h3 with h3 | ⟨_, h3⟩ <;> omega
    · omega
    · omega
end Go.Proofs.YtfogepoebihnoaaDoor
