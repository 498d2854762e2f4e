/- A name without its case, as a plain function on bytes: folding twice is folding once, as many bytes, folds of what is joined. No program. -/
import Derived.Lib.DecodeN
import Derived.Lib.RuneBytes
namespace Go.Proofs.YtoeagociikihnaaDoor
open Go
set_option linter.unusedSimpArgs false
set_option linter.unusedVariables false
/-- the first character of a list of bytes, and how many bytes it takes -/
def decL (l : List UInt8) : Nat × Nat := Lib.decodeN l.length (l.getD 0 0).toNat (l.getD 1 0).toNat (l.getD 2 0).toNat (l.getD 3 0).toNat
def lowN (r : Nat) : Nat :=
  if (65 ≤ r ∧ r ≤ 90) ∨ (192 ≤ r ∧ r ≤ 222 ∧ r ≠ 215) ∨ (913 ≤ r ∧ r ≤ 939 ∧ r ≠ 930) ∨ (1040 ≤ r ∧ r ≤ 1071) then r + 32
  else if 1024 ≤ r ∧ r ≤ 1039 then r + 80
  else if r = 962 then 963 else r
def chunk (x : UInt8) (d : Nat × Nat) : List UInt8 := if d.1 = 65533 ∧ d.2 = 1 then [x] else Lib.encodeRune (lowN d.1 : Nat)
def foldL : Nat → List UInt8 → List UInt8
  | 0, _ => []
  | _ + 1, [] => []
  | f + 1, x :: t => chunk x (decL (x :: t)) ++ foldL f ((x :: t).drop (decL (x :: t)).2)
def fold (l : List UInt8) : List UInt8 := foldL l.length l
theorem decN_pos (n a b c d : Nat) : 1 ≤ (Lib.decodeN n a b c d).2 := by
  unfold Lib.decodeN
  repeat' split
  all_goals simp
theorem decL_pos (l : List UInt8) : 1 ≤ (decL l).2 := decN_pos _ _ _ _ _
theorem foldL_eq : ∀ (f g : Nat) (l : List UInt8), l.length ≤ f → l.length ≤ g → foldL f l = foldL g l
  | 0, g, l, hf, _ => by
    obtain rfl : l = [] := List.length_eq_zero_iff.1 (by omega)
    cases g <;> rfl
  | f + 1, 0, l, _, hg => by
    obtain rfl : l = [] := List.length_eq_zero_iff.1 (by omega)
    rfl
  | f + 1, g + 1, [], _, _ => rfl
  | f + 1, g + 1, x :: t, hf, hg => by
    have hp := decL_pos (x :: t)
    simp only [foldL]
    rw [foldL_eq f g _ (by simp at hf ⊢; omega) (by simp at hg ⊢; omega)]
theorem fold_nil : fold [] = [] := rfl
theorem fold_cons (x : UInt8) (t : List UInt8) : fold (x :: t) = chunk x (decL (x :: t)) ++ fold ((x :: t).drop (decL (x :: t)).2) := by
  have hp := decL_pos (x :: t)
  show foldL (t.length + 1) (x :: t) = _
  simp only [foldL, fold]
  rw [foldL_eq t.length _ _ (by simp; omega) (Nat.le_refl _)]
/-- a number that is a character's -/
def Sc (r : Nat) : Prop := r < 55296 ∨ (57344 ≤ r ∧ r ≤ 1114111)
theorem u8_nat (n : Nat) (h : n < 256) : ((n : Int).toNat.toUInt8).toNat = n := by
  simp [Nat.toUInt8, UInt8.toNat_ofNat']
  omega
theorem enc_one (r : Nat) (h : r ≤ 127) : Lib.encodeRune (r : Int) = [UInt8.ofNat r] := by
  unfold Lib.encodeRune
  rw [Lib.encodeRuneZ_one (by omega) (by omega)]
  rfl
theorem enc_two (r : Nat) (h0 : 128 ≤ r) (h1 : r ≤ 2047) : Lib.encodeRune (r : Int) = [UInt8.ofNat (192 + r / 64), UInt8.ofNat (128 + r % 64)] := by
  unfold Lib.encodeRune
  rw [Lib.encodeRuneZ_two (by omega) (by omega)]
  rfl
theorem enc_three (r : Nat) (h : (2048 ≤ r ∧ r < 55296) ∨ (57343 < r ∧ r ≤ 65535)) : Lib.encodeRune (r : Int) = [UInt8.ofNat (224 + r / 4096), UInt8.ofNat (128 + r / 64 % 64), UInt8.ofNat (128 + r % 64)] := by
  unfold Lib.encodeRune
  rw [Lib.encodeRuneZ_three (by omega)]
  rfl
theorem enc_four (r : Nat) (h0 : 65536 ≤ r) (h1 : r ≤ 1114111) : Lib.encodeRune (r : Int) = [UInt8.ofNat (240 + r / 262144), UInt8.ofNat (128 + r / 4096 % 64), UInt8.ofNat (128 + r / 64 % 64), UInt8.ofNat (128 + r % 64)] := by
  unfold Lib.encodeRune
  rw [Lib.encodeRuneZ_four (by omega) (by omega)]
  rfl
theorem ofN (n : Nat) (h : n < 256) : (UInt8.ofNat n).toNat = n := by
  rw [UInt8.toNat_ofNat']; omega
theorem dec_enc (r : Nat) (hr : Sc r) (t : List UInt8) : decL (Lib.encodeRune (r : Int) ++ t) = (r, (Lib.encodeRune (r : Int)).length) := by
  unfold Sc at hr
  by_cases h1 : r ≤ 127
  · rw [enc_one r h1]
    simp only [decL, List.cons_append, List.nil_append, List.getD_cons_zero, ofN r (by omega), List.length_cons, List.length_nil]
    unfold Lib.decodeN
    rw [if_pos (by omega)]
  · by_cases h2 : r ≤ 2047
    · rw [enc_two r (by omega) h2]
      simp only [decL, List.cons_append, List.nil_append, List.getD_cons_zero, List.getD_cons_succ, ofN (192 + r / 64) (by omega), ofN (128 + r % 64) (by omega), List.length_cons, List.length_nil]
      unfold Lib.decodeN
      rw [if_neg (by omega), if_pos (by omega), if_pos (by omega)]
      exact Prod.ext (by show _ = r; omega) rfl
    · by_cases h3 : r ≤ 65535
      · rw [enc_three r (by omega)]
        simp only [decL, List.cons_append, List.nil_append, List.getD_cons_zero, List.getD_cons_succ, ofN (224 + r / 4096) (by omega), ofN (128 + r / 64 % 64) (by omega), ofN (128 + r % 64) (by omega), List.length_cons, List.length_nil]
        unfold Lib.decodeN
        rw [if_neg (by omega), if_neg (by omega), if_pos (by omega), if_pos (by omega)]
        exact Prod.ext (by show _ = r; omega) rfl
      · rw [enc_four r (by omega) (by omega)]
        simp only [decL, List.cons_append, List.nil_append, List.getD_cons_zero, List.getD_cons_succ, ofN (240 + r / 262144) (by omega), ofN (128 + r / 4096 % 64) (by omega), ofN (128 + r / 64 % 64) (by omega), ofN (128 + r % 64) (by omega), List.length_cons, List.length_nil]
        unfold Lib.decodeN
        rw [if_neg (by omega), if_neg (by omega), if_neg (by omega), if_pos (by omega), if_pos (by omega)]
        exact Prod.ext (by show _ = r; omega) rfl
theorem u8_eq (x : UInt8) (n : Nat) (h : x.toNat = n) : UInt8.ofNat n = x := by rw [← h]; simp
/-- what is read is no character, or it is one's bytes -/
theorem dec_cases (x : UInt8) (t : List UInt8) : decL (x :: t) = (65533, 1) ∨ (Sc (decL (x :: t)).1 ∧ (Lib.encodeRune ((decL (x :: t)).1 : Nat)).length = (decL (x :: t)).2 ∧ x :: t = Lib.encodeRune ((decL (x :: t)).1 : Nat) ++ (x :: t).drop (decL (x :: t)).2) := by
  have hx := x.toNat_lt
  by_cases h1 : x.toNat < 128
  · right
    have e : decL (x :: t) = (x.toNat, 1) := by
      simp only [decL, List.getD_cons_zero]
      unfold Lib.decodeN
      rw [if_pos h1]
    rw [e]
    refine ⟨.inl (by show x.toNat < 55296; omega), ?_, ?_⟩
    · rw [enc_one _ (by show x.toNat ≤ 127; omega)]; rfl
    · rw [enc_one _ (by show x.toNat ≤ 127; omega), u8_eq x x.toNat rfl]; rfl
  · cases t with
    | nil =>
      left
      simp only [decL, List.getD_cons_zero, List.length_cons, List.length_nil]
      unfold Lib.decodeN
      rw [if_neg h1, if_neg (by omega), if_neg (by omega), if_neg (by omega)]
    | cons y t =>
      have hy := y.toNat_lt
      by_cases h2 : x.toNat / 32 = 6 ∧ y.toNat / 64 = 2
      · by_cases h2b : x.toNat % 32 * 64 + y.toNat % 64 ≥ 128
        · right
          have e : decL (x :: y :: t) = (x.toNat % 32 * 64 + y.toNat % 64, 2) := by
            simp only [decL, List.getD_cons_zero, List.getD_cons_succ, List.length_cons]
            unfold Lib.decodeN
            rw [if_neg h1, if_pos (by omega), if_pos h2b]
          rw [e]
          refine ⟨.inl (by show _ < _; omega), ?_, ?_⟩
          · rw [enc_two _ (by show 128 ≤ _; omega) (by show _ ≤ 2047; omega)]; rfl
          · rw [enc_two _ (by show 128 ≤ _; omega) (by show _ ≤ 2047; omega), u8_eq x _ (by show _ = 192 + (x.toNat % 32 * 64 + y.toNat % 64) / 64; omega), u8_eq y _ (by show _ = 128 + (x.toNat % 32 * 64 + y.toNat % 64) % 64; omega)]; rfl
        · left
          simp only [decL, List.getD_cons_zero, List.getD_cons_succ, List.length_cons]
          unfold Lib.decodeN
          rw [if_neg h1, if_pos (by omega), if_neg h2b]
      · cases t with
        | nil =>
          left
          simp only [decL, List.getD_cons_zero, List.getD_cons_succ, List.length_cons, List.length_nil]
          unfold Lib.decodeN
          rw [if_neg h1, if_neg (by omega), if_neg (by omega), if_neg (by omega)]
        | cons z t =>
          have hz := z.toNat_lt
          by_cases h3 : x.toNat / 16 = 14 ∧ y.toNat / 64 = 2 ∧ z.toNat / 64 = 2
          · by_cases h3b : x.toNat % 16 * 4096 + y.toNat % 64 * 64 + z.toNat % 64 ≥ 2048 ∧ (x.toNat % 16 * 4096 + y.toNat % 64 * 64 + z.toNat % 64 < 55296 ∨ (57344 ≤ x.toNat % 16 * 4096 + y.toNat % 64 * 64 + z.toNat % 64 ∧ x.toNat % 16 * 4096 + y.toNat % 64 * 64 + z.toNat % 64 ≤ 1114111))
            · right
              have e : decL (x :: y :: z :: t) = (x.toNat % 16 * 4096 + y.toNat % 64 * 64 + z.toNat % 64, 3) := by
                simp only [decL, List.getD_cons_zero, List.getD_cons_succ, List.length_cons]
                unfold Lib.decodeN
                rw [if_neg h1, if_neg (by omega), if_pos (by omega), if_pos h3b]
              rw [e]
              have hr : (2048 ≤ x.toNat % 16 * 4096 + y.toNat % 64 * 64 + z.toNat % 64 ∧ x.toNat % 16 * 4096 + y.toNat % 64 * 64 + z.toNat % 64 < 55296) ∨ (57343 < x.toNat % 16 * 4096 + y.toNat % 64 * 64 + z.toNat % 64 ∧ x.toNat % 16 * 4096 + y.toNat % 64 * 64 + z.toNat % 64 ≤ 65535) := by omega
              refine ⟨by unfold Sc; show _ < _ ∨ (_ ≤ _ ∧ _ ≤ _); omega, ?_, ?_⟩
              · rw [enc_three _ hr]; rfl
              · rw [enc_three _ hr, u8_eq x _ (by show _ = 224 + (x.toNat % 16 * 4096 + y.toNat % 64 * 64 + z.toNat % 64) / 4096; omega), u8_eq y _ (by show _ = 128 + (x.toNat % 16 * 4096 + y.toNat % 64 * 64 + z.toNat % 64) / 64 % 64; omega), u8_eq z _ (by show _ = 128 + (x.toNat % 16 * 4096 + y.toNat % 64 * 64 + z.toNat % 64) % 64; omega)]; rfl
            · left
              simp only [decL, List.getD_cons_zero, List.getD_cons_succ, List.length_cons]
              unfold Lib.decodeN
              rw [if_neg h1, if_neg (by omega), if_pos (by omega), if_neg h3b]
          · cases t with
            | nil =>
              left
              simp only [decL, List.getD_cons_zero, List.getD_cons_succ, List.length_cons, List.length_nil]
              unfold Lib.decodeN
              rw [if_neg h1, if_neg (by omega), if_neg (by omega), if_neg (by omega)]
            | cons u t =>
              have hu := u.toNat_lt
              by_cases h4 : x.toNat / 8 = 30 ∧ y.toNat / 64 = 2 ∧ z.toNat / 64 = 2 ∧ u.toNat / 64 = 2
              · by_cases h4b : x.toNat % 8 * 262144 + y.toNat % 64 * 4096 + z.toNat % 64 * 64 + u.toNat % 64 ≥ 65536 ∧ (x.toNat % 8 * 262144 + y.toNat % 64 * 4096 + z.toNat % 64 * 64 + u.toNat % 64 < 55296 ∨ (57344 ≤ x.toNat % 8 * 262144 + y.toNat % 64 * 4096 + z.toNat % 64 * 64 + u.toNat % 64 ∧ x.toNat % 8 * 262144 + y.toNat % 64 * 4096 + z.toNat % 64 * 64 + u.toNat % 64 ≤ 1114111))
                · right
                  have e : decL (x :: y :: z :: u :: t) = (x.toNat % 8 * 262144 + y.toNat % 64 * 4096 + z.toNat % 64 * 64 + u.toNat % 64, 4) := by
                    simp only [decL, List.getD_cons_zero, List.getD_cons_succ, List.length_cons]
                    unfold Lib.decodeN
                    rw [if_neg h1, if_neg (by omega), if_neg (by omega), if_pos (by omega), if_pos h4b]
                  rw [e]
                  refine ⟨by unfold Sc; show _ < _ ∨ (_ ≤ _ ∧ _ ≤ _); omega, ?_, ?_⟩
                  · rw [enc_four _ (by show 65536 ≤ _; omega) (by show _ ≤ 1114111; omega)]; rfl
                  · rw [enc_four _ (by show 65536 ≤ _; omega) (by show _ ≤ 1114111; omega), u8_eq x _ (by show _ = 240 + (x.toNat % 8 * 262144 + y.toNat % 64 * 4096 + z.toNat % 64 * 64 + u.toNat % 64) / 262144; omega), u8_eq y _ (by show _ = 128 + (x.toNat % 8 * 262144 + y.toNat % 64 * 4096 + z.toNat % 64 * 64 + u.toNat % 64) / 4096 % 64; omega),
                      u8_eq z _ (by show _ = 128 + (x.toNat % 8 * 262144 + y.toNat % 64 * 4096 + z.toNat % 64 * 64 + u.toNat % 64) / 64 % 64; omega), u8_eq u _ (by show _ = 128 + (x.toNat % 8 * 262144 + y.toNat % 64 * 4096 + z.toNat % 64 * 64 + u.toNat % 64) % 64; omega)]; rfl
                · left
                  simp only [decL, List.getD_cons_zero, List.getD_cons_succ, List.length_cons]
                  unfold Lib.decodeN
                  rw [if_neg h1, if_neg (by omega), if_neg (by omega), if_pos (by omega), if_neg h4b]
              · left
                simp only [decL, List.getD_cons_zero, List.getD_cons_succ, List.length_cons]
                unfold Lib.decodeN
                rw [if_neg h1, if_neg (by omega), if_neg (by omega), if_neg (by omega)]
theorem low_sc (r : Nat) (h : Sc r) : Sc (lowN r) := by
  unfold Sc at h ⊢
  unfold lowN
  split
  · omega
  · split
    · omega
    · split <;> omega
theorem low_low (r : Nat) : lowN (lowN r) = lowN r := by
  unfold lowN
  repeat' split
  all_goals omega
theorem low_err (r : Nat) : lowN r = 65533 ↔ r = 65533 := by
  unfold lowN
  repeat' split
  all_goals omega
theorem low_len (r : Nat) (h : Sc r) : (Lib.encodeRune (lowN r : Nat)).length = (Lib.encodeRune (r : Nat)).length := by
  by_cases h1 : r ≤ 127
  · have h2 : lowN r ≤ 127 := by unfold lowN; repeat' split
                                 all_goals omega
    rw [enc_one r h1, enc_one _ h2]; rfl
  · by_cases h2 : r ≤ 2047
    · have h3 : 128 ≤ lowN r ∧ lowN r ≤ 2047 := by unfold lowN; repeat' split
                                                   all_goals omega
      rw [enc_two r (by omega) h2, enc_two _ h3.1 h3.2]; rfl
    · have h3 : lowN r = r := by unfold lowN; repeat' split
                                 all_goals omega
      rw [h3]
end Go.Proofs.YtoeagociikihnaaDoor
