/- Walks of strings.IndexAny and ContainsAny at a slash and a byte 0, over every text of fewer than 2^32 - 15 bytes: whether one of the two bytes is there. -/
import Derived.Test.YtoeagociikihnaaDoorIrune
import Derived.Test.YtoeagociikihnaaDoorTwice
namespace Go.Proofs.YtoeagociikihnaaDoor
open Go.RowKit
set_option linter.unusedSimpArgs false
set_option linter.unusedVariables false
def sepB (l : List UInt8) : Bool := l.any fun b => decide (b.toNat = 47) || decide (b.toNat = 0)
theorem sepB_cons (x : UInt8) (t : List UInt8) : sepB (x :: t) = ((decide (x.toNat = 47) || decide (x.toNat = 0)) || sepB t) := rfl
theorem sepB_high (e t : List UInt8) (h : ∀ b ∈ e, 128 ≤ b.toNat) : sepB (e ++ t) = sepB t := by
  induction e with
  | nil => rfl
  | cons x e ih =>
    have hx := h x (by simp)
    rw [List.cons_append, sepB_cons, ih (fun b hb => h b (by simp [hb])), decide_eq_false (by omega), decide_eq_false (by omega)]
    rfl
theorem enc_high (r : Nat) (h0 : 128 ≤ r) (hs : Sc r) : ∀ b ∈ Lib.encodeRune (r : Int), 128 ≤ b.toNat := by
  unfold Sc at hs
  by_cases h2 : r ≤ 2047
  · rw [enc_two r h0 h2]
    simp only [List.mem_cons, List.not_mem_nil, or_false]
    rintro b (rfl | rfl) <;> rw [ofN _ (by omega)] <;> omega
  · by_cases h3 : r ≤ 65535
    · rw [enc_three r (by omega)]
      simp only [List.mem_cons, List.not_mem_nil, or_false]
      rintro b (rfl | rfl | rfl) <;> rw [ofN _ (by omega)] <;> omega
    · rw [enc_four r (by omega) (by omega)]
      simp only [List.mem_cons, List.not_mem_nil, or_false]
      rintro b (rfl | rfl | rfl | rfl) <;> rw [ofN _ (by omega)] <;> omega
theorem sep_step (x : UInt8) (t : List UInt8) : ((decL (x :: t)).1 < 128 ∧ (decL (x :: t)).2 = 1 ∧ x.toNat = (decL (x :: t)).1) ∨ (128 ≤ (decL (x :: t)).1 ∧ ((decL (x :: t)).1 = 65533 ∨ Sc (decL (x :: t)).1) ∧ sepB (x :: t) = sepB ((x :: t).drop (decL (x :: t)).2)) := by
  by_cases h1 : x.toNat < 128
  · left
    have e : decL (x :: t) = (x.toNat, 1) := by
      simp only [decL, List.getD_cons_zero]
      unfold Lib.decodeN
      rw [if_pos h1]
    rw [e]
    exact ⟨h1, rfl, rfl⟩
  · right
    rcases dec_cases x t with h | ⟨hs, hl, he⟩
    · rw [h]
      refine ⟨by decide, .inl rfl, ?_⟩
      show sepB (x :: t) = sepB t
      rw [sepB_cons, decide_eq_false (by omega), decide_eq_false (by omega)]
      rfl
    · have h0 : 128 ≤ (decL (x :: t)).1 := by
        rcases Nat.lt_or_ge (decL (x :: t)).1 128 with h | h
        · exfalso
          rw [enc_one _ (by omega), List.singleton_append] at he
          have hx := (List.cons.inj he).1
          rw [hx, ofN _ (by omega)] at h1
          exact h1 h
        · exact h
      refine ⟨h0, .inr hs, ?_⟩
      conv => lhs; rw [he]
      exact sepB_high _ _ (enc_high _ h0 hs)
theorem indexRune_all (r : Nat) (h : r < 128 ∨ (128 ≤ r ∧ (r = 65533 ∨ Sc r))) (w : World) :
    Calls Tryd.prog 22 #[.string ⟨#[47, 0]⟩, .int .i32 r] w fun e w' => ∃ z, e = .returned (.int .i64 z) ∧ (decide (0 ≤ z) = (decide (r = 47) || decide (r = 0))) ∧ Below w.heap.size w w' := by
  by_cases h1 : r < 128
  · refine (Tryd.strings_IndexRune_ascii ⟨#[47, 0]⟩ (r : Int) w (by omega) (by omega)).mono ?_
    rintro e w' ⟨rfl, rfl⟩
    refine ⟨_, rfl, ?_, Below.refl _ _⟩
    show decide (0 ≤ Lib.indexByte [47, 0] (r : Int).toNat.toUInt8) = _
    rw [Int.toNat_natCast]
    by_cases h47 : r = 47
    · subst h47; rfl
    · by_cases h0 : r = 0
      · subst h0; rfl
      · rw [decide_eq_false h47, decide_eq_false h0]
        have e1 : ((47 : UInt8) == r.toUInt8) = false := by
          rw [beq_eq_false_iff_ne]
          intro e
          have := congrArg UInt8.toNat e
          simp [Nat.toUInt8, UInt8.toNat_ofNat'] at this
          omega
        have e2 : ((0 : UInt8) == r.toUInt8) = false := by
          rw [beq_eq_false_iff_ne]
          intro e
          have := congrArg UInt8.toNat e
          simp [Nat.toUInt8, UInt8.toNat_ofNat'] at this
          omega
        simp [Lib.indexByte, e1, e2]
  · have h2 : r = 65533 ∨ Sc r := by
      rcases h with h | h
      · exact absurd h h1
      · exact h.2
    have e1 : (decide (r = 47) || decide (r = 0)) = false := by
      rw [decide_eq_false (by omega), decide_eq_false (by omega)]; rfl
    rw [e1]
    by_cases h3 : r = 65533
    · subst h3
      refine (indexRune_err w).mono ?_
      rintro e w' ⟨rfl, hb⟩
      exact ⟨_, rfl, rfl, hb⟩
    · refine (indexRune_high r (by omega) (by rcases h2 with h | h; exact absurd h h3; exact h) h3 w).mono ?_
      rintro e w' ⟨rfl, hb⟩
      exact ⟨_, rfl, rfl, hb⟩
structure AnI (w wr : World) (s : ByteArray) (pos : Nat) : Prop where
  it : wr.heap[w.heap.size]? = some (.stringIter s pos)
  below : Below w.heap.size w wr
  eq : sepB (s.data.toList.drop pos) = sepB s.data.toList
  le : pos ≤ s.size
set_option maxHeartbeats 4000000 in
set_option maxRecDepth 1000000 in
theorem indexAny_short (s : ByteArray) (h8 : s.size ≤ 8) (w : World) :
    Calls Tryd.prog 20 #[.string s, .string ⟨#[47, 0]⟩] w fun e w' => ∃ z, e = .returned (.int .i64 z) ∧ decide (0 ≤ z) = sepB s.data.toList ∧ Below w.heap.size w w' := by
  have h8z : decide ((8 : Int) < (s.size : Int)) = false := decide_eq_false (by omega)
  go_enter Tryd.func20, Tryd.ntmps20
  go_wp2_with fail
  refine (Tryd.strings_shouldUseASCIISet _ _).mono ?_
  rintro e w' ⟨rfl, rfl⟩
  rw [h8z]
  rename World => w0
  go_wp2_with fail
  go_loopw [] (fun wr => ∃ pos, Hid (AnI w0 wr s pos)) (fun wr => s.size - wr.iterPos w0.heap.size)
  case atStart =>
    refine ⟨0, Lib.hid ⟨?_, (Below.refl _ _).alloc (Nat.le_refl _) _, rfl, by omega⟩⟩
    have := World.iter_heap w0 s 0
    simpa using this
  case round =>
    obtain ⟨pos, G⟩ := hrel
    have hle := G.out.le
    by_cases hp : pos < s.size
    · have hnx : ∀ ty, (Instr.next (.pointer (some ⟨w0.heap.size, 0, none⟩)) true ty).run Tryd.prog wr = _ := fun ty => Lib.run_next_any_at wr w0.heap.size s pos ty G.out.it hp
      have hd0 := dec_list s pos
      obtain ⟨x, t, hxt⟩ : ∃ x t, s.data.toList.drop pos = x :: t := ⟨_, _, List.drop_eq_getElem_cons (show pos < s.data.toList.length from hp)⟩
      have hk := dec_le x t
      have hlx : (x :: t).length = s.size - pos := by rw [← hxt, List.length_drop]; rfl
      rw [hlx] at hk
      have hpos := decL_pos (x :: t)
      have hst := sep_step x t
      have heq := G.out.eq
      rw [hxt] at hd0 heq
      rw [hd0] at hnx
      rw [← hxt, List.drop_drop, hxt] at hst
      have hdr : (decL (x :: t)).2 = 1 → sepB (x :: t) = ((decide (x.toNat = 47) || decide (x.toNat = 0)) || sepB (s.data.toList.drop (pos + (decL (x :: t)).2))) := by
        intro h
        rw [h, ← List.drop_drop, hxt]
        rfl
      clear hd0 hlx hxt
      generalize decL (x :: t) = d at *
      obtain ⟨r, q⟩ := d
      simp only at hk hpos hst hnx hdr
      have hall : (r < 128 ∨ (128 ≤ r ∧ (r = 65533 ∨ Sc r))) ∧ sepB s.data.toList = ((decide (r = 47) || decide (r = 0)) || sepB (s.data.toList.drop (pos + q))) := by
        rcases hst with ⟨h1, h2, h3⟩ | ⟨h1, h2, h3⟩
        · exact ⟨.inl h1, by rw [← heq, hdr h2, h3]⟩
        · refine ⟨.inr ⟨h1, h2⟩, ?_⟩
          rw [decide_eq_false (by omega), decide_eq_false (by omega), ← heq, h3]
          rfl
      have hir := Lib.hid (fun W => indexRune_all r hall.1 W)
      have Hsep := Lib.hid hall.2
      have hit2 := Lib.hid (Lib.iterAt_heap wr w0.heap.size s pos (pos + q) G.out.it)
      have hbw2 := Lib.hid (Lib.below_iterAt G.out.below (k := w0.heap.size) (Nat.le_refl _) s (pos + q))
      have hm1 : wr.iterPos w0.heap.size = pos := by simp only [World.iterPos, G.out.it]
      have Hm1 := Lib.hid hm1
      clear G hm1 hst heq hall hdr
      generalize hW0 : wr.iterAt w0.heap.size s (pos + q) = W0 at *
      clear hW0
      go_wp2_with fail
      refine (hir.out W0).mono ?_
      rintro e W2 ⟨z, rfl, hz, b2⟩
      have Hb2 := Lib.hid (hbw2.out.trans (b2.mono hbw2.out.size))
      have Hit3 := Lib.hid ((b2.block _ (Array.getElem?_eq_some_iff.1 hit2.out).1).trans hit2.out)
      have Hz := Lib.hid hz
      clear b2 hz
      by_cases hz0 : 0 ≤ z
      · have hsep : sepB s.data.toList = true := by
          rw [Hsep.out, ← Hz.out, decide_eq_true hz0]; rfl
        go_wp2_with fail
        go_ret
        exact ⟨_, rfl, by rw [hsep, decide_eq_true (by omega)], Hb2.out⟩
      · have HG := Lib.hid (show AnI w0 W2 s (pos + q) from ⟨Hit3.out, Hb2.out, by rw [Hsep.out, ← Hz.out, decide_eq_false hz0]; rfl, by omega⟩)
        go_wp2_with fail
        go_roundw
        case rel => exact ⟨_, HG⟩
        case measure => rw [Hm1.out]; simp only [World.iterPos, HG.out.it]; omega
    · obtain rfl : pos = s.size := by omega
      have hnx : ∀ ty, (Instr.next (.pointer (some ⟨w0.heap.size, 0, none⟩)) true ty).run Tryd.prog wr = _ := fun ty => Lib.run_next_end_at wr w0.heap.size s s.size ty G.out.it hp
      have hsep : sepB s.data.toList = false := by
        rw [← G.out.eq, List.drop_of_length_le (show s.data.toList.length ≤ s.size from Nat.le_refl _)]
        rfl
      have HB := Lib.hid G.out.below
      clear G
      go_wp2_with fail
      go_ret
      exact ⟨_, rfl, by rw [hsep]; rfl, HB.out⟩
theorem indexAny_sep (l : List UInt8) : decide (0 ≤ Lib.indexAny l [47, 0]) = sepB l := by
  induction l with
  | nil => rfl
  | cons b l ih =>
    have hg := Lib.indexAny_ge [47, 0] l
    rw [sepB_cons]
    unfold Lib.indexAny
    by_cases hb : ([47, 0] : List UInt8).contains b = true
    · rw [if_pos hb]
      have hb2 : b.toNat = 47 ∨ b.toNat = 0 := by
        simp only [List.contains_cons, List.contains_nil, Bool.or_false, Bool.or_eq_true, beq_iff_eq] at hb
        rcases hb with rfl | rfl
        · exact .inl rfl
        · exact .inr rfl
      rcases hb2 with h | h <;> simp [h]
    · rw [if_neg hb]
      have hb2 : ¬ b.toNat = 47 ∧ ¬ b.toNat = 0 := by
        simp only [List.contains_cons, List.contains_nil, Bool.or_false, Bool.or_eq_true, beq_iff_eq, not_or] at hb
        exact ⟨fun h => hb.1 (UInt8.toNat_inj.1 h), fun h => hb.2 (UInt8.toNat_inj.1 h)⟩
      rw [decide_eq_false hb2.1, decide_eq_false hb2.2, ← ih]
      by_cases h1 : Lib.indexAny l [47, 0] = -1
      · simp [h1]
      · have h2 : (Lib.indexAny l [47, 0] == -1) = false := by simpa using h1
        rw [h2]
        have h3 : 0 ≤ Lib.indexAny l [47, 0] := by omega
        simp only [Bool.false_eq_true, if_false]
        rw [decide_eq_true h3, decide_eq_true (by omega)]
        rfl
theorem indexAny_calls (s : ByteArray) (hs : s.size < 4294967281) (w : World) :
    Calls Tryd.prog 20 #[.string s, .string ⟨#[47, 0]⟩] w fun e w' => ∃ z, e = .returned (.int .i64 z) ∧ decide (0 ≤ z) = sepB s.data.toList ∧ Below w.heap.size w w' := by
  by_cases h8 : s.size ≤ 8
  · exact indexAny_short s h8 w
  · refine (Tryd.strings_IndexAny_long (zero_of_info zero256).1 s ⟨#[47, 0]⟩ w (show 2 ≤ 2 by omega) (by omega) hs (show 2 < 4294967281 by omega) (by
      intro j b hj
      match j, hj with
      | 0, hj => cases hj; decide
      | 1, hj => cases hj; decide
      | j + 2, hj => simp at hj)).mono ?_
    rintro e w' ⟨rfl, rfl⟩
    exact ⟨_, rfl, indexAny_sep _, ((Below.refl _ _).alloc (Nat.le_refl _) _).alloc (by simp) _⟩
theorem containsAny_calls (s : ByteArray) (hs : s.size < 4294967281) (w : World) :
    Calls Tryd.prog 16 #[.string s, .string ⟨#[47, 0]⟩] w fun e w' => e = .returned (.bool (sepB s.data.toList)) ∧ Below w.heap.size w w' := by
  have hq := Lib.hid (indexAny_calls s hs w)
  go_enter Tryd.func16, Tryd.ntmps16
  go_wp2_with fail
  refine (hq.out).mono ?_
  rintro e w' ⟨z, rfl, hz, hb⟩
  have Hz := Lib.hid hz
  have Hb := Lib.hid hb
  clear hz hb
  go_wp2_with fail
  go_ret
  exact ⟨by rw [← Hz.out]; rfl, Hb.out⟩
end Go.Proofs.YtoeagociikihnaaDoor
