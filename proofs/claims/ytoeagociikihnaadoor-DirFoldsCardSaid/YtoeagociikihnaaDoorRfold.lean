/- The walk of bedrockref.Fold. Conditions: the two tables of unicode/utf8 lie as Go lays them; the name has fewer than 2^47 bytes. -/
import Derived.Test.YtoeagociikihnaaDoorFoldw
import Derived.Test.YtoeagociikihnaaDoorOwn
namespace Go.Proofs.YtoeagociikihnaaDoor
open Go.RowKit
set_option linter.unusedSimpArgs false
set_option linter.unusedVariables false
theorem lowerRef_calls (r : Nat) (w : World) (h : r ≤ 1114111) :
    Calls Tryd.prog 15 #[.int .i64 r] w fun e w' => e = .returned (.int .i64 (lowN r : Nat)) ∧ w = w' := by
  by_cases h1 : r = 215
  · subst h1
    go_enter Tryd.func15, Tryd.ntmps15
    go_wp2_with fail
    go_ret
    exact ⟨rfl, rfl⟩
  · by_cases h2 : r = 930
    · subst h2
      go_enter Tryd.func15, Tryd.ntmps15
      go_wp2_with fail
      go_ret
      exact ⟨rfl, rfl⟩
    · by_cases h3 : r = 962
      · subst h3
        go_enter Tryd.func15, Tryd.ntmps15
        go_wp2_with fail
        go_ret
        exact ⟨rfl, rfl⟩
      · have k1 : ¬ (r : Int) = 215 := by omega
        have k2 : ¬ (r : Int) = 930 := by omega
        have k3 : ¬ (r : Int) = 962 := by omega
        have b1 : ((r : Int) == 215) = false := by simpa using k1
        have b2 : ((r : Int) == 930) = false := by simpa using k2
        have b3 : ((r : Int) == 962) = false := by simpa using k3
        go_enter Tryd.func15, Tryd.ntmps15
        go_wp2_with fail
        all_goals go_ret
        all_goals
          refine ⟨?_, rfl⟩
          refine congrArg (fun z => Ending.returned (Value.int .i64 z)) ?_
          unfold lowN
          repeat' split
          all_goals omega
theorem step_facts (s : ByteArray) (pos : Nat) (hp : pos < s.size) : ∃ x r k ch, s[pos]'hp = x ∧ Utf8.decode s pos = (r, k) ∧ Lib.decodeGo (s.extract pos s.size) = (r, k) ∧ k ≤ s.size - pos ∧ 1 ≤ k ∧ fold (s.data.toList.drop pos) = ch ++ fold (s.data.toList.drop (pos + k)) ∧
    ((r = 65533 ∧ k = 1 ∧ ch = [x]) ∨ (r ≤ 1114111 ∧ lowN r ≤ 1114111 ∧ (r = 65533 → k = 3) ∧ ch = Lib.encodeRune (lowN r : Nat))) := by
  have hsl : s.size = s.data.toList.length := rfl
  have hdrop : ∃ x t, s.data.toList.drop pos = x :: t ∧ s[pos]'hp = x := by
    refine ⟨_, _, List.drop_eq_getElem_cons (by rw [← hsl]; exact hp), ?_⟩
    rfl
  obtain ⟨x, t, hxt, hx⟩ := hdrop
  have hd0 := dec_list s pos
  rw [hxt] at hd0
  have hlx : (x :: t).length = s.size - pos := by rw [← hxt, List.length_drop, hsl]
  have hxl : (s.extract pos s.size).data.toList = x :: t := by rw [ext_list, hxt]
  have hgo : Lib.decodeGo (s.extract pos s.size) = decL (x :: t) := by
    unfold Lib.decodeGo
    rw [if_neg, dec_list, List.drop_zero, hxl]
    intro h
    have h2 := congrArg List.length hxl
    rw [show (s.extract pos s.size).data.toList.length = (s.extract pos s.size).size from rfl, h] at h2
    cases h2
  have hcs := dec_cases x t
  have hk : (decL (x :: t)).2 ≤ s.size - pos := by
    rw [← hlx]
    rcases hcs with h | ⟨_, h2, h3⟩
    · rw [h]; simp
    · have h4 := congrArg List.length h3
      rw [List.length_append, h2] at h4
      omega
  refine ⟨x, (decL (x :: t)).1, (decL (x :: t)).2, chunk x (decL (x :: t)), ?_, by rw [hd0], by rw [hgo], hk, decL_pos _, ?_, ?_⟩
  · exact hx
  · rw [← List.drop_drop, hxt]; exact fold_cons x t
  · rcases hcs with h | ⟨h1, h2, h3⟩
    · exact .inl ⟨by rw [h], by rw [h], by rw [h]; rfl⟩
    · have h4 := low_sc _ h1
      unfold Sc at h1 h4
      refine .inr ⟨by omega, by omega, fun e => ?_, chunk_good x _ h2⟩
      rw [← h2, e, enc_three 65533 (.inr (by omega))]
      rfl
theorem own_pushL {w : World} {B : Nat} {v : Value} {out : List UInt8} (h : OwnB w B 5 v out) (hB : B ≤ w.heap.size) (b : UInt8) (hl : out.length ≤ 140737488355320) :
    ∃ v' W', (Builtin.append_ #[27, 27] 27 #[v, .slice (some ⟨w.heap.size, 0, none⟩) 1 1]).run Tryd.prog (w.alloc (.cells #[.int .u8 (b.toNat : Int)] 5)) = .ok v' W' ∧ OwnB W' B 5 v' (out ++ [b]) ∧ Below B w W' := by
  obtain ⟨i5, hi, hz0, hz1, hz2⟩ := info_parts infoByte
  obtain ⟨v3, W3, ha1, ha2, ha3, _⟩ := own_append (P := Tryd.prog) (w.alloc (.cells #[.int .u8 (b.toNat : Int)] 5)) 27 27 5 i5 Tryd.underlying27 hi hz0 hz1 hz2 B _ out (h.alloc _) (by simp; omega) (some ⟨w.heap.size, 0, none⟩) 1 [b] (one_rd w b _) (by simp; omega)
  exact ⟨v3, W3, ha1, ha2, ((Below.refl _ _).alloc hB _).trans ha3⟩
theorem appendRune_calls {w : World} {B : Nat} {v : Value} {out : List UInt8} (h : OwnB w B 5 v out) (hB : B ≤ w.heap.size) (r : Nat) (hr : r ≤ 1114111) (hl : out.length + 4 ≤ 140737488355328) :
    Calls Tryd.prog 14 #[v, .int .i32 (r : Int)] w fun e w' => ∃ v', e = .returned v' ∧ OwnB w' B 5 v' (out ++ Lib.encodeRune (r : Int)) ∧ Below B w w' := by
  refine (Tryd.utf8_AppendRune_plain B v out.length (vbs out) (r : Int) (by omega) (by omega) w h hl hB).mono ?_
  rintro e w' ⟨v', rfl, hown, o, hg⟩
  refine ⟨v', rfl, ?_, ((Below.refl B w).alloc hB o).grown hg (by simp; omega) (fun j hj => (h.block_le j hj).1)⟩
  unfold OwnB
  rw [vbs_append, List.length_append, show vbs (Lib.encodeRune (r : Int)) = Lib.runeCells (r : Int) from (enc_cells r).symm, ← Lib.runeCells_length]
  exact hown
structure RfI (w wr : World) (s : ByteArray) (v : Value) (acc : List UInt8) (pos : Nat) : Prop where
  own : OwnB wr w.heap.size 5 v acc
  below : Below w.heap.size w wr
  eq : acc ++ fold (s.data.toList.drop pos) = fold s.data.toList
  le : pos ≤ s.size
set_option maxHeartbeats 4000000 in
set_option maxRecDepth 1000000 in
theorem refFold_calls (s : ByteArray) (w : World) (hs : s.size ≤ 140737488355320) (hT : Lib.Utf8Tabs 0 1 w) (hg : 1 < w.heap.size) :
    Calls Tryd.prog 6 #[.string s] w fun e w' => e = .returned (.string ⟨(fold s.data.toList).toArray⟩) ∧ Below w.heap.size w w' := by
  have HT := Lib.hid hT
  clear hT
  go_enter Tryd.func6, Tryd.ntmps6
  go_wp2_with fail
  go_loopw [3, 4] (fun v i wr => ∃ (pos : Nat) (acc : List UInt8), i = .int .i64 pos ∧ Hid (RfI w wr s v acc pos)) (fun _ i _ => s.size - (intOf i).toNat)
  case atStart => exact ⟨0, [], rfl, Lib.hid ⟨OwnB.nil _ _ _, Below.refl _ _, rfl, by omega⟩⟩
  case round =>
    obtain ⟨pos, acc, rfl, H⟩ := hrel
    have hle := H.out.le
    by_cases hp : pos < s.size
    · obtain ⟨x, r, k, ch, hgx, _, hgo, hk, hk1, hfe, hcs⟩ := step_facts s pos hp
      have heq := H.out.eq
      have hlen := congrArg List.length heq
      rw [List.length_append, fold_len, fold_len, List.length_drop, show s.data.toList.length = s.size from rfl] at hlen
      have Hal := Lib.hid (show acc.length = pos by omega)
      clear hlen
      rw [hfe, ← List.append_assoc] at heq
      have Heq := Lib.hid heq
      have hdc := Lib.hid (fun W hT => Tryd.utf8_DecodeRuneInString (s.extract pos s.size) W hT)
      rw [hgo] at hdc
      have hsl1 := fun W => run_slice_string_l (P := Tryd.prog) W 9 s Tryd.underlying9 .i64 (pos : Int) (by omega) (by omega)
      simp only [Int.toNat_natCast] at hsl1
      obtain ⟨A, c, hv, _⟩ := H.out.own.form
      subst hv
      have HTr := Lib.hid (tabs_below HT.out H.out.below hg)
      clear heq hfe hgo
      rcases hcs with ⟨rfl, rfl, rfl⟩ | ⟨hr1, hr2, hr3, rfl⟩
      · have hd1 := Lib.hid (fun W hT => show Calls Tryd.prog 9 #[.string (s.extract pos s.size)] W fun e w' => e = .returned (.tuple #[.int .i32 65533, .int .i64 1]) ∧ Below W.heap.size W w' from hdc.out W hT)
        clear hdc
        go_wp2_with fail
        refine (hd1.out wr HTr.out).mono ?_
        rintro e W1 ⟨rfl, b1⟩
        have Ho1 := Lib.hid (H.out.own.below b1)
        have Hb1 := Lib.hid (H.out.below.trans (b1.mono H.out.below.size))
        clear b1
        obtain ⟨v', W2, ha1, ha2, ha3⟩ := own_pushL Ho1.out Hb1.out.size x (by have := Hal.out; omega)
        have HF := Lib.hid (show RfI w W2 s v' (acc ++ [x]) (pos + 1) from ⟨ha2, Hb1.out.trans ha3, Heq.out, by omega⟩)
        have Ha1 := Lib.hid ha1
        clear ha1 ha2 ha3
        go_wp2_with (at_builtin; go_must (refine wpList_append_run rfl (.tmp 24) (.tmp 28) 27 27 rfl rfl rfl Ha1.out ?_))
        exact ⟨⟨pos + 1, _, by go_num, HF⟩, by simp [intOf]; omega⟩
      · have hlc := Lib.hid (fun W => lowerRef_calls r W hr1)
        by_cases hrE : r = 65533
        · obtain rfl : k = 3 := hr3 hrE
          subst hrE
          have hd1 := Lib.hid (fun W hT => show Calls Tryd.prog 9 #[.string (s.extract pos s.size)] W fun e w' => e = .returned (.tuple #[.int .i32 65533, .int .i64 3]) ∧ Below W.heap.size W w' from hdc.out W hT)
          have hlc := Lib.hid (fun W => show Calls Tryd.prog 15 #[.int .i64 65533] W fun e w' => e = .returned (.int .i64 (lowN 65533 : Nat)) ∧ W = w' from hlc.out W)
          clear hdc
          generalize lowN 65533 = lr at *
          have hlI : (lr : Int) ≤ 1114111 := by omega
          go_wp2_with fail
          refine (hd1.out wr HTr.out).mono ?_
          rintro e W1 ⟨rfl, b1⟩
          have Ho1 := Lib.hid (H.out.own.below b1)
          have Hb1 := Lib.hid (H.out.below.trans (b1.mono H.out.below.size))
          clear b1
          go_wp2_with fail
          refine (hlc.out W1).mono ?_
          rintro e W1' ⟨rfl, rfl⟩
          go_wp2_with fail
          refine (appendRune_calls Ho1.out Hb1.out.size lr (by omega) (by have := Hal.out; omega)).mono ?_
          rintro e W2 ⟨v', rfl, hown', hgrow⟩
          have HF := Lib.hid (show RfI w W2 s v' (acc ++ Lib.encodeRune (lr : Int)) (pos + 3) from ⟨hown', Hb1.out.trans hgrow, Heq.out, by omega⟩)
          clear hown' hgrow
          go_wp2_with fail
          exact ⟨⟨pos + 3, _, by go_num, HF⟩, by simp [intOf]; omega⟩
        · have hrI : ¬ (r : Int) = 65533 := by omega
          have hrB : ((r : Int) == 65533) = false := by simpa using hrI
          clear hr3
          generalize lowN r = lr at *
          have hlI : (lr : Int) ≤ 1114111 := by omega
          have hrI2 : (r : Int) ≤ 1114111 := by omega
          go_wp2_with fail
          refine (hdc.out wr HTr.out).mono ?_
          rintro e W1 ⟨rfl, b1⟩
          have Ho1 := Lib.hid (H.out.own.below b1)
          have Hb1 := Lib.hid (H.out.below.trans (b1.mono H.out.below.size))
          clear b1
          go_wp2_with fail
          refine (hlc.out W1).mono ?_
          rintro e W1' ⟨rfl, rfl⟩
          go_wp2_with fail
          refine (appendRune_calls Ho1.out Hb1.out.size lr (by omega) (by have := Hal.out; omega)).mono ?_
          rintro e W2 ⟨v', rfl, hown', hgrow⟩
          have HF := Lib.hid (show RfI w W2 s v' (acc ++ Lib.encodeRune (lr : Int)) (pos + k) from ⟨hown', Hb1.out.trans hgrow, Heq.out, by omega⟩)
          clear hown' hgrow
          go_wp2_with fail
          exact ⟨⟨pos + k, _, by go_num, HF⟩, by simp [intOf]; omega⟩
    · obtain rfl : pos = s.size := by omega
      have hacc : acc = fold s.data.toList := by
        have h := H.out.eq
        rw [List.drop_of_length_le (show s.data.toList.length ≤ s.size from Nat.le_refl _), fold_nil, List.append_nil] at h
        exact h
      obtain ⟨A, c, hv, hr, _⟩ := H.out.own.form
      subst hv
      have hst := run_string_of (P := Tryd.prog) wr 27 9 5 Tryd.underlying27 Tryd.underlying5 Tryd.underlying9 A c acc hr
      have HB := Lib.hid H.out.below
      have Hacc := Lib.hid hacc
      clear hr H hacc
      go_wp2_with fail
      go_ret
      exact ⟨by rw [← Hacc.out]; rfl, HB.out⟩
end Go.Proofs.YtoeagociikihnaaDoor
