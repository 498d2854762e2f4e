/- The walk of dir.Fold. Conditions: the two tables of unicode/utf8 lie as Go lays them; the name has fewer than 2^47 bytes. -/
import Derived.Test.YtoeagociikihnaaDoorBld
import Derived.Test.YtoeagociikihnaaDoorFoldq
import Derived.Laws.Slices
namespace Go.Proofs.YtoeagociikihnaaDoor
open Go.RowKit
set_option linter.unusedSimpArgs false
set_option linter.unusedVariables false
theorem lower_calls (r : Nat) (w : World) (h : r ≤ 1114111) :
    Calls Tryd.prog 12 #[.int .i32 r] w fun e w' => e = .returned (.int .i32 (lowN r : Nat)) ∧ w = w' := by
  by_cases h1 : r = 215
  · subst h1
    go_enter Tryd.func12, Tryd.ntmps12
    go_wp2_with fail
    go_ret
    exact ⟨rfl, rfl⟩
  · by_cases h2 : r = 930
    · subst h2
      go_enter Tryd.func12, Tryd.ntmps12
      go_wp2_with fail
      go_ret
      exact ⟨rfl, rfl⟩
    · by_cases h3 : r = 962
      · subst h3
        go_enter Tryd.func12, Tryd.ntmps12
        go_wp2_with fail
        go_ret
        exact ⟨rfl, rfl⟩
      · have k1 : ¬ (r : Int) = 215 := by omega
        have k2 : ¬ (r : Int) = 930 := by omega
        have k3 : ¬ (r : Int) = 962 := by omega
        have b1 : ((r : Int) == 215) = false := by simpa using k1
        have b2 : ((r : Int) == 930) = false := by simpa using k2
        have b3 : ((r : Int) == 962) = false := by simpa using k3
        go_enter Tryd.func12, Tryd.ntmps12
        go_wp2_with fail
        all_goals go_ret
        all_goals
          refine ⟨?_, rfl⟩
          refine congrArg (fun z => Ending.returned (Value.int .i32 z)) ?_
          unfold lowN
          repeat' split
          all_goals omega
theorem tabs_below {w w' : World} {B : Nat} (h : Lib.Utf8Tabs 0 1 w) (hb : Below B w w') (hB : 1 < B) : Lib.Utf8Tabs 0 1 w' := by
  refine ⟨fun c hc => ?_, fun i hi => ?_⟩
  · rw [hb.cell (by show 0 < B; omega)]; exact h.1 c hc
  · rw [hb.cell (by show 1 < B; omega), hb.cell (by show 1 < B; omega)]; exact h.2 i hi
theorem enc_cells (r : Nat) : Lib.runeCells (r : Int) = Lib.byteCells (Lib.encodeRune (r : Int)) := (Lib.byteCells_encodeRune _).symm
theorem ext_list (s : ByteArray) (i : Nat) : (s.extract i s.size).data.toList = s.data.toList.drop i := by
  obtain ⟨⟨l⟩⟩ := s
  simp [ByteArray.data_extract, ByteArray.size]
  exact List.take_of_length_le (by simp)
theorem bld_below {T e : TypeId} {B b : Nat} {bs : List Value} {w w' : World} (h : Lib.IsBuilderF T e B b bs w) (hb : Below w.heap.size w w') : Lib.IsBuilderF T e B b bs w' := by
  have each : ∀ p, Lib.BuilderAtF T e B b p bs w → Lib.BuilderAtF T e B b p bs w' := by
    rintro p ⟨h1, v, h2, h3, h4⟩
    refine ⟨h1, v, ?_, ?_, h4⟩
    · rw [hb.block b (Array.getElem?_eq_some_iff.1 h2).1]; exact h2
    · refine ⟨h3.1, ?_⟩
      rcases h3.2 with hn | ⟨g, cap, cur, fz, hv, hg, hc, rest⟩
      · exact .inl hn
      · refine .inr ⟨g, cap, cur, fz, hv, hg, ?_, rest⟩
        rw [hb.block g (Array.getElem?_eq_some_iff.1 hc).1]; exact hc
  exact h.elim (fun x => .inl (each _ x)) (fun x => .inr (each _ x))
/-- what the loop of Fold keeps -/
structure FldI (w wr : World) (s : ByteArray) (acc : List UInt8) (pos : Nat) : Prop where
  bld : Lib.IsBuilderF 29 5 w.heap.size w.heap.size (Lib.byteCells acc) wr
  it : wr.heap[w.heap.size + 1]? = some (.stringIter s pos)
  below : Below w.heap.size w wr
  eq : acc ++ fold (s.data.toList.drop pos) = fold s.data.toList
  le : pos ≤ s.size
set_option maxHeartbeats 4000000 in
set_option maxRecDepth 1000000 in
theorem fold_calls (s : ByteArray) (w : World) (hs : s.size ≤ 140737488355320) (hT : Lib.Utf8Tabs 0 1 w) (hg : 1 < w.heap.size) :
    Calls Tryd.prog 5 #[.string s] w fun e w' => e = .returned (.string ⟨(fold s.data.toList).toArray⟩) ∧ Below w.heap.size w w' := by
  have HT := Lib.hid hT
  clear hT
  go_enter Tryd.func5, Tryd.ntmps5
  go_wp2_with fail
  go_loopw [] (fun wr => ∃ (pos : Nat) (acc : List UInt8), Hid (FldI w wr s acc pos)) (fun wr => s.size - wr.iterPos (w.heap.size + 1))
  case atStart =>
    refine ⟨0, [], Lib.hid ⟨(Lib.IsBuilderF.of (Lib.fresh_isBuilder 29 5 w)).alloc _, ?_, ((Below.refl _ w).alloc (Nat.le_refl _) _).alloc (by simp) _, rfl, by omega⟩⟩
    have := World.iter_heap (w.alloc (.cells #[.pointer none, .slice none 0 0] 29)) s 0
    simpa using this
  case round =>
    obtain ⟨pos, acc, H⟩ := hrel
    have hsl : s.size = s.data.toList.length := rfl
    have hlen := congrArg List.length H.out.eq
    rw [List.length_append, fold_len, fold_len, List.length_drop, ← hsl] at hlen
    have hle := H.out.le
    have hsz : w.heap.size + 1 < wr.heap.size := (Array.getElem?_eq_some_iff.1 H.out.it).1
    have hal : acc.length = pos := by omega
    clear hlen
    by_cases hp : pos < s.size
    · have hnx : ∀ ty, (Instr.next (.pointer (some ⟨w.heap.size + 1, 0, none⟩)) true ty).run Tryd.prog wr = _ := fun ty => Lib.run_next_any_at wr (w.heap.size + 1) s pos ty H.out.it hp
      have hd0 := dec_list s pos
      have hdrop : ∃ x t, s.data.toList.drop pos = x :: t ∧ s[pos]'hp = x := by
        refine ⟨_, _, List.drop_eq_getElem_cons (by rw [← hsl]; exact hp), ?_⟩
        rfl
      obtain ⟨x, t, hxt, hx⟩ := hdrop
      rw [hxt] at hd0
      have heq := H.out.eq
      rw [hxt, fold_cons, ← hxt, List.drop_drop, hxt, ← List.append_assoc] at heq
      have hcs := dec_cases x t
      have hlx : (x :: t).length = s.size - pos := by rw [← hxt, List.length_drop, hsl]
      have hxl : (s.extract pos s.size).data.toList = x :: t := by rw [ext_list, hxt]
      have hgo : Lib.decodeGo (s.extract pos s.size) = decL (x :: t) := by
        unfold Lib.decodeGo
        rw [if_neg, dec_list, List.drop_zero, hxl]
        intro h
        have h2 := congrArg List.length hxl
        rw [show (s.extract pos s.size).data.toList.length = (s.extract pos s.size).size from rfl, h] at h2
        cases h2
      have hdc := Lib.hid (fun W hT => Tryd.utf8_DecodeRuneInString (s.extract pos s.size) W hT)
      rw [hgo] at hdc
      have hsl1 := fun W => run_slice_string_l (P := Tryd.prog) W 9 s Tryd.underlying9 .i64 (pos : Int) (by omega) (by omega)
      simp only [Int.toNat_natCast] at hsl1
      have hk : (decL (x :: t)).2 ≤ (x :: t).length := by
        rcases hcs with h | ⟨_, h2, h3⟩
        · rw [h]; simp
        · have h4 := congrArg List.length h3
          rw [List.length_append, h2] at h4
          omega
      rw [hlx] at hk
      have hpos := decL_pos (x :: t)
      have hcs2 : (decL (x :: t) = (65533, 1) ∧ chunk x (decL (x :: t)) = [x]) ∨ ((decL (x :: t)).1 ≤ 1114111 ∧ (lowN (decL (x :: t)).1) ≤ 1114111 ∧ ((decL (x :: t)).1 = 65533 → (decL (x :: t)).2 = 3) ∧ chunk x (decL (x :: t)) = Lib.encodeRune (lowN (decL (x :: t)).1 : Nat)) := by
        rcases hcs with h | ⟨h1, h2, h3⟩
        · exact .inl ⟨h, by rw [h]; rfl⟩
        · have h4 := low_sc _ h1
          unfold Sc at h1 h4
          refine .inr ⟨by omega, by omega, fun e => ?_, chunk_good x _ h2⟩
          rw [← h2, e, enc_three 65533 (.inr (by omega))]
          rfl
      clear hcs hlx hxl hgo hsl hxt
      rw [hd0] at hnx
      clear hd0
      generalize chunk x (decL (x :: t)) = ch at *
      generalize decL (x :: t) = d at *
      obtain ⟨r, k⟩ := d
      simp only at hk hpos hcs2 heq hnx hdc
      have hI2 := Lib.hid (H.out.bld.iterAt H.out.it (pos + k))
      have hit2 := Lib.hid (Lib.iterAt_heap wr (w.heap.size + 1) s pos (pos + k) H.out.it)
      have hbw2 := Lib.hid (Lib.below_iterAt H.out.below (k := w.heap.size + 1) (by omega) s (pos + k))
      have hsz2 : w.heap.size ≤ (wr.iterAt (w.heap.size + 1) s (pos + k)).heap.size := by rw [Lib.iterAt_size]; omega
      have hm1 : wr.iterPos (w.heap.size + 1) = pos := by simp only [World.iterPos, H.out.it]
      have Heq := Lib.hid heq
      have Hm1 := Lib.hid hm1
      clear H heq hm1
      generalize hW0 : wr.iterAt (w.heap.size + 1) s (pos + k) = W0 at *
      clear hW0
      have HT0 := Lib.hid (tabs_below HT.out hbw2.out hg)
      rcases hcs2 with ⟨he, hch⟩ | ⟨hr1, hr2, hr3, hch⟩
      · obtain ⟨rfl, rfl⟩ := Prod.mk.inj he
        subst hch
        have hwb := Lib.hid (fun W h hs => writeByte_calls w.heap.size w.heap.size (Lib.byteCells acc) (x.toNat : Int) W h (by rw [Lib.byteCells_length]; omega) hs)
        have hd1 := Lib.hid (fun W hT => show Calls Tryd.prog 9 #[.string (s.extract pos s.size)] W fun e w' => e = .returned (.tuple #[.int .i32 65533, .int .i64 1]) ∧ Below W.heap.size W w' from hdc.out W hT)
        clear hdc
        have hgx : s.get! pos = x := by rw [← hx]; simp [ByteArray.get!, getElem!_pos, hp]; rfl
        go_wp2_with fail
        refine (hd1.out W0 HT0.out).mono ?_
        rintro e W1 ⟨rfl, b1⟩
        have HI3 := Lib.hid (bld_below hI2.out b1)
        have Hit3 := Lib.hid ((b1.block _ (Array.getElem?_eq_some_iff.1 hit2.out).1).trans hit2.out)
        have Hb3 := Lib.hid (hbw2.out.trans (b1.mono hsz2))
        clear b1
        go_wp2_with fail
        refine (hwb.out W1 HI3.out Hb3.out.size).mono ?_
        rintro e W2 ⟨rfl, h2, b2, k2⟩
        have HF := Lib.hid (show FldI w W2 s (acc ++ [x]) (pos + 1) from ⟨by rw [Lib.byteCells_append]; exact Or.inr h2, k2.iter Hit3.out (by omega), Hb3.out.trans b2, Heq.out, by omega⟩)
        clear h2 b2 k2
        go_wp2_with fail
        go_roundw
        case rel => exact ⟨_, _, HF⟩
        case measure => rw [Hm1.out]; simp only [World.iterPos, HF.out.it]; omega
      · have hlc := Lib.hid (fun W => lower_calls r W hr1)
        have hwr := Lib.hid (fun W h hs => writeRune_calls w.heap.size w.heap.size (Lib.byteCells acc) (lowN r : Nat) (by omega) (by omega) W h (by rw [Lib.byteCells_length]; omega) hs)
        by_cases hrE : r = 65533
        · obtain rfl : k = 3 := hr3 hrE
          subst hrE
          have hd1 := Lib.hid (fun W hT => show Calls Tryd.prog 9 #[.string (s.extract pos s.size)] W fun e w' => e = .returned (.tuple #[.int .i32 65533, .int .i64 3]) ∧ Below W.heap.size W w' from hdc.out W hT)
          have hlc := Lib.hid (fun W => show Calls Tryd.prog 12 #[.int .i32 65533] W fun e w' => e = .returned (.int .i32 (lowN 65533 : Nat)) ∧ W = w' from hlc.out W)
          clear hdc
          generalize lowN 65533 = lr at *
          go_wp2_with fail
          refine (hd1.out W0 HT0.out).mono ?_
          rintro e W1 ⟨rfl, b1⟩
          have HI3 := Lib.hid (bld_below hI2.out b1)
          have Hit3 := Lib.hid ((b1.block _ (Array.getElem?_eq_some_iff.1 hit2.out).1).trans hit2.out)
          have Hb3 := Lib.hid (hbw2.out.trans (b1.mono hsz2))
          clear b1
          go_wp2_with fail
          refine (hlc.out _).mono ?_
          rintro e W1' ⟨rfl, rfl⟩
          go_wp2_with fail
          refine (hwr.out _ HI3.out Hb3.out.size).mono ?_
          rintro e W2 ⟨rfl, h2, b2, k2⟩
          have HF := Lib.hid (show FldI w W2 s (acc ++ ch) (pos + 3) from ⟨by rw [Lib.byteCells_append, hch, ← enc_cells]; exact Or.inr h2, k2.iter Hit3.out (by omega), Hb3.out.trans b2, Heq.out, by omega⟩)
          clear h2 b2 k2
          go_wp2_with fail
          go_roundw
          case rel => exact ⟨_, _, HF⟩
          case measure => rw [Hm1.out]; simp only [World.iterPos, HF.out.it]; omega
        · have HI3 := hI2
          have Hit3 := hit2
          have Hb3 := hbw2
          have hrI : ¬ (r : Int) = 65533 := by omega
          have hrB : ((r : Int) == 65533) = false := by simpa using hrI
          clear hdc hr3
          generalize lowN r = lr at *
          go_wp2_with fail
          refine (hlc.out _).mono ?_
          rintro e W1' ⟨rfl, rfl⟩
          go_wp2_with fail
          refine (hwr.out _ HI3.out Hb3.out.size).mono ?_
          rintro e W2 ⟨rfl, h2, b2, k2⟩
          have HF := Lib.hid (show FldI w W2 s (acc ++ ch) (pos + k) from ⟨by rw [Lib.byteCells_append, hch, ← enc_cells]; exact Or.inr h2, k2.iter Hit3.out (by omega), Hb3.out.trans b2, Heq.out, by omega⟩)
          clear h2 b2 k2
          go_wp2_with fail
          go_roundw
          case rel => exact ⟨_, _, HF⟩
          case measure => rw [Hm1.out]; simp only [World.iterPos, HF.out.it]; omega
    · obtain rfl : pos = s.size := by omega
      have hacc : acc = fold s.data.toList := by
        have h := H.out.eq
        rw [List.drop_of_length_le (by rw [← hsl]; exact Nat.le_refl _), fold_nil, List.append_nil] at h
        exact h
      have hnx : ∀ ty, (Instr.next (.pointer (some ⟨w.heap.size + 1, 0, none⟩)) true ty).run Tryd.prog wr = _ := fun ty => Lib.run_next_end_at wr (w.heap.size + 1) s s.size ty H.out.it hp
      have HB := Lib.hid (Tryd.Builder_String_any_k w.heap.size w.heap.size acc wr H.out.bld (by omega))
      go_wp2_with fail
      refine (HB.out).mono ?_
      rintro e W1 ⟨rfl, _, b1, _⟩
      have Hb1 := Lib.hid (H.out.below.trans b1)
      clear b1
      go_wp2_with fail
      go_ret
      exact ⟨rfl, Hb1.out⟩
end Go.Proofs.YtoeagociikihnaaDoor
