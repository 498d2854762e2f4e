/- The walk of strings.IndexRune at the text of a slash and a byte 0, over every character that is not ASCII: it is not there. -/
import Derived.Test.YtoeagociikihnaaDoorRfold
import Derived.Laws.Runes
import Derived.RegionTactic
import Derived.BigRegion
import Derived.BigQuiet
import Derived.Deep.RegionWith
namespace Go.Proofs.YtoeagociikihnaaDoor
open Go.RowKit
set_option linter.unusedSimpArgs false
set_option linter.unusedVariables false
theorem at1 (a b : UInt8) (h : 1 < (⟨#[a, b]⟩ : ByteArray).size) : (⟨#[a, b]⟩ : ByteArray)[1]'h = b := rfl
theorem idx_empty (c : UInt8) : Lib.indexByte ByteArray.empty.data.toList c = -1 := rfl
theorem zero256 : (Tryd.prog.info? 54).map (fun i => (i.zero, i.size)) = some (some (.agg (Array.replicate 256 (.bool false))), 256) := by kernel_rfl
set_option maxHeartbeats 4000000 in
set_option maxRecDepth 1000000 in
theorem indexRune_high (r : Nat) (h0 : 128 ≤ r) (hs : Sc r) (hne : r ≠ 65533) (w : World) :
    Calls Tryd.prog 22 #[.string ⟨#[47, 0]⟩, .int .i32 r] w fun e w' => e = .returned (.int .i64 (-1)) ∧ Below w.heap.size w w' := by
  have hv : Lib.validRune (r : Int) = true := by
    unfold Sc at hs
    unfold Lib.validRune
    rw [decide_eq_true_eq]
    omega
  have hV : Utf8.valid (r : Int) = true := by
    unfold Sc at hs
    rw [validRune_eq]
    unfold validRune
    rw [decide_eq_true_eq]
    omega
  obtain ⟨hE1, hE2, hE3⟩ := encode_facts (r : Int) hV (by omega)
  clear hV
  have hcv := fun W => run_convert_int_string (P := Tryd.prog) W 21 9 .i32 (r : Int) (by rw [Tryd.underlying21]; rfl) Tryd.underlying9
  generalize Utf8.encode (r : Int) = E at *
  have hrB : ((r : Int) == 65533) = false := by simpa using (show ¬ (r : Int) = 65533 by omega)
  by_cases h2 : E.size = 2
  · obtain ⟨y, z, rfl, hz⟩ : ∃ y z : UInt8, E = ⟨#[y, z]⟩ ∧ 128 ≤ z.toNat := by
      obtain ⟨⟨l⟩⟩ := E
      match l, h2, hE3 with
      | [y, z], _, hE3 => exact ⟨y, z, rfl, hE3 (show 1 < 2 by omega)⟩
    clear hE1 hE2 hE3 h2
    have hzn : ¬ (z.toNat : Int) = 0 := by omega
    have hzb : ((z.toNat : Int) == 0) = false := by simpa using hzn
    have hzc : ((0 : Int) == (z.toNat : Int)) = false := by simpa using (fun e => hzn e.symm)
    go_enter Tryd.func22, Tryd.ntmps22
    go_wp2_with fail
    refine (Tryd.utf8_ValidRune (r : Int) w).mono ?_
    rintro e w' ⟨rfl, rfl⟩
    rw [hv]
    go_wp2_with fail
    go_step3
    go_wp2_with fail
    go_loopw [9] (fun i wr => i = .int .i64 1 ∧ wr = w') (fun _ _ => 0)
    case atStart => exact ⟨rfl, rfl⟩
    case round =>
      obtain ⟨rfl, rfl⟩ := hrel
      go_wp2_with fail
      go_step3
      go_wp2_with fail
      go_region
      have hnb : (((((⟨#[47, 0]⟩ : ByteArray)[1]'(by decide)).toNat : Int)) != ((((⟨#[y, z]⟩ : ByteArray)[1]'(show 1 < 2 by omega)).toNat : Int))) = true := by
        rw [at1, at1]
        simp only [bne, Bool.not_eq_true']
        exact hzc
      simp only [hnb]
      go_wp2_with fail
      go_region_with (go_at_call 26; refine (Tryd.strings_IndexByte _ _ _).mono ?_; rintro e w' ⟨rfl, rfl⟩; rw [idx_empty])
      all_goals
        go_wp2_with fail
        repeat (first | rw [Exit.noGoto_ret] | simp only [Exit.inBlock, Exit.then] | go_big_open)
        go_ret
        exact ⟨rfl, by repeat (first | exact Below.refl _ _ | apply Below.drew)⟩
  · have hn : ∃ n, E.size = n + 3 := ⟨E.size - 3, by omega⟩
    obtain ⟨n, hn⟩ := hn
    have hnI : (E.size : Int) = (n : Int) + 3 := by omega
    have hnJ : ¬ (n : Int) + 2 < 2 := by omega
    have hnK : (n : Int) ≤ 1 := by omega
    clear hE1 hE2 hE3 h2
    go_enter Tryd.func22, Tryd.ntmps22
    go_wp2_with fail
    refine (Tryd.utf8_ValidRune (r : Int) w).mono ?_
    rintro e w' ⟨rfl, rfl⟩
    rw [hv]
    go_wp2_with fail
    go_step3
    go_wp2_with fail
    go_loopw [9] (fun i wr => (∃ m : Int, 2 ≤ m ∧ i = .int .i64 m) ∧ wr = w') (fun _ _ => 0)
    case atStart => exact ⟨⟨_, by omega, rfl⟩, rfl⟩
    case round =>
      obtain ⟨⟨m, hm, rfl⟩, rfl⟩ := hrel
      have hm2 : ¬ m < 2 := by omega
      go_wp2_with fail
      go_ret
      exact ⟨rfl, Below.refl _ _⟩
set_option maxHeartbeats 4000000 in
set_option maxRecDepth 1000000 in
theorem indexRune_err (w : World) :
    Calls Tryd.prog 22 #[.string ⟨#[47, 0]⟩, .int .i32 ((65533 : Nat) : Int)] w fun e w' => e = .returned (.int .i64 (-1)) ∧ Below w.heap.size w w' := by
  show Calls Tryd.prog 22 #[.string ⟨#[47, 0]⟩, .int .i32 65533] w fun e w' => e = .returned (.int .i64 (-1)) ∧ Below w.heap.size w w'
  go_enter Tryd.func22, Tryd.ntmps22
  go_wp2_with fail
  go_loopw [] (fun wr => ∃ pos : Nat, pos ≤ 2 ∧ wr.heap[w.heap.size]? = some (.stringIter ⟨#[47, 0]⟩ pos) ∧ Hid (Below w.heap.size w wr)) (fun wr => 2 - wr.iterPos w.heap.size)
  case atStart =>
    refine ⟨0, by omega, ?_, Lib.hid ((Below.refl _ _).alloc (Nat.le_refl _) _)⟩
    have := World.iter_heap w ⟨#[47, 0]⟩ 0
    simpa using this
  case round =>
    obtain ⟨pos, hp2, hit, HB⟩ := hrel
    by_cases hp : pos < 2
    · have hnx : ∀ ty, (Instr.next (.pointer (some ⟨w.heap.size, 0, none⟩)) true ty).run Tryd.prog wr = _ := fun ty => Lib.run_next_any_at wr w.heap.size ⟨#[47, 0]⟩ pos ty hit hp
      have hd : ∃ r : Nat, Utf8.decode ⟨#[47, 0]⟩ pos = (r, 1) ∧ r < 128 := by
        rcases (show pos = 0 ∨ pos = 1 by omega) with rfl | rfl
        · exact ⟨47, by decide, by decide⟩
        · exact ⟨0, by decide, by decide⟩
      obtain ⟨r, hd, hr⟩ := hd
      rw [hd] at hnx
      have hit2 := Lib.hid (Lib.iterAt_heap wr w.heap.size ⟨#[47, 0]⟩ pos (pos + 1) hit)
      have hbw2 := Lib.hid (Lib.below_iterAt HB.out (k := w.heap.size) (Nat.le_refl _) ⟨#[47, 0]⟩ (pos + 1))
      have Hm1 := Lib.hid (show wr.iterPos w.heap.size = pos by simp only [World.iterPos, hit])
      clear hd hit HB
      simp only at hnx
      generalize hW0 : wr.iterAt w.heap.size ⟨#[47, 0]⟩ (pos + 1) = W0 at *
      clear hW0
      have hrB : ((r : Int) == 65533) = false := by simpa using (show ¬ (r : Int) = 65533 by omega)
      go_wp2_with fail
      exact ⟨⟨_, by omega, hit2.out, hbw2⟩, by rw [Hm1.out]; simp only [World.iterPos, hit2.out]; omega⟩
    · obtain rfl : pos = 2 := by omega
      have hnx : ∀ ty, (Instr.next (.pointer (some ⟨w.heap.size, 0, none⟩)) true ty).run Tryd.prog wr = _ := fun ty => Lib.run_next_end_at wr w.heap.size ⟨#[47, 0]⟩ 2 ty hit hp
      clear hit
      go_wp2_with fail
      go_ret
      exact ⟨rfl, HB.out⟩
end Go.Proofs.YtoeagociikihnaaDoor
