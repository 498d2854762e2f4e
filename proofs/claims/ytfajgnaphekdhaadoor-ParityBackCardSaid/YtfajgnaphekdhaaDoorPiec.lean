/- The walk of pieces. Condition: the slice of strings reads as the texts, each of at most 2^47 bytes. -/
import Derived.Test.YtfajgnaphekdhaaDoorPpcs
namespace Go.Proofs.YtfajgnaphekdhaaDoor
open Go.RowKit
set_option linter.unusedSimpArgs false
set_option linter.unusedVariables false
def PcPost (w : World) (ls : List (List UInt8)) (e : Ending) (W' : World) : Prop := ∃ va vb xa xb, e = .returned (.tuple #[va, vb]) ∧ PcV w W' va vb ls ls xa xb
def PcInv (w : World) (ls : List (List UInt8)) (k : Nat) (va vb : Value) (wr : World) : Prop := ∃ xa xb, PcV w wr va vb (ls.take k) (ls.take k) xa xb
set_option maxHeartbeats 1000000 in
set_option maxRecDepth 100000 in
theorem pieces_calls (A : Option Addr) (c : Nat) (ls : List (List UInt8)) (w : World) (hr : RdS w A ls) (hs : ∀ b ∈ ls, b.length ≤ 140737488351232) (hl : ls.length ≤ 9223372036854775807) :
    Calls Tryd.prog 7 #[.slice A ls.length c] w fun e W' => PcPost w (ls.take 100) e W' := by
  obtain ⟨iS, hiS, hsz⟩ := infoS
  have hiT : Tryd.prog.info? 9 = Tryd.prog.info? 9 := rfl
  have Hr := Lib.hid hr
  have Hs := Lib.hid hs
  have hq0 := Lib.hid (show PcInv w ls 0 (.slice none 0 0) (.slice none 0 0) w from ⟨[], [], by simpa using PcV.nil w⟩)
  clear hr hs
  go_enter Tryd.func7, Tryd.ntmps7
  go_wp2_with fail
  go_loopw [4, 5, 6] (fun va vb i wr => ∃ k : Nat, k ≤ ls.length ∧ k ≤ 100 ∧ i = .int .i64 k ∧ Hid (PcInv w ls k va vb wr)) (fun _ _ i _ => ls.length - (intOf i).toNat)
  case atStart => exact ⟨0, by omega, by omega, rfl, hq0⟩
  case round =>
    rename Value => va
    obtain ⟨k, hk, hk2, rfl, H⟩ := hrel
    by_cases hlt : k < ls.length
    · by_cases h100 : k < 100
      · obtain ⟨xa, xb, HP⟩ := H.out
        obtain ⟨ad, hA, hcell⟩ := (Hr.out.below HP.below) k hlt
        subst hA
        have hbl := Hs.out ls[k] (List.getElem_mem hlt)
        have htk : ls.take (k + 1) = ls.take k ++ [ls[k]] := by rw [List.take_add_one, List.getElem?_eq_getElem hlt]; rfl
        have hln : (ls.take k).length = k := by simp; omega
        have Hrd := Lib.hid Hr.out
        have HI := Lib.hid htk
        clear H htk
        generalize hb : ls[k] = b at *
        generalize ls.take k = lk at *
        have hc1 := fun W => run_bytes_of (P := Tryd.prog) W 9 33 5 b Tryd.underlying9 Tryd.underlying33 Tryd.underlying5
        have hsz1 := convW_size wr b 5
        have HP1 := HP.keep (convW_below wr (Below.refl _ _) (Nat.le_refl _) b 5)
        have hel : El (convW wr b 5) (.slice (some ⟨wr.heap.size, 0, none⟩) b.length (b.length + spare wr b 5)) b := ⟨wr.heap.size, _, _, _, rfl, convW_block wr b 5, convW_rd wr b 5, by omega⟩
        obtain ⟨v', W2, r1, o1, g1⟩ := own_pushV HP1.ownA (x := .slice (some ⟨wr.heap.size, 0, none⟩) b.length (b.length + spare wr b 5)) rfl HP1.below.size (by omega)
        have HP2 := HP1.pushA (v' := v') hel HP.below.size (fun y hy => by have := HP.lt y (by simp [hy]); show wr.heap.size ≠ _; omega) o1 g1
        have R1 := Lib.hid r1
        have hcell2 : W2.cell? (ad.add k) = some (.string ⟨b.toArray⟩) := by
          obtain ⟨ad', h1, h2⟩ := (Hrd.out.below HP2.below) k hlt
          cases h1
          rw [h2, hb]
        have hsz2 := convW_size W2 b 5
        have hlent := Lib.hid (lent_calls (some ⟨W2.heap.size, 0, none⟩) (b.length + spare W2 b 5) b (convW W2 b 5) hbl (convW_rd W2 b 5))
        have HP3 := HP2.keep (convW_below W2 (Below.refl _ _) (Nat.le_refl _) b 5)
        have HP4 := HP3.keep ((Below.refl _ _).alloc (Nat.le_refl _) (.cells (bArr (lentL b 9)) 5))
        have hln2 : LentEl ((convW W2 b 5).alloc (.cells (bArr (lentL b 9)) 5)) (.slice (some ⟨(convW W2 b 5).heap.size, 0, none⟩) b.length (b.length + 9)) b := ⟨_, rfl, heap_alloc_new _ _⟩
        obtain ⟨v2, W5, r2, o2, g2⟩ := own_pushV HP4.ownB (x := .slice (some ⟨(convW W2 b 5).heap.size, 0, none⟩) b.length (b.length + 9)) rfl HP4.below.size (by omega)
        have HP5 := HP4.pushB (v' := v2) hln2 HP3.below.size (fun y hy => by have := HP3.lt y hy; show _ ≠ (convW W2 b 5).heap.size; omega) o2 g2 (by simp)
        have esz : ((convW W2 b 5).alloc (.cells (bArr (lentL b 9)) 5)).heap.size = (convW W2 b 5).heap.size + 1 := by simp
        rw [esz] at r2
        have R2 := Lib.hid r2
        have HF := Lib.hid (show PcInv w ls (k + 1) v' v2 W5 from ⟨_, _, by rw [HI.out]; exact HP5⟩)
        clear HP HP1 HP2 HP3 HP4 HP5 r1 r2 o1 o2 g1 g2 hel hln2 hsz1 hsz2 esz
        go_wp2_with (at_builtin; go_must (refine wpList_append_run rfl (.tmp 17) (.tmp 23) 23 23 rfl rfl rfl (by exact R1.out) ?_; clear R1))
        refine (hlent.out).mono ?_
        rintro e w' ⟨rfl, rfl⟩
        go_wp2_with (at_builtin; go_must (refine wpList_append_run rfl (.tmp 25) (.tmp 32) 23 23 rfl rfl rfl (by exact R2.out) ?_))
        exact ⟨⟨k + 1, by omega, by omega, by go_num, HF⟩, by simp [intOf]; omega⟩
      · obtain rfl : k = 100 := by omega
        obtain ⟨xa, xb, HP⟩ := H.out
        go_wp2_with fail
        go_ret2
        exact ⟨_, _, xa, xb, rfl, HP⟩
    · obtain rfl : k = ls.length := by omega
      obtain ⟨xa, xb, HP⟩ := H.out
      rw [List.take_of_length_le (Nat.le_refl _)] at HP
      go_wp2_with fail
      go_ret2
      rw [List.take_of_length_le hk2]
      exact ⟨_, _, xa, xb, rfl, HP⟩
end Go.Proofs.YtfajgnaphekdhaaDoor
