/- The walk of the law SumPatches: it returns true and leaves what was there. Condition: the library's table lies in its variable; each text has at most 2^47 bytes, as each row asks. -/
import Derived.Test.YtnjgmbjeclmcnaaDoorPatch
namespace Go.Proofs.YtnjgmbjeclmcnaaDoor
open Go.RowKit
set_option linter.unusedSimpArgs false
set_option linter.unusedVariables false
set_option maxHeartbeats 1000000 in
theorem sumPatches_bad (bs ys : List UInt8) (a : Int) (w : World) (hb : bs.length ≤ 140737488351232) (hy : ys.length ≤ 140737488351232) (h1 : -9223372036854775808 ≤ a) (h2 : a ≤ 9223372036854775807)
    (hbad : a < 0 ∨ bs.length < ys.length ∨ (bs.length : Int) - ys.length < a) :
    Calls Tryd.prog 4 #[.string ⟨bs.toArray⟩, .int .i64 a, .string ⟨ys.toArray⟩] w fun e w' => e = .returned (.bool true) ∧ Below w.heap.size w w' := by
  have hc1 := fun W => run_bytes_of (P := Tryd.prog) W 9 25 5 bs Tryd.underlying9 Tryd.underlying25 Tryd.underlying5
  have hc2 := fun W => run_bytes_of (P := Tryd.prog) W 9 25 5 ys Tryd.underlying9 Tryd.underlying25 Tryd.underlying5
  have hlen : (⟨ys.toArray⟩ : ByteArray).size = ys.length := rfl
  have hp := fun (s : BitVec 32) A B c d W => patch_bad s (bs.length : Int) a A B c d ys.length ys.length W (by unfold badPatch; omega) (by omega) (by omega) h1 h2 (by omega)
  have Hp := Lib.hid hp
  clear hp
  have hcase : a < 0 ∨ (¬ a < 0 ∧ bs.length < ys.length) ∨ (¬ a < 0 ∧ ¬ bs.length < ys.length ∧ (bs.length : Int) - ys.length < a) := by omega
  clear hbad
  rcases hcase with h3 | ⟨h3, h4⟩ | ⟨h3, h4, h5⟩
  all_goals
    go_enter Tryd.func4, Tryd.ntmps4
    go_wp2_with fail
    refine (refSum_crc _ _ bs _ (by omega) (convW_rd w bs 5)).mono ?_
    rintro e w' ⟨rfl, rfl⟩
    have hB1 : Below w.heap.size w (convW w bs 5) := convW_below w (Below.refl _ _) (Nat.le_refl _) bs 5
    generalize convW w bs 5 = W1 at *
    have HB1 := Lib.hid hB1
    clear hB1
    generalize crc bs = cb at *
    go_wp2_with fail
    refine (Hp.out _ _ _ _ _ _).mono ?_
    rintro e w' ⟨rfl, rfl⟩
    have HB2 := Lib.hid (convW_below W1 HB1.out HB1.out.size ys 5)
    have HB3 := Lib.hid (convW_below _ HB2.out HB2.out.size ys 5)
    go_wp2_with fail
    go_ret
    exact ⟨rfl, HB3.out⟩
theorem lent_len (A : Option Addr) (c n : Nat) (xs : List UInt8) (w : World) (h : xs.length = n) (hn : n ≤ 140737488351232) (hr : Rd w A xs) :
    Calls Tryd.prog 8 #[.slice A n c] w fun e w' => ∃ g, e = .returned (.slice (some ⟨g, 0, none⟩) n (n + 9)) ∧ w'.heap[g]? = some (.cells (bArr (lentL xs 9)) 5 (0, 0)) ∧ w.heap.size ≤ g ∧ g < w'.heap.size ∧ Below w.heap.size w w' := by
  subst h; exact lent_calls2 A c xs w hn hr
theorem back_len (g n : Nat) (xs : List UInt8) (B : Option Addr) (d : Nat) (w : World) (h : xs.length = n) (hg : w.heap[g]? = some (.cells (bArr (lentL xs 9)) 5 (0, 0))) (hn : n ≤ 140737488351232) (hb : Rd w B xs) :
    Calls Tryd.prog 9 #[.slice (some ⟨g, 0, none⟩) n (n + 9), .slice B n d] w fun e w' => e = .returned (.bool true) ∧ w' = w.setRow g (bArr (List.replicate (n + 9) 78)) := by
  subst h
  have := back_calls g xs B d xs w hg hn rfl hb
  simpa using this
theorem patch_len (s R : BitVec 32) (N a n : Nat) (A B : Option Addr) (c d : Nat) (xs ys : List UInt8) (w : World) (hx : xs.length = n) (hy : ys.length = n) (hR : s ^^^ stpN (8 * (N - n - a)) (fd 0#32 (xorL xs ys)) = R) (ha : a + n ≤ N) (hN : N ≤ 281474976710656) (hn : n ≤ 140737488355328)
    (hr1 : Rd w A xs) (hr2 : Rd w B ys) (hT : Tab32 w) (hg0 : 0 < w.heap.size) :
    Calls Tryd.prog 7 #[.int .u32 (s.toNat : Int), .int .i64 (N : Int), .int .i64 (a : Int), .slice A n c, .slice B n d] w fun e w' =>
      e = .returned (.int .u32 (R.toNat : Int)) ∧ Below w.heap.size w w' := by
  subst hx; subst hR
  exact patch_good s N a A B c d xs ys w hy ha hN hn hr1 hr2 hT hg0
theorem back_keep {g : Nat} {C : Array Value} {w w' : World} {B : Nat} {w0 : World} (h : Below B w0 w) (hB : B ≤ g) (hw : w' = w.setRow g C) : Below B w0 w' := by rw [hw]; exact below_setRow h hB _
set_option maxHeartbeats 4000000 in
theorem sumPatches_good (bs ys : List UInt8) (a : Nat) (w : World) (hb : bs.length ≤ 140737488351232) (ha : a + ys.length ≤ bs.length) (hT : Tab32 w) (hg0 : 0 < w.heap.size) :
    Calls Tryd.prog 4 #[.string ⟨bs.toArray⟩, .int .i64 (a : Int), .string ⟨ys.toArray⟩] w fun e w' => e = .returned (.bool true) ∧ Below w.heap.size w w' := by
  obtain ⟨i5, hi, hz0, hz1, hz2⟩ := info_parts info5
  have hc1 := fun W => run_bytes_of (P := Tryd.prog) W 9 25 5 bs Tryd.underlying9 Tryd.underlying25 Tryd.underlying5
  have hc2 := fun W => run_bytes_of (P := Tryd.prog) W 9 25 5 ys Tryd.underlying9 Tryd.underlying25 Tryd.underlying5
  have hyl : (ys ++ [120]).length = ys.length + 1 := by simp
  generalize hyx : ys ++ [(120 : UInt8)] = yx at *
  have hc3 := fun W => run_bytes_of (P := Tryd.prog) W 9 25 5 yx Tryd.underlying9 Tryd.underlying25 Tryd.underlying5
  rw [hyl] at hc3
  have hadd : ∀ W, (Op.stringOp .add ⟨ys.toArray⟩ ⟨#[120]⟩).run Tryd.prog W = .ok (.string ⟨yx.toArray⟩) W := fun W => by
    rw [run_string_add_sum W _ _ (by show ys.length + 1 ≤ _; omega), ← hyx, ← ByteArray.mk_append_mk]
  have hes := fun W => run_emptySlice (P := Tryd.prog) W 25 5 i5 Tryd.underlying25 hi
  have hlen : (⟨ys.toArray⟩ : ByteArray).size = ys.length := rfl
  have hxl : ((bs.drop a).take ys.length).length = ys.length := by simp; omega
  have hcp := crc_patch bs a ((bs.drop a).take ys.length) ys (by rw [hxl]) hxl.symm (by rw [hxl]; exact ha)
  rw [hxl] at hcp
  have hpre : (bs.drop a).take ys.length <+: bs.drop a := List.take_prefix _ _
  generalize (bs.drop a).take ys.length = xs at *
  have Hxl := Lib.hid hxl
  have Hcp := Lib.hid hcp
  have Hpre := Lib.hid hpre
  have Hyl := Lib.hid hyl
  have Hc := Lib.hid (⟨hT, hg0⟩ : Tab32 w ∧ 0 < w.heap.size)
  clear hxl hcp hpre hyl hyx hT hg0
  have d1 : decide ((a : Int) < 0) = false := by simp
  have d2 : decide ((bs.length : Int) - (ys.length : Int) < (a : Int)) = false := by simp; omega
  have d3 : decide (bs.length < ys.length) = false := by simp; omega
  go_enter Tryd.func4, Tryd.ntmps4
  go_wp2_with fail
  refine (refSum_crc _ _ bs _ (by omega) (convW_rd w bs 5)).mono ?_
  rintro e w' ⟨rfl, rfl⟩
  have HB1 := Lib.hid (convW_below w (Below.refl _ _) (Nat.le_refl _) bs 5)
  have Hg1 := Lib.hid (convW_block w bs 5)
  have Hs1 := Lib.hid (convW_size w bs 5)
  generalize spare w bs 5 = m at *
  generalize convW w bs 5 = W1 at *
  generalize hcb : crc bs = cb at *
  clear hcb
  have hsub := fun W hi_ hh => run_sub (P := Tryd.prog) W 25 5 i5 Tryd.underlying25 hi hz1 w.heap.size bs.length (bs.length + m) a ys.length .i64 .i64 hi_ hh (by omega)
  have hsub2 := fun W => hsub W _ rfl
  have Hrs := Lib.hid (fun (W : World) (hW : W.heap[w.heap.size]? = W1.heap[w.heap.size]?) => Rd.sub (w := W) (g := w.heap.size) (bs := xs) (hW.trans Hg1.out) a (bs.length + m) (by simp) (by
    obtain ⟨t, ht⟩ := Hpre.out
    rw [List.drop_append_of_le_length (by omega), ← ht, List.append_assoc]
    exact ⟨_, rfl⟩) (by have := Hxl.out; omega))
  clear hsub
  go_wp2_with fail
  -- was := lent(b[at : at+len(now)])
  refine (lent_len _ _ ys.length xs W1 Hxl.out (by omega) (Hrs.out W1 rfl)).mono ?_
  rintro e W2 ⟨gw, rfl, hgw, hlo2, hhi2, hb2⟩
  have Hgw := Lib.hid hgw
  have Hlo2 := Lib.hid hlo2
  have Hhi2 := Lib.hid hhi2
  have HB2 := Lib.hid hb2
  clear hgw hlo2 hhi2 hb2
  go_wp2_with fail
  -- to := lent([]byte(now))
  refine (lent_len _ _ ys.length ys _ rfl (by omega) (convW_rd W2 ys 5)).mono ?_
  rintro e W4 ⟨gt, rfl, hgt, hlo4, hhi4, hb4⟩
  have hs3 := convW_size W2 ys 5
  have HB4 := Lib.hid ((convW_below W2 HB2.out HB2.out.size ys 5).trans (hb4.mono (by have := HB2.out.size; omega)))
  have Hgw4 := Lib.hid (((hb4.block gw (by have := Hhi2.out; omega)).trans (convW_old W2 ys 5 gw Hhi2.out)).trans Hgw.out)
  have Hgt := Lib.hid hgt
  have Hlo4 := Lib.hid (show W2.heap.size < gt by omega)
  have Hhi4 := Lib.hid hhi4
  clear hgt hlo4 hhi4 hb4 hs3
  go_wp2_with fail
  -- got := Patch(..)
  have hT4 : Below w.heap.size w W4 := HB1.out.trans (HB4.out.mono (by have := Hs1.out; omega))
  refine (patch_len cb (crc (spl bs a ys)) bs.length a ys.length _ _ _ _ xs ys W4 Hxl.out rfl Hcp.out ha (by omega) (by omega) (Rd.block Hgw4.out ⟨List.replicate 9 77, by simp [lentL]⟩) (Rd.block Hgt.out ⟨List.replicate 9 77, by simp [lentL]⟩) (Hc.out.1.below Hc.out.2 hT4) (Nat.lt_of_lt_of_le Hc.out.2 hT4.size)).mono ?_
  rintro e W5 ⟨rfl, hb5⟩
  have Hgw5 := Lib.hid ((hb5.block gw (by have := Hlo4.out; have := Hhi4.out; have := Hhi2.out; omega)).trans Hgw4.out)
  have Hgt5 := Lib.hid ((hb5.block gt Hhi4.out).trans Hgt.out)
  have HB5 := Lib.hid (HB4.out.trans (hb5.mono HB4.out.size))
  have Hhi5 := Lib.hid (Nat.lt_of_lt_of_le Hhi4.out hb5.size)
  clear hT4 hb5
  generalize hcc : crc (spl bs a ys) = cc at *
  have Hcc := Lib.hid hcc
  clear hcc
  go_wp2_with fail
  -- ok := back(was, b[at:..])
  refine (back_len gw ys.length xs _ _ W5 Hxl.out Hgw5.out (by omega) (Hrs.out W5 (HB5.out.block _ (by have := Hs1.out; omega)))).mono ?_
  rintro e W6 ⟨rfl, hw6⟩
  have hs6 : W6.heap.size = W5.heap.size := by rw [hw6]; simp
  have HB6 := Lib.hid (back_keep HB5.out Hlo2.out hw6)
  have Hgt6 := Lib.hid (show W6.heap[gt]? = some (.cells (bArr (lentL ys 9)) 5 (0, 0)) from (by rw [hw6]; exact (setRow_other W5 gw gt _ (by have := Hhi2.out; have := Hlo4.out; omega)).trans Hgt5.out))
  have Hhi6 := Lib.hid (show gt < W6.heap.size by rw [hs6]; exact Hhi5.out)
  clear hw6 hs6
  go_wp2_with fail
  -- kept := back(to, []byte(now))
  refine (back_len gt ys.length ys _ _ _ rfl (by rw [convW_old W6 ys 5 gt Hhi6.out]; exact Hgt6.out) (by omega) (convW_rd W6 ys 5)).mono ?_
  rintro e W8 ⟨rfl, hw8⟩
  have HB8 := Lib.hid (back_keep (convW_below W6 HB6.out HB6.out.size ys 5) (by have := Hlo4.out; have := HB2.out.size; omega) hw8)
  clear hw8
  -- c := append([]byte{}, b...); copy(c[at:], now)
  have hb8 := HB8.out.block w.heap.size (by have := Hs1.out; omega)
  have hrd8 : Rd (W8.alloc (.cells #[] 5)) (some ⟨w.heap.size, 0, none⟩) bs := (Rd.block (hb8.trans Hg1.out) ⟨_, rfl⟩).alloc _
  obtain ⟨gc, Z, W9, hap, hgc, hB9, hle⟩ := run_append_lit (P := Tryd.prog) (W8.alloc (.cells #[] 5)) 25 25 5 i5 Tryd.underlying25 hi hz0 hz1 hz2 W8.heap.size (heap_alloc_new W8 _) (some ⟨w.heap.size, 0, none⟩) (bs.length + m) bs hrd8 (by omega)
  have HB9 := Lib.hid (((HB8.out).alloc HB8.out.size (.cells #[] 5)).trans (hB9.mono (by have := HB8.out.size; simp; omega)))
  have hfr := fun W => run_from (P := Tryd.prog) W 25 5 i5 Tryd.underlying25 hi hz1 gc bs.length (bs.length + Z) a .i64 (by omega)
  have hcpy := fun ty => run_copy_string (P := Tryd.prog) W9 25 9 ty 5 i5 Tryd.underlying25 hi hz1 gc a (bs.length + Z) (bs.length - a) (bs.length + Z - a) (bs ++ List.replicate Z 0) ys hgc (by omega) (by omega) (by simp)
  have HB10 := Lib.hid (show Below W1.heap.size W1 (W9.setRow gc (bArr (spl (bs ++ List.replicate Z 0) a ys))) from below_setRow HB9.out (by have := HB8.out.size; omega) _)
  have hsp : spl (bs ++ List.replicate Z 0) a ys = spl bs a ys ++ List.replicate Z 0 := by
    simp only [spl]
    rw [List.take_append_of_le_length (by omega), List.drop_append_of_le_length (by omega)]
    simp
  have hgc10 : (W9.setRow gc (bArr (spl (bs ++ List.replicate Z 0) a ys))).heap[gc]? = some (.cells (bArr (spl bs a ys ++ List.replicate Z 0)) 5 (0, 0)) := by
    rw [← hsp]; exact setRow_heap W9 gc _ _ _ _ hgc
  have hspl : (spl bs a ys).length = bs.length := spl_length bs a ys ha
  have hrd10 := Rd.block hgc10 ⟨List.replicate Z 0, rfl⟩
  generalize W9.setRow gc (bArr (spl (bs ++ List.replicate Z 0) a ys)) = W10 at *
  have Hap := Lib.hid hap
  have Hcpy := Lib.hid hcpy
  have Hrd10 := Lib.hid hrd10
  have Hspl := Lib.hid hspl
  have HcB := Lib.hid (HB1.out.trans (HB10.out.mono (by have := Hs1.out; omega)))
  clear hb8 hrd8 hap hcpy hgc10 hrd10 hsp hspl hgc hB9 hle
  go_wp2_with (first | (at_builtin; go_must (refine wpList_append_run rfl (.tmp 80) (.tmp 81) 25 25 rfl rfl rfl Hap.out ?_)) | (refine wpList_copy_run rfl (.tmp 85) (.tmp 86) 25 9 rfl rfl rfl (Hcpy.out _) ?_))
  refine (patch_bad cb (bs.length : Int) (a : Int) _ _ _ _ (ys.length + 1) ys.length _ (by unfold badPatch; omega) (by omega) (by omega) (by omega) (by omega) (by omega)).mono ?_
  rintro e w' ⟨rfl, rfl⟩
  have HB12 := Lib.hid (convW_below _ (convW_below W10 (Below.refl W10.heap.size W10) (Nat.le_refl _) yx 5) (by rw [convW_size]; omega) ys 5)
  have hrs := refSum_crc (some ⟨gc, 0, none⟩) (bs.length + Z) (spl bs a ys) (convW (convW W10 yx 5) ys 5) (by rw [Hspl.out]; omega) (Hrd10.out.below HB12.out)
  rw [Hspl.out, Hcc.out] at hrs
  have HBe := Lib.hid (HcB.out.trans (HB12.out.mono HcB.out.size))
  have Hrs2 := Lib.hid hrs
  clear hrs
  generalize convW (convW W10 yx 5) ys 5 = W12 at *
  go_wp2_with fail
  refine (Hrs2.out).mono ?_
  rintro e w' ⟨rfl, rfl⟩
  go_wp2_with fail
  go_ret
  exact ⟨rfl, HBe.out⟩
theorem sumPatches_walk (a0 : ByteArray) (a1 : Int) (a2 : ByteArray) (w : World) (w0 : a0.size ≤ 140737488351232) (w1 : (Lit.int .i64 a1).wf = true) (w2 : a2.size ≤ 140737488351232)
    (hL : Lib.TabIs Tryd.prog w "math/bits.deBruijn32tab" .u8 [0, 1, 28, 2, 29, 14, 24, 3, 30, 22, 20, 15, 25, 17, 4, 8, 31, 27, 13, 23, 21, 19, 16, 7, 26, 12, 18, 6, 11, 5, 10, 9]) :
    Calls Tryd.prog 4 #[.string a0, .int .i64 a1, .string a2] w fun e w' => e = .returned (.bool true) ∧ Below w.heap.size w w' := by
  obtain ⟨⟨bs⟩⟩ := a0
  obtain ⟨⟨ys⟩⟩ := a2
  have h1 := bounds_i64 w1
  have hT := tab32_of hL
  have w0' : bs.length ≤ 140737488351232 := w0
  have w2' : ys.length ≤ 140737488351232 := w2
  by_cases h : a1 < 0 ∨ bs.length < ys.length ∨ (bs.length : Int) - ys.length < a1
  · exact sumPatches_bad bs ys a1 w w0' w2' h1.1 h1.2 h
  · obtain ⟨a, rfl⟩ := Int.eq_ofNat_of_zero_le (show 0 ≤ a1 by omega)
    exact sumPatches_good bs ys a w w0' (by omega) hT (tab32_size hT)
end Go.Proofs.YtnjgmbjeclmcnaaDoor
