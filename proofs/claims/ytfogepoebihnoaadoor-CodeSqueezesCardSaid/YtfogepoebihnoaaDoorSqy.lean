/- The walk of the law CodeSqueezes: it returns true and leaves what was there. Condition: the library's variable errors.errorType holds its handle; the text has at most 2^47 bytes, as the row asks. -/
import Derived.Test.YtfogepoebihnoaaDoorSwells
import Derived.Test.YtfogepoebihnoaaDoorSqz
import Derived.Test.YtfogepoebihnoaaDoorRshort
import Derived.Test.YtfogepoebihnoaaDoorPmem
namespace Go.Proofs.YtfogepoebihnoaaDoor
open Go.RowKit
set_option linter.unusedSimpArgs false
set_option linter.unusedVariables false
theorem codeSqueeze_calls (g off c : Nat) (b : List UInt8) (w : World) (hc : b.length ≤ c) (hr : Rd w (some ⟨g, off, none⟩) b) (hb : b.length ≤ 4096) :
    Calls Tryd.prog 17 #[.slice (some ⟨g, off, none⟩) b.length c] w fun e w' => ∃ v out, e = .returned (.tuple #[v, .int .i64 0]) ∧ OwnB w' w.heap.size 5 v out ∧ Below w.heap.size w w' ∧ sw (b.length : Int) (out.length + 1) out [] = (0, b) ∧
      out.length ≤ b.length + (b.length + 127) / 128 ∧ ∀ p, Per b p → out.length ≤ p + 8 + 3 * (b.length / 130) := by
  have hq := Lib.hid (squeeze_calls g off c b w hc hr hb)
  generalize hN : b.length = N at hq ⊢
  clear hr
  go_enter Tryd.func17, Tryd.ntmps17
  go_wp2_with fail
  refine (hq.out).mono ?_
  rintro e W1 ⟨v, out, rfl, ho⟩
  have Ho := Lib.hid ho
  clear ho hq
  go_wp2_with fail
  refine (number_nil W1).mono ?_
  rintro e W2 ⟨rfl, hb2⟩
  have Hb2 := Lib.hid hb2
  clear hb2
  go_wp2_with fail
  go_ret2
  obtain ⟨h1, h2, h3⟩ := Ho.out
  rw [hN] at h3
  exact ⟨v, out, rfl, h1.below Hb2.out, h2.trans (Hb2.out.mono h2.size), h3⟩
theorem codeSqueeze_long (A : Option Addr) (n c : Nat) (w : World) (h : 4096 < n) (hn : n ≤ 140737488355328) (hg : ErrH w) :
    Calls Tryd.prog 17 #[.slice A n c] w fun e w' => e = .returned (.tuple #[.slice none 0 0, .int .i64 6]) ∧ Below w.heap.size w w' := by
  have hq := Lib.hid (squeeze_long A n c w h hn)
  have hq2 := number_calls 6 w hg
  rw [show errV 6 = .iface 24 (.int .i64 6) from rfl] at hq2
  have hq2 := Lib.hid hq2
  go_enter Tryd.func17, Tryd.ntmps17
  go_wp2_with fail
  refine (hq.out).mono ?_
  rintro e W1 ⟨rfl, rfl⟩
  go_wp2_with fail
  refine (hq2.out).mono ?_
  rintro e W2 ⟨rfl, hb2⟩
  have Hb2 := Lib.hid hb2
  clear hb2
  go_wp2_with fail
  go_ret2
  exact ⟨rfl, Hb2.out⟩
theorem ba_refl2 (F : ByteArray) : (F == F) = true := by
  show (F.data == F.data) = true
  simp
set_option maxHeartbeats 4000000 in
set_option maxRecDepth 100000 in
theorem codeSqueezes_calls (ps : List UInt8) (m : Int) (w : World) (hg : ErrH w) (hx : ps.length ≤ 140737488351232) (h1 : -9223372036854775808 ≤ m) (h2 : m ≤ 9223372036854775807) :
    Calls Tryd.prog 5 #[.string ⟨ps.toArray⟩, .int .i64 m] w fun e w' => e = .returned (.bool true) ∧ Below w.heap.size w w' := by
  have hc1 := fun W xs => run_bytes_of (P := Tryd.prog) W 9 22 5 xs Tryd.underlying9 Tryd.underlying22 Tryd.underlying5
  have hpk := Lib.hid (pick_calls m 200 w h1 h2 (by omega) (by omega))
  obtain ⟨n, hn⟩ : ∃ n : Nat, m % 200 = (n : Int) := ⟨(m % 200).toNat, by omega⟩
  have hn2 : n ≤ 200 := by omega
  rw [hn] at hpk
  clear hn h1 h2
  obtain ⟨pl, hpl⟩ : ∃ pl, ps.length = pl := ⟨_, rfl⟩
  have Hpl := Lib.hid hpl
  rw [hpl] at hx
  clear hpl
  go_enter Tryd.func5, Tryd.ntmps5
  go_wp2_with fail
  refine (hpk.out).mono ?_
  rintro e w' ⟨rfl, rfl⟩
  clear hpk
  go_wp2_with fail
  go_loop [6, 7] (fun t i => ∃ (xs : List UInt8) (k l : Nat), t = .string ⟨xs.toArray⟩ ∧ i = .int .i64 (k : Int) ∧ k ≤ n ∧ Hid (xs.length = l) ∧ pl ≤ l ∧ (l ≤ 16384 ∨ l = pl)) (fun _ i => n - (intOf i).toNat)
  case atStart => exact ⟨ps, 0, pl, rfl, rfl, by omega, Hpl, by omega, by omega⟩
  case round =>
    obtain ⟨xs, k, l, rfl, rfl, hk, Hl, hl1, hl2⟩ := hrel
    by_cases hgo : k < n ∧ l ≤ 8192
    · obtain ⟨hkn, hl8⟩ := hgo
      have hkni : (k : Int) < (n : Int) := by omega
      have hs8 : (xs.length : Int) ≤ 8192 := by rw [Hl.out]; omega
      have hps : ps.length ≤ 8192 := by rw [Hpl.out]; omega
      have hsum : ¬ 9223372036854775807 < xs.length + ps.length := by omega
      have HC := Lib.hid (show (⟨xs.toArray⟩ ++ ⟨ps.toArray⟩ : ByteArray) = ⟨(xs ++ ps).toArray⟩ from by
        apply ByteArray.ext
        rw [ByteArray.data_append]
        simp)
      go_wp2_with fail
      exact ⟨⟨xs ++ ps, k + 1, l + pl, by rw [HC.out], by go_num, by omega, Lib.hid (by rw [List.length_append, Hl.out, Hpl.out]), by omega, by omega⟩, by simp [intOf]; omega⟩
    · have hlb : xs.length ≤ 140737488351232 := by rw [Hl.out]; omega
      have hor : ¬ k < n ∨ ¬ (xs.length : Int) ≤ 8192 := by rw [Hl.out]; omega
      clear hgo hl1 hl2 Hl Hpl hx hk
      by_cases h4 : xs.length ≤ 4096
      · have hkni : ¬ (k : Int) < (n : Int) := by omega
        clear hor
        go_wp2_with fail
        refine (lent_calls2 _ _ xs _ hlb (convW_rd w xs 5)).mono ?_
        rintro e W2 ⟨g, rfl, hgg, hlo, hhi, hb⟩
        have hs1 := convW_size w xs 5
        have HB2 := Lib.hid ((convW_below w (Below.refl _ _) (Nat.le_refl _) xs 5).trans (hb.mono (by omega)))
        have Hg := Lib.hid hgg
        have Hlo := Lib.hid (show w.heap.size < g by omega)
        have Hhi := Lib.hid hhi
        have HE := Lib.hid hg
        clear hgg hlo hhi hb hs1
        have h4i : (xs.length : Int) ≤ 4096 := by omega
        have hq := codeSqueeze_calls g 0 (xs.length + 9) xs W2 (by omega) (Rd.block Hg.out ⟨List.replicate 9 77, by simp [lentL]⟩) h4
        have Hq := Lib.hid hq
        clear hq
        go_wp2_with fail
        refine (Hq.out).mono ?_
        rintro e W3 ⟨v, out, rfl, ho, hb3, hsw, hl1, hl2⟩
        have HO := Lib.hid ho
        have HB3 := Lib.hid (HB2.out.trans (hb3.mono HB2.out.size))
        have Hg3 := Lib.hid ((hb3.block g Hhi.out).trans Hg.out)
        have Hhi3 := Lib.hid (Nat.lt_of_lt_of_le Hhi.out hb3.size)
        have Hsw := Lib.hid hsw
        have Hln := Lib.hid (And.intro hl1 hl2)
        have hol : out.length ≤ 5000 := by omega
        clear ho hb3 hsw hl1 hl2 Hq
        go_wp2_with fail
        refine (back_calls g xs _ _ xs _ (by rw [convW_old W3 xs 5 g Hhi3.out]; exact Hg3.out) hlb rfl (convW_rd W3 xs 5)).mono ?_
        rintro e W4 ⟨rfl, hw4⟩
        have HB4 := Lib.hid (back_keep (convW_below W3 HB3.out HB3.out.size xs 5) (by have := Hlo.out; omega) hw4)
        have HO4 := Lib.hid (show OwnB W4 W2.heap.size 5 v out by rw [hw4]; exact (HO.out.below (convW_below W3 (Below.refl _ _) (Nat.le_refl _) xs 5)).setRow Hhi.out _)
        clear hw4
        have hbx : (xs == xs) = true := by simp
        obtain ⟨A1, c1, rfl, hr1, hc1', hr1'⟩ := HO4.out.form
        have Hr1 := Lib.hid hr1
        obtain ⟨ol, hole⟩ : ∃ ol, out.length = ol := ⟨_, rfl⟩
        have Hol := Lib.hid hole
        rw [hole] at hol hc1' ⊢
        clear hr1 hr1' hole
        have hsh := fun W h => short_calls (some ⟨W4.heap.size, 0, none⟩) (xs.length + spare W4 xs 5) xs W h h4
        have Hsh := Lib.hid (hsh _ (convW_rd W4 xs 5))
        clear hsh
        go_wp2_with fail
        refine (Hsh.out).mono ?_
        rintro e W5 ⟨sv, rfl, hsv, hsm⟩
        have hle : ol ≤ sv := by
          have := Hln.out
          rw [Hol.out] at this
          rcases hsv with rfl | ⟨p, hp, rfl⟩
          · exact this.1
          · exact this.2 p hp
        have hlei : ¬ (sv : Int) < (ol : Int) := by omega
        have HB5 := Lib.hid ((convW_below W4 HB4.out HB4.out.size xs 5).trans (hsm.below _))
        have HR5 := Lib.hid (show Rd W5 A1 out from hsm.rd (Hr1.out.below (convW_below W4 (Below.refl _ _) (Nat.le_refl _) xs 5)))
        have hrs := refSwell_calls A1 c1 out (xs.length : Int) W5 (by rw [Hol.out]; omega) HR5.out (by omega)
        rw [show swell out (xs.length : Int) = (0, xs) from by unfold swell; rw [if_neg (by omega)]; exact Hsw.out, Hol.out] at hrs
        have Hrs := Lib.hid hrs
        clear hrs hsv hsm Hsh
        go_wp2_with fail
        refine (Hrs.out).mono ?_
        rintro e W6 ⟨v2, rfl, ho6, hb6⟩
        obtain ⟨A2, c2, rfl, hr2, _⟩ := ho6.form
        have hst := run_string_of (P := Tryd.prog) W6 22 9 5 Tryd.underlying22 Tryd.underlying5 Tryd.underlying9 A2 c2 xs hr2
        have HB6 := Lib.hid (HB5.out.trans (hb6.mono HB5.out.size))
        have hself : ((⟨xs.toArray⟩ : ByteArray) == ⟨xs.toArray⟩) = true := ba_refl2 _
        clear hr2 ho6 hb6 Hrs
        go_wp2_with fail
        go_ret
        exact ⟨rfl, HB6.out⟩
      · have h4i : (4096 : Int) < (xs.length : Int) := by omega
        by_cases hkn : k < n
        all_goals
          first
          | (have hkni : (k : Int) < (n : Int) := by omega
             have hs8 : ¬ (xs.length : Int) ≤ 8192 := by omega)
          | (have hkni : ¬ (k : Int) < (n : Int) := by omega)
          clear hor hkn
          go_wp2_with fail
          refine (lent_calls2 _ _ xs _ hlb (convW_rd w xs 5)).mono ?_
          rintro e W2 ⟨g, rfl, hgg, hlo, hhi, hb⟩
          have hs1 := convW_size w xs 5
          have HB2 := Lib.hid ((convW_below w (Below.refl _ _) (Nat.le_refl _) xs 5).trans (hb.mono (by omega)))
          have Hg := Lib.hid hgg
          have Hlo := Lib.hid (show w.heap.size < g by omega)
          have Hhi := Lib.hid hhi
          have HE := Lib.hid hg
          clear hgg hlo hhi hb hs1
          have Hq := Lib.hid (codeSqueeze_long (some ⟨g, 0, none⟩) xs.length (xs.length + 9) W2 (by omega) (by omega) (HE.out.below HE.out.lt HB2.out))
          go_wp2_with fail
          refine (Hq.out).mono ?_
          rintro e W3 ⟨rfl, hb3⟩
          have HB3 := Lib.hid (HB2.out.trans (hb3.mono HB2.out.size))
          have Hg3 := Lib.hid ((hb3.block g Hhi.out).trans Hg.out)
          have Hhi3 := Lib.hid (Nat.lt_of_lt_of_le Hhi.out hb3.size)
          clear hb3 Hq
          go_wp2_with fail
          refine (back_calls g xs _ _ xs _ (by rw [convW_old W3 xs 5 g Hhi3.out]; exact Hg3.out) hlb rfl (convW_rd W3 xs 5)).mono ?_
          rintro e W4 ⟨rfl, hw4⟩
          have HB4 := Lib.hid (back_keep (convW_below W3 HB3.out HB3.out.size xs 5) (by have := Hlo.out; omega) hw4)
          clear hw4
          have hbx : (xs == xs) = true := by simp
          go_wp2_with fail
          go_ret
          exact ⟨rfl, HB4.out⟩
theorem codeSqueezes_walk (a0 : ByteArray) (a1 : Int) (w : World) (w0 : a0.size ≤ 140737488351232) (w1 : (Lit.int .i64 a1).wf = true) (hL : w.cell? ⟨0, 0, none⟩ = some (.iface 95 (.agg #[.pointer (some ⟨2, 43, none⟩)]))) :
    Calls Tryd.prog 5 #[.string a0, .int .i64 a1] w fun e w' => e = .returned (.bool true) ∧ Below w.heap.size w w' := by
  obtain ⟨⟨xs⟩⟩ := a0
  have h2 : -9223372036854775808 ≤ a1 ∧ a1 ≤ 9223372036854775807 := by
    have := w1
    simp [Lit.wf, IntKind.min, IntKind.max, IntKind.signed, IntKind.bits] at this
    exact this
  exact codeSqueezes_calls xs a1 w hL w0 h2.1 h2.2
end Go.Proofs.YtfogepoebihnoaaDoor
