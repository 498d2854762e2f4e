/- The walk of the law CodeSwells: it returns true and leaves what was there. Condition: the library's variable errors.errorType holds its handle; the text has at most 2^47 bytes, as the row asks. -/
import Derived.Test.YtfogepoebihnoaaDoorRefSwell
import Derived.OpenShut
namespace Go.Proofs.YtfogepoebihnoaaDoor
open Go.RowKit
set_option linter.unusedSimpArgs false
set_option linter.unusedVariables false
theorem back_keep {B g : Nat} {w w' w'' : World} {L : List UInt8} (hb : Below B w w') (hg : B ≤ g) (hw : w'' = w'.setRow g (bArr L)) : Below B w w'' := by
  rw [hw]; exact below_setRow hb hg _
theorem OwnB.setRow {w : World} {B : Nat} {e : TypeId} {v : Value} {bs : List UInt8} (h : OwnB w B e v bs) {g : Nat} (hg : g < B) (C : Array Value) : OwnB (w.setRow g C) B e v bs := by
  have hh := fun k hk => h.block_le k hk
  refine World.ownsRow.kept (row := some g) h ⟨rfl, rfl, rfl, by simp, fun k hk hne => ?_⟩ ?_
  · exact setRow_other w g k C (fun e => hne (by rw [e]))
  · cases hv : v.ownBlock with
    | none => exact .inl rfl
    | some k =>
      refine .inr fun e => ?_
      cases e
      have := hh _ hv
      omega
theorem codeSwell_calls (A : Option Addr) (cap : Nat) (bs : List UInt8) (m : Int) (w : World) (hn : bs.length ≤ 140737488355328) (hc : bs.length ≤ cap) (hr : Rd w A bs) (h1 : m ≤ 1048576) (hg : ErrH w) :
    Calls Tryd.prog 9 #[.slice A bs.length cap, .int .i64 m] w fun e w' => ∃ v, e = .returned (.tuple #[v, .int .i64 (swell bs m).1]) ∧ OwnB w' w.heap.size 5 v (swell bs m).2 ∧ Below w.heap.size w w' := by
  have hq := Lib.hid (swell_calls A cap bs m w hn hc hr h1)
  generalize swell bs m = T at *
  clear hr
  go_enter Tryd.func9, Tryd.ntmps9
  go_wp2_with fail
  refine (hq.out).mono ?_
  rintro e W1 ⟨v, rfl, ho, hb⟩
  have Ho := Lib.hid ho
  have Hb := Lib.hid hb
  have Hg := Lib.hid (hg.below hg.lt hb)
  clear ho hb hq
  go_wp2_with fail
  refine (number_calls T.1 W1 Hg.out).mono ?_
  rintro e W2 ⟨rfl, hb2⟩
  have Hb2 := Lib.hid hb2
  clear hb2
  go_wp2_with fail
  go_ret2
  exact ⟨_, rfl, Ho.out.below Hb2.out, Hb.out.trans (Hb2.out.mono Hb.out.size)⟩
set_option maxHeartbeats 1000000 in
theorem codeSwells_calls (xs : List UInt8) (m m1 : Int) (w : World) (hg : ErrH w) (hx : xs.length ≤ 140737488351232) (hm : m1 = if 1048576 < m then 1048576 else m) :
    Calls Tryd.prog 3 #[.string ⟨xs.toArray⟩, .int .i64 m] w fun e w' => e = .returned (.bool true) ∧ Below w.heap.size w w' := by
  have hc1 := fun W => run_bytes_of (P := Tryd.prog) W 9 22 5 xs Tryd.underlying9 Tryd.underlying22 Tryd.underlying5
  have hm1 : m1 ≤ 1048576 := by split at hm <;> omega
  have hT := fun A cap W hc hr hg => codeSwell_calls A cap xs m1 W (by omega) hc hr hm1 hg
  have hR := fun A cap W hr => refSwell_calls A cap xs m1 W (by omega) hr hm1
  generalize swell xs m1 = T at *
  have HT := Lib.hid hT
  have HR := Lib.hid hR
  clear hT hR
  by_cases hlt : 1048576 < m
  all_goals
    first | rw [if_pos hlt] at hm | rw [if_neg hlt] at hm
    subst hm
    go_enter Tryd.func3, Tryd.ntmps3
    go_wp2_with fail
    refine (lent_calls2 _ _ xs _ hx (convW_rd w xs 5)).mono ?_
    rintro e W2 ⟨g, rfl, hgg, hlo, hhi, hb⟩
    have hs1 := convW_size w xs 5
    have HB2 := Lib.hid ((convW_below w (Below.refl _ _) (Nat.le_refl _) xs 5).trans (hb.mono (by omega)))
    have Hg := Lib.hid hgg
    have Hlo := Lib.hid (show w.heap.size < g by omega)
    have Hhi := Lib.hid hhi
    have HE := Lib.hid hg
    clear hgg hlo hhi hb hs1 hg
    go_wp2_with fail
    refine (HT.out (some ⟨g, 0, none⟩) (xs.length + 9) W2 (by omega) (Rd.block Hg.out ⟨List.replicate 9 77, by simp [lentL]⟩) (HE.out.below HE.out.lt HB2.out)).mono ?_
    rintro e W3 ⟨v, rfl, ho, hb3⟩
    have HO := Lib.hid ho
    have HB3 := Lib.hid (HB2.out.trans (hb3.mono HB2.out.size))
    have Hg3 := Lib.hid ((hb3.block g Hhi.out).trans Hg.out)
    have Hhi3 := Lib.hid (Nat.lt_of_lt_of_le Hhi.out hb3.size)
    clear ho hb3
    go_wp2_with fail
    refine (back_calls g xs _ _ xs _ (by rw [convW_old W3 xs 5 g Hhi3.out]; exact Hg3.out) hx rfl (convW_rd W3 xs 5)).mono ?_
    rintro e W4 ⟨rfl, hw4⟩
    have HB4 := Lib.hid (back_keep (convW_below W3 HB3.out HB3.out.size xs 5) (by have := Hlo.out; omega) hw4)
    have HO4 := Lib.hid (show OwnB W4 W2.heap.size 5 v T.2 by rw [hw4]; exact (HO.out.below (convW_below W3 (Below.refl _ _) (Nat.le_refl _) xs 5)).setRow Hhi.out _)
    clear hw4
    have hbx : (xs == xs) = true := by simp
    go_wp2_with fail
    refine (HR.out _ _ _ (convW_rd W4 xs 5)).mono ?_
    rintro e W5 ⟨v2, rfl, ho5, hb5⟩
    have HO5 := Lib.hid (HO4.out.below (((convW_below W4 (Below.refl _ _) (Nat.le_refl _) xs 5).trans (hb5.mono (by rw [convW_size]; omega)))))
    have HB5 := Lib.hid (HB4.out.trans (((convW_below W4 (Below.refl _ _) (Nat.le_refl _) xs 5).trans (hb5.mono (by rw [convW_size]; omega))).mono HB4.out.size))
    have HP := Lib.hid ho5
    clear ho5 hb5
    obtain ⟨A1, c1, hv1, hr1, _⟩ := HO5.out.form
    obtain ⟨A2, c2, hv2, hr2, _⟩ := HP.out.form
    subst hv1 hv2
    have hsm := same_calls A1 A2 c1 c2 T.2 T.2 W5 hr1 hr2
    rw [show (T.2 == T.2) = true by simp] at hsm
    have Hsm := Lib.hid hsm
    clear hsm hr1 hr2
    go_wp2_with fail
    refine (Hsm.out).mono ?_
    rintro e w' ⟨rfl, rfl⟩
    go_wp2_with fail
    go_ret
    exact ⟨rfl, HB5.out⟩
theorem codeSwells_walk (a0 : ByteArray) (a1 : Int) (w : World) (w0 : a0.size ≤ 140737488351232) (w1 : (Lit.int .i64 a1).wf = true) (hL : w.cell? ⟨0, 0, none⟩ = some (.iface 95 (.agg #[.pointer (some ⟨2, 43, none⟩)]))) :
    Calls Tryd.prog 3 #[.string a0, .int .i64 a1] w fun e w' => e = .returned (.bool true) ∧ Below w.heap.size w w' := by
  obtain ⟨⟨xs⟩⟩ := a0
  exact codeSwells_calls xs a1 _ w hL w0 rfl
end Go.Proofs.YtfogepoebihnoaaDoor
