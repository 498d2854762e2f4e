/- The walk of the law CodeReads: it returns true and leaves what was there. Condition: the library's variable errors.errorType holds its handle; the text has at most 2^47 bytes, as the row asks. -/
import Derived.Test.YtfogepoebihnoaaDoorPartw
import Derived.Test.YtfogepoebihnoaaDoorSwells
import Derived.Test.YtfogepoebihnoaaDoorOrder
namespace Go.Proofs.YtfogepoebihnoaaDoor
open Go.RowKit
set_option linter.unusedSimpArgs false
set_option linter.unusedVariables false
theorem partsR_ok : ∀ (f : Nat) (out : List PartD) (b : List UInt8), (partsR f out b).1 = 0 ∨ partsR f out b = (7, [])
  | 0, _, _ => .inr rfl
  | _ + 1, _, [] => .inl rfl
  | f + 1, out, t :: r => by
    simp only [partsR]
    split
    · exact .inr rfl
    · split
      · exact .inr rfl
      · exact partsR_ok _ _ _
theorem parts_ok (b : List UInt8) : (parts b).1 = 0 ∨ parts b = (7, []) := partsR_ok _ _ _
theorem OwnP.setRow2 {w : World} {B : Nat} {v : Value} {l : List PartD} (h : OwnP w B v l) {g : Nat} (hg : g < B) (C : Array Value) : OwnP (w.setRow g C) B v l :=
  h.setRow (fun e => by have := (World.ownsRow.lt h _ e).1; omega) C
theorem codeParts_calls (w : World) (g o : Nat) (bs : List UInt8) (cap : Nat) (hc : bs.length ≤ cap) (hr : Rd w (some ⟨g, o, none⟩) bs) (hl : bs.length ≤ 140737488351300) (hg : ErrH w) :
    Calls Tryd.prog 19 #[.slice (some ⟨g, o, none⟩) bs.length cap] w fun e W' => ∃ v, e = .returned (.tuple #[v, .int .i64 (parts bs).1]) ∧ OwnP W' w.heap.size v (parts bs).2 ∧ Below w.heap.size w W' := by
  have hq := Lib.hid (partsw_calls w g o bs cap hc hr hl)
  generalize parts bs = T at *
  clear hr
  go_enter Tryd.func19, Tryd.ntmps19
  go_wp2_with fail
  refine (hq.out).mono ?_
  rintro e W1 ⟨v, rfl, ho, hb⟩
  have Ho := Lib.hid ho
  have Hb := Lib.hid hb
  have Hg := Lib.hid (hg.below hg.lt hb)
  clear ho hb hq
  go_wp2_with fail
  refine (number_calls T.1 W1 Hg.out).mono ?_
  rintro e W2 ⟨rfl, hb2⟩
  have Hb2 := Lib.hid hb2
  clear hb2
  go_wp2_with fail
  go_ret2
  exact ⟨_, rfl, Ho.out.below Hb2.out, Hb.out.trans (Hb2.out.mono Hb.out.size)⟩
set_option maxHeartbeats 1000000 in
theorem codeReads_calls (xs : List UInt8) (w : World) (hg : ErrH w) (hx : xs.length ≤ 140737488351232) :
    Calls Tryd.prog 7 #[.string ⟨xs.toArray⟩] w fun e w' => e = .returned (.bool true) ∧ Below w.heap.size w w' := by
  have hc1 := fun W => run_bytes_of (P := Tryd.prog) W 9 22 5 xs Tryd.underlying9 Tryd.underlying22 Tryd.underlying5
  have HT := Lib.hid (fun g cap W hc hr hg => codeParts_calls W g 0 xs cap hc hr (by omega) hg)
  have HK := Lib.hid (fun (hT : (parts xs).1 = 0) => parts_key xs (parts xs).2 (Prod.ext hT rfl))
  have HO := Lib.hid (parts_ok xs)
  generalize parts xs = T at *
  go_enter Tryd.func7, Tryd.ntmps7
  go_wp2_with fail
  refine (lent_calls2 _ _ xs _ hx (convW_rd w xs 5)).mono ?_
  rintro e W2 ⟨g, rfl, hgg, hlo, hhi, hb⟩
  have hs1 := convW_size w xs 5
  have HB2 := Lib.hid ((convW_below w (Below.refl _ _) (Nat.le_refl _) xs 5).trans (hb.mono (by omega)))
  have Hg := Lib.hid hgg
  have Hlo := Lib.hid (show w.heap.size < g by omega)
  have Hhi := Lib.hid hhi
  have HE := Lib.hid hg
  clear hgg hlo hhi hb hs1 hg
  go_wp2_with fail
  refine (HT.out g (xs.length + 9) W2 (by omega) (Rd.block Hg.out ⟨List.replicate 9 77, by simp [lentL]⟩) (HE.out.below HE.out.lt HB2.out)).mono ?_
  rintro e W3 ⟨v, rfl, ho, hb3⟩
  have HO3 := Lib.hid ho
  have HB3 := Lib.hid (HB2.out.trans (hb3.mono HB2.out.size))
  have Hg3 := Lib.hid ((hb3.block g Hhi.out).trans Hg.out)
  have Hhi3 := Lib.hid (Nat.lt_of_lt_of_le Hhi.out hb3.size)
  clear ho hb3
  go_wp2_with fail
  refine (back_calls g xs _ _ xs _ (by rw [convW_old W3 xs 5 g Hhi3.out]; exact Hg3.out) hx rfl (convW_rd W3 xs 5)).mono ?_
  rintro e W4 ⟨rfl, hw4⟩
  have HB4 := Lib.hid (back_keep (convW_below W3 HB3.out HB3.out.size xs 5) (by have := Hlo.out; omega) hw4)
  have HO4 := Lib.hid (show OwnP W4 W2.heap.size v T.2 by rw [hw4]; exact (HO3.out.below (convW_below W3 (Below.refl _ _) (Nat.le_refl _) xs 5)).setRow2 Hhi.out _)
  have HE4 := Lib.hid (HE.out.below HE.out.lt HB4.out)
  clear hw4
  have hbx : (xs == xs) = true := by simp
  obtain ⟨A1, c1, hv1, hr1, _⟩ := HO4.out.form
  subst hv1
  have HR1 := Lib.hid hr1
  clear hr1
  rcases HO.out with h0 | h7
  · have hk := HK.out h0
    have HC := Lib.hid (codeKey_calls A1 c1 T.2 W4 HR1.out (fun p hp => by
      rcases hk.2 p hp with ⟨_, _, h⟩ | ⟨_, h, _⟩
      · exact h
      · rw [h]; decide) HE4.out)
    rw [hk.1] at HC
    clear hk
    simp only at HC
    simp only [h0]
    clear h0
    go_wp2_with fail
    refine (HC.out).mono ?_
    rintro e W5 ⟨v5, rfl, ho5, hb5⟩
    have HB5 := Lib.hid (HB4.out.trans (hb5.mono HB4.out.size))
    obtain ⟨A2, c2, hv2, hr2, _⟩ := ho5.form
    subst hv2
    have hst := run_string_of (P := Tryd.prog) W5 22 9 5 Tryd.underlying22 Tryd.underlying5 Tryd.underlying9 A2 c2 xs hr2
    clear ho5 hb5 hr2
    go_wp2_with fail
    go_ret
    exact ⟨rfl, HB5.out⟩
  · subst h7
    go_wp2_with fail
    go_ret
    exact ⟨rfl, HB4.out⟩
theorem codeReads_walk (a0 : ByteArray) (w : World) (w0 : a0.size ≤ 140737488351232) (hL : w.cell? ⟨0, 0, none⟩ = some (.iface 95 (.agg #[.pointer (some ⟨2, 43, none⟩)]))) :
    Calls Tryd.prog 7 #[.string a0] w fun e w' => e = .returned (.bool true) ∧ Below w.heap.size w w' := by
  obtain ⟨⟨xs⟩⟩ := a0
  exact codeReads_calls xs w hL w0
end Go.Proofs.YtfogepoebihnoaaDoor
