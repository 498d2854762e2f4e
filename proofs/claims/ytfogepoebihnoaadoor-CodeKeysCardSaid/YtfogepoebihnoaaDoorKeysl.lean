/- The walk of the law CodeKeys: it returns true and leaves what was there. Condition: the library's variable errors.errorType holds its handle; sizes as the row asks. -/
import Derived.Test.YtfogepoebihnoaaDoorKeys
namespace Go.Proofs.YtfogepoebihnoaaDoor
open Go.RowKit
set_option linter.unusedSimpArgs false
set_option linter.unusedVariables false
theorem room_le (l : List PartD) (hv : ∀ p ∈ l, Valid p) : room l ≤ 123 * l.length := by
  induction l with
  | nil => simp [room]
  | cons p r ih =>
    have h2 := ih (fun q hq => hv q (by simp [hq]))
    have h1 : roomP p ≤ 123 := by
      unfold roomP
      rcases hv p (by simp) with ⟨hk, _, hn⟩ | ⟨hk, _, hl⟩
      · rw [if_pos hk]; omega
      · rw [if_neg (by omega)]; omega
    simp only [room, List.length_cons]
    omega
set_option maxHeartbeats 2000000 in
set_option maxRecDepth 100000 in
theorem codeKeys_calls (A : Option Addr) (c : Nat) (l : List PartD) (w : World) (hg : ErrH w) (hr : RdP w A l) (hc : l.length ≤ c) (sl : l.length * 32 ≤ 140737488351232) (hn : ∀ p ∈ l, p.num < 256 ^ 8) :
    Calls Tryd.prog 6 #[.slice A l.length c] w fun e w' => e = .returned (.bool true) ∧ Below w.heap.size w w' := by
  obtain ⟨iP, hiP, _, _, _⟩ := info_parts infoP3
  have hes := fun W => run_emptySlice (P := Tryd.prog) W 29 51 iP Tryd.underlying29 hiP
  obtain ⟨l1, hl1⟩ : ∃ l1, l1 = if 1000 < l.length then l.take 1000 else l := ⟨_, rfl⟩
  have hfac : RdP w A l1 ∧ (∀ p ∈ l1, p.num < 256 ^ 8) ∧ l1.length * 32 ≤ 140737488351232 ∧ ((1000 < l.length ∧ l1.length = 1000) ∨ (¬ 1000 < l.length ∧ l1.length = l.length)) := by
    by_cases h : 1000 < l.length
    · rw [if_pos h] at hl1
      subst hl1
      exact ⟨hr.take _, fun p hp => hn p (List.mem_of_mem_take hp), by simp; omega, .inl ⟨h, by simp; omega⟩⟩
    · rw [if_neg h] at hl1
      subst hl1
      exact ⟨hr, hn, sl, .inr ⟨h, rfl⟩⟩
  obtain ⟨hr1, hn1, s1, hlen⟩ := hfac
  clear hl1 hr hn sl
  obtain ⟨v1, W2, ap1, own1, b1⟩ := appendP (w.alloc (.cells #[] 51)) w.heap.size (heap_alloc_new w _) A c l1 (hr1.below ((Below.refl _ _).alloc (Nat.le_refl _) _)) s1
  have hB2 : Below w.heap.size w W2 := ((Below.refl _ _).alloc (Nat.le_refl _) _).trans b1
  obtain ⟨A1, c1, hv1, r1, _⟩ := own1.form
  subst hv1
  have HR0 := Lib.hid hr1
  have HB2 := Lib.hid hB2
  have HG := Lib.hid hg
  have R1 := Lib.hid r1
  have K1 := Lib.hid (fun W hr hg => codeKey_calls A1 c1 l1 W hr hn1 hg)
  have P1 := Lib.hid (fun W hr => refParts_calls A c l1 W hr)
  have O1 := Lib.hid (fun W ha hb => refOrder_calls A1 A c1 c l1 l1 W ha hb (by omega))
  have HV := Lib.hid (fun h => key_valid2 l1 h hn1)
  have HE := Lib.hid (fun h => (key_good l1 h hn1).1)
  rw [ordL_self] at O1
  obtain ⟨n1, hn⟩ : ∃ n1, l1.length = n1 := ⟨_, rfl⟩
  rw [hn] at ap1 K1 P1 O1 hlen
  have Ap1 := Lib.hid ap1
  have Hn := Lib.hid hn
  clear ap1 own1 b1 r1 hB2 hr1 hg hn1 s1 hn
  have hup := fun W (h : 1000 < l.length) => run_upto (P := Tryd.prog) W 29 51 iP Tryd.underlying29 hiP A l.length c 1000 (1000 : Int) rfl (by omega)
  by_cases hk0 : (key l1).1 = 0
  · have hv := HV.out hk0
    have hke : key l1 = (0, enc l1) := Prod.ext hk0 (HE.out hk0)
    have hkp := key_parts l1 hv.1 hv.2
    have hrm := enc_room l1 hv.2
    have hrl := room_le l1 hv.2
    have Rm := Lib.hid (fun W hr => room_calls A c l1 W hr hv.1 hv.2)
    have h8 := hv.1
    rw [Hn.out] at Rm h8 hrl
    rw [hke] at K1 P1
    simp only at K1 P1
    have HT := Lib.hid (fun g cap W hc hr hl hg => codeParts_calls W g 0 (enc l1) cap hc hr hl hg)
    rw [hkp] at HT
    simp only at HT
    have O2 := Lib.hid (fun B d W ha hb => refOrder_calls B A d c l1 l1 W ha hb (by have := Hn.out; omega))
    rw [ordL_self, Hn.out] at O2
    clear HV HE hke hk0 hkp hv
    generalize enc l1 = xs at *
    generalize room l1 = rm at *
    have hlr : ((xs.length : Int) ≤ (rm : Int)) := by omega
    have hx : xs.length ≤ 140737488351232 := by omega
    clear hrm hrl
    rcases hlen with ⟨hlt, hlen⟩ | ⟨hlt, hlen⟩
    · omega
    · subst hlen
      go_enter Tryd.func6, Tryd.ntmps6
      go_wp2_with (at_builtin; go_must (refine wpList_append_run rfl (.tmp 15) (.tmp 16) 29 29 rfl rfl rfl (by exact Ap1.out) ?_))
      refine (K1.out W2 R1.out (HG.out.below HG.out.lt HB2.out)).mono ?_
      rintro e W3 ⟨vk, rfl, ok, b3⟩
      have Hb3 := Lib.hid b3
      have HB3 := Lib.hid (HB2.out.trans (b3.mono HB2.out.size))
      have Ok3 := Lib.hid ok
      clear b3 ok
      go_wp2_with fail
      refine (P1.out W3 (HR0.out.below HB3.out)).mono ?_
      rintro e W4 ⟨rfl, b4⟩
      have HB4 := Lib.hid (HB3.out.trans (b4.mono HB3.out.size))
      have Hb4 := Lib.hid b4
      have Ok4 := Lib.hid (Ok3.out.below b4)
      clear b4
      go_wp2_with fail
      refine (O1.out W4 ((R1.out.below Hb3.out).below Hb4.out) (HR0.out.below HB4.out)).mono ?_
      rintro e W5 ⟨rfl, b5⟩
      have HB5 := Lib.hid (HB4.out.trans (b5.mono HB4.out.size))
      have Ok5 := Lib.hid (Ok4.out.below b5)
      clear b5
      obtain ⟨Ak, ck, hvk, rk, _⟩ := Ok5.out.form
      subst hvk
      have Rk := Lib.hid rk
      clear rk
      go_wp2_with fail
      refine (lent_calls2 Ak ck xs W5 hx Rk.out).mono ?_
      rintro e W6 ⟨g, rfl, hgg, hlo, hhi, hb⟩
      have Hb6 := Lib.hid hb
      have HB6 := Lib.hid (HB5.out.trans (hb.mono HB5.out.size))
      have Hg := Lib.hid hgg
      have Hlo := Lib.hid (show W5.heap.size ≤ g by omega)
      have Hhi := Lib.hid hhi
      clear hgg hlo hhi hb
      go_wp2_with fail
      refine (HT.out g (xs.length + 9) W6 (by omega) (Rd.block Hg.out ⟨List.replicate 9 77, by simp [lentL]⟩) (by omega) (HG.out.below HG.out.lt HB6.out)).mono ?_
      rintro e W7 ⟨v, rfl, ho, hb7⟩
      have HO7 := Lib.hid ho
      have HB7 := Lib.hid (HB6.out.trans (hb7.mono HB6.out.size))
      have Hg7 := Lib.hid ((hb7.block g Hhi.out).trans Hg.out)
      have Rk7 := Lib.hid ((Rk.out.below Hb6.out).below hb7)
      clear ho hb7
      go_wp2_with fail
      refine (back_calls g xs Ak ck xs W7 Hg7.out hx rfl Rk7.out).mono ?_
      rintro e W8 ⟨rfl, hw8⟩
      have HB8 := Lib.hid (back_keep HB7.out (by have := Hlo.out; have := HB5.out.size; omega) hw8)
      have HO8 := Lib.hid (show OwnP W8 W6.heap.size v l1 by rw [hw8]; exact HO7.out.setRow2 Hhi.out _)
      clear hw8
      have hbx : (xs == xs) = true := by simp
      obtain ⟨A2, c2, hv2, hr2, _⟩ := HO8.out.form
      subst hv2
      have HR2 := Lib.hid hr2
      clear hr2
      rw [Hn.out]
      go_wp2_with fail
      refine (Rm.out W8 (HR0.out.below HB8.out)).mono ?_
      rintro e W9 ⟨rfl, b9⟩
      have HB9 := Lib.hid (HB8.out.trans (b9.mono HB8.out.size))
      have HR9 := Lib.hid (HR2.out.below b9)
      clear b9
      go_wp2_with fail
      refine (O2.out A2 c2 W9 HR9.out (HR0.out.below HB9.out)).mono ?_
      rintro e W10 ⟨rfl, b10⟩
      have HB10 := Lib.hid (HB9.out.trans (b10.mono HB9.out.size))
      clear b10
      go_wp2_with fail
      go_ret
      exact ⟨rfl, HB10.out⟩
  · have hke : key l1 = ((key l1).1, []) := Prod.ext rfl (key_bad l1 hk0)
    generalize (key l1).1 = e1 at *
    rw [hke] at K1
    simp only at K1
    clear HV HE hke
    rcases hlen with ⟨hlt, hlen⟩ | ⟨hlt, hlen⟩
    all_goals
      try have hup := fun W => hup W hlt
      subst hlen
      go_enter Tryd.func6, Tryd.ntmps6
      go_wp2_with (at_builtin; go_must (refine wpList_append_run rfl (.tmp 15) (.tmp 16) 29 29 rfl rfl rfl (by exact Ap1.out) ?_))
      refine (K1.out W2 R1.out (HG.out.below HG.out.lt HB2.out)).mono ?_
      rintro e W3 ⟨vk, rfl, ok, b3⟩
      have Hb3 := Lib.hid b3
      have HB3 := Lib.hid (HB2.out.trans (b3.mono HB2.out.size))
      obtain ⟨Ak, ck, hvk, _, _⟩ := ok.form
      subst hvk
      clear b3 ok
      go_wp2_with fail
      refine (P1.out W3 (HR0.out.below HB3.out)).mono ?_
      rintro e W4 ⟨rfl, b4⟩
      have HB4 := Lib.hid (HB3.out.trans (b4.mono HB3.out.size))
      have Hb4 := Lib.hid b4
      clear b4
      go_wp2_with fail
      refine (O1.out W4 ((R1.out.below Hb3.out).below Hb4.out) (HR0.out.below HB4.out)).mono ?_
      rintro e W5 ⟨rfl, b5⟩
      have HB5 := Lib.hid (HB4.out.trans (b5.mono HB4.out.size))
      clear b5
      go_wp2_with fail
      go_ret
      exact ⟨rfl, HB5.out⟩
theorem codeKeys_walk (v0 : Value) (w : World) (w0 : PartsV w v0) (hL : w.cell? ⟨0, 0, none⟩ = some (.iface 95 (.agg #[.pointer (some ⟨2, 43, none⟩)]))) :
    Calls Tryd.prog 6 #[v0] w fun e w' => e = .returned (.bool true) ∧ Below w.heap.size w w' := by
  obtain ⟨A, c, l, rfl, hr, sl, hn, hc⟩ := w0
  exact codeKeys_calls A c l w hL hr hc sl hn
end Go.Proofs.YtfogepoebihnoaaDoor
