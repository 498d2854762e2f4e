/- The walk of the law CodeOrder. Condition: the library's variable errors.errorType holds its handle; sizes as the row asks. -/
import Derived.Test.YtfogepoebihnoaaDoorPmem
import Derived.Test.YtfogepoebihnoaaDoorMem
import Derived.Test.YtfogepoebihnoaaDoorTake
import Derived.OpenShut
import Derived.Laws.Cover1
namespace Go.Proofs.YtfogepoebihnoaaDoor
open Go.RowKit
set_option linter.unusedSimpArgs false
set_option linter.unusedVariables false
theorem RdP.take {w : World} {A : Option Addr} {l : List PartD} (h : RdP w A l) (m : Nat) : RdP w A (l.take m) := fun j hj => by
  have hj' : j < l.length := by simp at hj; omega
  obtain ⟨ad, rfl, hp⟩ := h j hj'
  exact ⟨ad, rfl, by simpa using hp⟩
set_option maxHeartbeats 2000000 in
set_option maxRecDepth 100000 in
theorem codeOrder_calls (A B : Option Addr) (c d : Nat) (a b : List PartD) (n : Int) (w : World) (hg : ErrH w) (ha : RdP w A a) (hb : RdP w B b) (sa : a.length * 32 ≤ 140737488351232) (sb : b.length * 32 ≤ 140737488351232)
    (na : ∀ p ∈ a, p.num < 256 ^ 8) (nb_ : ∀ p ∈ b, p.num < 256 ^ 8) (hn1 : -9223372036854775808 ≤ n) (hn2 : n ≤ 9223372036854775807) :
    Calls Tryd.prog 4 #[.slice A a.length c, .slice B b.length d, .int .i64 n] w fun e w' => e = .returned (.bool true) ∧ Below w.heap.size w w' := by
  obtain ⟨iP, hiP, _, _, _⟩ := info_parts infoP3
  obtain ⟨i5, hi5, _, hz1, _⟩ := info_parts info5
  have hes := fun W => run_emptySlice (P := Tryd.prog) W 29 51 iP Tryd.underlying29 hiP
  obtain ⟨v1, W2, ap1, own1, b1⟩ := appendP (w.alloc (.cells #[] 51)) w.heap.size (heap_alloc_new w _) A c a (ha.below ((Below.refl _ _).alloc (Nat.le_refl _) _)) sa
  have hB2 : Below w.heap.size w W2 := ((Below.refl _ _).alloc (Nat.le_refl _) _).trans b1
  have hB3 : Below W2.heap.size W2 (W2.alloc (.cells #[] 51)) := (Below.refl _ _).alloc (Nat.le_refl _) _
  obtain ⟨v2, W4, ap2, own2, b2⟩ := appendP (W2.alloc (.cells #[] 51)) W2.heap.size (heap_alloc_new W2 _) B d b ((hb.below hB2).below hB3) sb
  have own1' := own1.below (hB3.trans b2)
  obtain ⟨A1, c1, hv1, r1, l1⟩ := own1'.form
  obtain ⟨A2, c2, hv2, r2, l2⟩ := own2.form
  subst hv1 hv2
  have HB4 := Lib.hid (hB2.trans ((hB3.trans b2).mono hB2.size))
  have Hg4 := Lib.hid (hg.below hg.lt HB4.out)
  have R1 := Lib.hid r1
  have R2 := Lib.hid r2
  have Ap1 := Lib.hid ap1
  have Ap2 := Lib.hid ap2
  have K1 := Lib.hid (fun A c W hr hg => codeKey_calls A c a W hr na hg)
  have K2 := Lib.hid (fun A c W hr hg => codeKey_calls A c b W hr nb_ hg)
  have K3 := Lib.hid (fun (A : Option Addr) (c : Nat) (W : World) (m : Nat) (hm : m ≤ a.length) (hr : RdP W A a) (hg : ErrH W) => by
    have h := codeKey_calls A c (a.take m) W (hr.take m) (fun p hp => na p (List.mem_of_mem_take hp)) hg
    rw [show (a.take m).length = m by simp; omega] at h
    exact h)
  have G1 := Lib.hid (fun h => key_good a h na)
  have G2 := Lib.hid (fun h => key_good b h nb_)
  have G3 := Lib.hid (fun m (h : (key a).1 = 0) => And.intro (key_take a m h) (key_good (a.take m) (key_take a m h) (fun p hp => na p (List.mem_of_mem_take hp))).1)
  have P1 := Lib.hid (fun A c W hr => refParts_calls A c a W hr)
  have P2 := Lib.hid (fun A c W hr => refParts_calls A c b W hr)
  clear ap1 ap2 r1 r2 own1 own2 own1' b1 b2 hB2 hB3 na nb_ ha hb hg
  have hal : a.length ≤ 140737488355328 := by omega
  have hbl : b.length ≤ 140737488355328 := by omega
  by_cases e1 : (key a).1 = 0
  · by_cases e2 : (key b).1 = 0
    · have hka : (key a) = (0, enc a) := Prod.ext e1 (G1.out e1).1
      have hkb : (key b) = (0, enc b) := Prod.ext e2 (G2.out e2).1
      have hord : cmpB (enc a) (enc b) = ordL a b := ord_enc a b (G1.out e1).2 (G2.out e2).2
      obtain ⟨m, hm⟩ : ∃ m : Nat, n % ((a.length : Int) + 1) = (m : Int) := ⟨(n % ((a.length : Int) + 1)).toNat, by have := Int.emod_nonneg n (show (a.length : Int) + 1 ≠ 0 by omega); omega⟩
      have hml : m ≤ a.length := by have := Int.emod_lt_of_pos n (show (0 : Int) < (a.length : Int) + 1 by omega); omega
      have hkt : key (a.take m) = (0, enc (a.take m)) := Prod.ext (G3.out m e1).1 (G3.out m e1).2
      have K4 := Lib.hid (fun (A : Option Addr) (c : Nat) (W : World) (hr : RdP W A a) (hg : ErrH W) => K3.out A c W m hml hr hg)
      rw [hka] at K1
      rw [hkb] at K2
      rw [hkt] at K4
      simp only at K1 K2 K4
      clear G1 G2 G3 K3 P1 P2 e1 e2 hka hkb hkt
      obtain ⟨u, hu⟩ := enc_take a m
      have O1 := Lib.hid (fun A B c d W hr hs => refOrder_calls A B c d a b W hr hs hal)
      rw [← hord] at O1
      generalize enc (a.take m) = zs at *
      generalize enc a = xs at *
      generalize enc b = ys at *
      have Hu := Lib.hid hu
      have hzl : zs.length ≤ xs.length := by rw [hu]; simp
      clear hu hord
      have hpk := Lib.hid (fun W => pick_calls n ((a.length : Int) + 1) W hn1 hn2 (by omega) (by omega))
      rw [hm] at hpk
      have hup := fun W => run_upto (P := Tryd.prog) W 29 51 iP Tryd.underlying29 hiP A1 a.length c1 m (m : Int) rfl (by omega)
      go_enter Tryd.func4, Tryd.ntmps4
      go_wp2_with (at_builtin; go_must (first | refine wpList_append_run rfl (.tmp 14) (.tmp 15) 29 29 rfl rfl rfl (by exact Ap1.out) ?_ | refine wpList_append_run rfl (.tmp 17) (.tmp 18) 29 29 rfl rfl rfl (by exact Ap2.out) ?_))
      refine (K1.out A1 c1 W4 R1.out Hg4.out).mono ?_
      rintro e W5 ⟨vx, rfl, ox, bx⟩
      have HB5 := Lib.hid (HB4.out.trans (bx.mono HB4.out.size))
      have Hg5 := Lib.hid (Hg4.out.below Hg4.out.lt bx)
      have Hbx := Lib.hid bx
      have Ox := Lib.hid ox
      clear bx ox
      go_wp2_with fail
      refine (K2.out A2 c2 W5 (R2.out.below Hbx.out) Hg5.out).mono ?_
      rintro e W6 ⟨vy, rfl, oy, by_⟩
      have HB6 := Lib.hid (HB5.out.trans (by_.mono HB5.out.size))
      have Hg6 := Lib.hid (Hg5.out.below Hg5.out.lt by_)
      have Ox6 := Lib.hid (Ox.out.below by_)
      have Hby := Lib.hid by_
      obtain ⟨Ay, cy, hvy, ry, _, _, _⟩ := oy.form
      obtain ⟨Ax, cx, hvx, rx, hcx, _, _⟩ := Ox6.out.form
      subst hvx hvy
      clear by_ oy
      have hs1 := run_string_of (P := Tryd.prog) W6 22 9 5 Tryd.underlying22 Tryd.underlying5 Tryd.underlying9 Ax cx xs rx
      have hs2 := run_string_of (P := Tryd.prog) W6 22 9 5 Tryd.underlying22 Tryd.underlying5 Tryd.underlying9 Ay cy ys ry
      clear rx ry
      obtain ⟨q, hq⟩ : ∃ q, cmpB xs ys = q := ⟨_, rfl⟩
      rw [hq] at O1
      have hfin : ((xs < ys ∧ -1 = q) ∨ (¬ xs < ys ∧ ys < xs ∧ 1 = q)) ∨ (xs = ys ∧ 0 = q) := by
        by_cases hlt : xs < ys
        · exact .inl (.inl ⟨hlt, by rw [← hq]; exact (if_pos hlt).symm⟩)
        · by_cases hgt : ys < xs
          · exact .inl (.inr ⟨hlt, hgt, by rw [← hq]; exact ((if_neg hlt).trans (if_pos hgt)).symm⟩)
          · have he : xs = ys := by
              by_cases he : xs = ys
              · exact he
              · rcases lt_tot xs ys he with h | h
                · exact absurd h hlt
                · exact absurd h hgt
            exact .inr ⟨he, by rw [← hq]; exact ((if_neg hlt).trans (if_neg hgt)).symm⟩
      clear hq
      rcases hfin with (⟨hlt, hq2⟩ | ⟨hlt, hgt, hq2⟩) | ⟨he, hq2⟩
      · subst hq2
        have hbl1 : Op.bytesLess xs ys = true := by rw [bytesLess_eq]; simpa using hlt
        clear hlt
        go_wp2_with fail
        refine (hpk.out W6).mono ?_
        rintro e w' ⟨rfl, rfl⟩
        go_wp2_with fail
        refine (K4.out A1 c1 W6 ((R1.out.below Hbx.out).below Hby.out) Hg6.out).mono ?_
        rintro e W7 ⟨vz, rfl, oz, bz⟩
        have Ox7 := Lib.hid (Ox6.out.below bz)
        have HB7 := Lib.hid (HB6.out.trans (bz.mono HB6.out.size))
        have Hbz := Lib.hid bz
        have Oz := Lib.hid oz
        clear bz oz
        obtain ⟨Az, cz, hvz, _, _, _, _⟩ := Oz.out.form
        subst hvz
        go_wp2_with fail
        refine (O1.out A1 A2 c1 c2 W7 (((R1.out.below Hbx.out).below Hby.out).below Hbz.out) (((R2.out.below Hbx.out).below Hby.out).below Hbz.out)).mono ?_
        rintro e W8 ⟨rfl, b8⟩
        have HB8 := Lib.hid (HB7.out.trans (b8.mono HB7.out.size))
        have hup2 := fun W => run_upto (P := Tryd.prog) W 22 5 i5 Tryd.underlying22 hi5 Ax xs.length cx zs.length (zs.length : Int) rfl (by omega)
        obtain ⟨Az', cz', hz', rz, _⟩ := (Oz.out.below b8).form
        cases hz'
        obtain ⟨Ax', cx', hx', rx, _⟩ := (Ox7.out.below b8).form
        cases hx'
        have rx2 : Rd W8 Ax zs := by
          have h := rx.take zs.length
          rw [Hu.out] at h
          simpa using h
        have hsm := same_calls Az Ax cz cx zs zs W8 rz rx2
        rw [show (zs == zs) = true by simp] at hsm
        have Hsm := Lib.hid hsm
        clear hsm rx2 rx rz b8
        go_wp2_with fail
        refine (Hsm.out).mono ?_
        rintro e w' ⟨rfl, rfl⟩
        go_wp2_with fail
        go_ret
        exact ⟨rfl, HB8.out⟩
      · subst hq2
        have hbl1 : Op.bytesLess xs ys = false := by rw [bytesLess_eq]; simpa using hlt
        have hbl2 : (xs == ys) = false := by
          rw [beq_eq_false_iff_ne]
          intro e
          subst e
          exact lt_irr _ hgt
        clear hlt hgt
        go_wp2_with fail
        refine (hpk.out W6).mono ?_
        rintro e w' ⟨rfl, rfl⟩
        go_wp2_with fail
        refine (K4.out A1 c1 W6 ((R1.out.below Hbx.out).below Hby.out) Hg6.out).mono ?_
        rintro e W7 ⟨vz, rfl, oz, bz⟩
        have Ox7 := Lib.hid (Ox6.out.below bz)
        have HB7 := Lib.hid (HB6.out.trans (bz.mono HB6.out.size))
        have Hbz := Lib.hid bz
        have Oz := Lib.hid oz
        clear bz oz
        obtain ⟨Az, cz, hvz, _, _, _, _⟩ := Oz.out.form
        subst hvz
        go_wp2_with fail
        refine (O1.out A1 A2 c1 c2 W7 (((R1.out.below Hbx.out).below Hby.out).below Hbz.out) (((R2.out.below Hbx.out).below Hby.out).below Hbz.out)).mono ?_
        rintro e W8 ⟨rfl, b8⟩
        have HB8 := Lib.hid (HB7.out.trans (b8.mono HB7.out.size))
        have hup2 := fun W => run_upto (P := Tryd.prog) W 22 5 i5 Tryd.underlying22 hi5 Ax xs.length cx zs.length (zs.length : Int) rfl (by omega)
        obtain ⟨Az', cz', hz', rz, _⟩ := (Oz.out.below b8).form
        cases hz'
        obtain ⟨Ax', cx', hx', rx, _⟩ := (Ox7.out.below b8).form
        cases hx'
        have rx2 : Rd W8 Ax zs := by
          have h := rx.take zs.length
          rw [Hu.out] at h
          simpa using h
        have hsm := same_calls Az Ax cz cx zs zs W8 rz rx2
        rw [show (zs == zs) = true by simp] at hsm
        have Hsm := Lib.hid hsm
        clear hsm rx2 rx rz b8
        go_wp2_with fail
        refine (Hsm.out).mono ?_
        rintro e w' ⟨rfl, rfl⟩
        go_wp2_with fail
        go_ret
        exact ⟨rfl, HB8.out⟩
      · subst hq2
        subst he
        have hbl1 : Op.bytesLess xs xs = false := by rw [bytesLess_eq]; exact decide_eq_false (lt_irr xs)
        have hbl2 : (xs == xs) = true := by simp
        go_wp2_with fail
        refine (hpk.out W6).mono ?_
        rintro e w' ⟨rfl, rfl⟩
        go_wp2_with fail
        refine (K4.out A1 c1 W6 ((R1.out.below Hbx.out).below Hby.out) Hg6.out).mono ?_
        rintro e W7 ⟨vz, rfl, oz, bz⟩
        have Ox7 := Lib.hid (Ox6.out.below bz)
        have HB7 := Lib.hid (HB6.out.trans (bz.mono HB6.out.size))
        have Hbz := Lib.hid bz
        have Oz := Lib.hid oz
        clear bz oz
        obtain ⟨Az, cz, hvz, _, _, _, _⟩ := Oz.out.form
        subst hvz
        go_wp2_with fail
        refine (O1.out A1 A2 c1 c2 W7 (((R1.out.below Hbx.out).below Hby.out).below Hbz.out) (((R2.out.below Hbx.out).below Hby.out).below Hbz.out)).mono ?_
        rintro e W8 ⟨rfl, b8⟩
        have HB8 := Lib.hid (HB7.out.trans (b8.mono HB7.out.size))
        have hup2 := fun W => run_upto (P := Tryd.prog) W 22 5 i5 Tryd.underlying22 hi5 Ax xs.length cx zs.length (zs.length : Int) rfl (by omega)
        obtain ⟨Az', cz', hz', rz, _⟩ := (Oz.out.below b8).form
        cases hz'
        obtain ⟨Ax', cx', hx', rx, _⟩ := (Ox7.out.below b8).form
        cases hx'
        have rx2 : Rd W8 Ax zs := by
          have h := rx.take zs.length
          rw [Hu.out] at h
          simpa using h
        have hsm := same_calls Az Ax cz cx zs zs W8 rz rx2
        rw [show (zs == zs) = true by simp] at hsm
        have Hsm := Lib.hid hsm
        clear hsm rx2 rx rz b8
        go_wp2_with fail
        refine (Hsm.out).mono ?_
        rintro e w' ⟨rfl, rfl⟩
        go_wp2_with fail
        go_ret
        exact ⟨rfl, HB8.out⟩
    · generalize (key a).1 = ea at *
      generalize (key a).2 = xa at *
      generalize (key b).1 = eb at *
      generalize (key b).2 = xb at *
      subst e1
      go_enter Tryd.func4, Tryd.ntmps4
      go_wp2_with (at_builtin; go_must (first | refine wpList_append_run rfl (.tmp 14) (.tmp 15) 29 29 rfl rfl rfl (by exact Ap1.out) ?_ | refine wpList_append_run rfl (.tmp 17) (.tmp 18) 29 29 rfl rfl rfl (by exact Ap2.out) ?_))
      refine (K1.out A1 c1 W4 R1.out Hg4.out).mono ?_
      rintro e W5 ⟨vx, rfl, ox, bx⟩
      have HB5 := Lib.hid (HB4.out.trans (bx.mono HB4.out.size))
      have Hg5 := Lib.hid (Hg4.out.below Hg4.out.lt bx)
      have Hbx := Lib.hid bx
      clear bx ox
      go_wp2_with fail
      refine (K2.out A2 c2 W5 (R2.out.below Hbx.out) Hg5.out).mono ?_
      rintro e W6 ⟨vy, rfl, oy, by_⟩
      have HB6 := Lib.hid (HB5.out.trans (by_.mono HB5.out.size))
      have Hby := Lib.hid by_
      clear by_ oy
      go_wp2_with fail
      refine (P1.out A1 c1 W6 ((R1.out.below Hbx.out).below Hby.out)).mono ?_
      rintro e W7 ⟨rfl, b7⟩
      have HB7 := Lib.hid (HB6.out.trans (b7.mono HB6.out.size))
      have Hb7 := Lib.hid b7
      clear b7
      go_wp2_with fail
      refine (P2.out A2 c2 W7 (((R2.out.below Hbx.out).below Hby.out).below Hb7.out)).mono ?_
      rintro e W8 ⟨rfl, b8⟩
      have HB8 := Lib.hid (HB7.out.trans (b8.mono HB7.out.size))
      clear b8
      go_wp2_with fail
      go_ret
      exact ⟨rfl, HB8.out⟩
  · generalize (key a).1 = ea at *
    generalize (key a).2 = xa at *
    generalize (key b).1 = eb at *
    generalize (key b).2 = xb at *
    go_enter Tryd.func4, Tryd.ntmps4
    go_wp2_with (at_builtin; go_must (first | refine wpList_append_run rfl (.tmp 14) (.tmp 15) 29 29 rfl rfl rfl (by exact Ap1.out) ?_ | refine wpList_append_run rfl (.tmp 17) (.tmp 18) 29 29 rfl rfl rfl (by exact Ap2.out) ?_))
    refine (K1.out A1 c1 W4 R1.out Hg4.out).mono ?_
    rintro e W5 ⟨vx, rfl, ox, bx⟩
    have HB5 := Lib.hid (HB4.out.trans (bx.mono HB4.out.size))
    have Hg5 := Lib.hid (Hg4.out.below Hg4.out.lt bx)
    have Hbx := Lib.hid bx
    clear bx ox
    go_wp2_with fail
    refine (K2.out A2 c2 W5 (R2.out.below Hbx.out) Hg5.out).mono ?_
    rintro e W6 ⟨vy, rfl, oy, by_⟩
    have HB6 := Lib.hid (HB5.out.trans (by_.mono HB5.out.size))
    have Hby := Lib.hid by_
    clear by_ oy
    go_wp2_with fail
    refine (P1.out A1 c1 W6 ((R1.out.below Hbx.out).below Hby.out)).mono ?_
    rintro e W7 ⟨rfl, b7⟩
    have HB7 := Lib.hid (HB6.out.trans (b7.mono HB6.out.size))
    have Hb7 := Lib.hid b7
    clear b7
    go_wp2_with fail
    refine (P2.out A2 c2 W7 (((R2.out.below Hbx.out).below Hby.out).below Hb7.out)).mono ?_
    rintro e W8 ⟨rfl, b8⟩
    have HB8 := Lib.hid (HB7.out.trans (b8.mono HB7.out.size))
    clear b8
    go_wp2_with fail
    go_ret
    exact ⟨rfl, HB8.out⟩
end Go.Proofs.YtfogepoebihnoaaDoor
