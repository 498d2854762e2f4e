/- The walk of bedrockkeep.odd. Condition: the slice reads as the lists. -/
import Derived.Test.YtfajgnaphekdhaaDoorPbk2
import Derived.Test.YtfajgnaphekdhaaDoorPick
namespace Go.Proofs.YtfajgnaphekdhaaDoor
open Go.RowKit
set_option linter.unusedSimpArgs false
set_option linter.unusedVariables false
set_option maxHeartbeats 2000000 in
set_option maxRecDepth 100000 in
theorem odd_calls (A : Option Addr) (c : Nat) (L : List (List UInt8)) (w : World) (hr : RdL w A L) (hl : L.length ≤ 1000) :
    Calls Tryd.prog 17 #[.slice A L.length c] w fun e W' => e = .returned (.bool (oddB L)) ∧ Below w.heap.size w W' := by
  have H0 := Lib.hid (show Below w.heap.size w w ∧ ((L.take 0).any fun b => b.length != (L.getD 0 []).length || decide (4096 < b.length)) = false from ⟨Below.refl _ _, rfl⟩)
  have Hr := Lib.hid hr
  have HR := Lib.hid (show oddB L = ((L.any fun b => b.length != (L.getD 0 []).length || decide (4096 < b.length)) || (L.length == 0 || (L.getD 0 []).length == 0)) from rfl)
  generalize oddB L = R at *
  clear hr
  go_enter Tryd.func17, Tryd.ntmps17
  go_wp2_with fail
  go_loopw [3] (fun i wr => ∃ k : Nat, k ≤ L.length ∧ i = .int .i64 k ∧ Hid (Below w.heap.size w wr ∧ ((L.take k).any fun b => b.length != (L.getD 0 []).length || decide (4096 < b.length)) = false)) (fun i _ => L.length - (intOf i).toNat)
  case atStart => exact ⟨0, by omega, rfl, H0⟩
  case round =>
    clear H0
    rename World => wr
    obtain ⟨k, hk, rfl, H⟩ := hrel
    by_cases hlt : k < L.length
    · obtain ⟨ad, Aj, cj, hA, hat⟩ := Hr.out.at k hlt
      subst hA
      obtain ⟨ad2, A0, c0, hA2, hat0⟩ := Hr.out.at 0 (by omega)
      cases hA2
      have h1 := (hat wr H.out.1).1
      have h2 : wr.cell? ad = some (.slice A0 L[0].length c0) := (hat0 wr H.out.1).1
      have h1d := (hat wr.drew H.out.1.drew).1
      have h2d : wr.drew.cell? ad = some (.slice A0 L[0].length c0) := (hat0 wr.drew H.out.1.drew).1
      have hz' : 0 < L.length := by omega
      have e0 : L.getD 0 [] = L[0] := getD_at (by omega)
      have hst : L.take (k + 1) = L.take k ++ [L[k]] := List.take_succ_eq_append_getElem hlt
      have hany : (L[k].length != L[0].length || decide (4096 < L[k].length)) = true → R = true := fun h => by
        rw [HR.out, Bool.or_eq_true]
        refine .inl (List.any_eq_true.2 ⟨L[k], List.getElem_mem hlt, ?_⟩)
        rw [e0]; exact h
      have hgo : (L[k].length != L[0].length || decide (4096 < L[k].length)) = false → ((L.take (k + 1)).any fun b => b.length != (L.getD 0 []).length || decide (4096 < b.length)) = false := fun h => by
        rw [hst, List.any_append, H.out.2, Bool.false_or]
        simp only [List.any_cons, List.any_nil, Bool.or_false]
        rw [e0]; exact h
      have Hany := Lib.hid hany
      have Hgo := Lib.hid hgo
      have hz : (0 : Int) < (L.length : Int) := by omega
      clear hat hat0 hst hany hgo e0
      generalize L[k].length = x at *
      generalize L[0].length = y at *
      by_cases hxy : x = y
      · subst hxy
        by_cases hbig : 4096 < x
        · have hR : R = true := Hany.out (by simp [hbig])
          subst hR
          have hb2 : (4096 : Int) < (x : Int) := by omega
          go_wp2_with fail
          go_region
          all_goals
            go_wp2_with fail
            go_ret
            exact ⟨rfl, by first | exact H.out.1.drew | exact H.out.1⟩
        · have hb2 : ¬ (4096 : Int) < (x : Int) := by omega
          have HN := Lib.hid (And.intro H.out.1 (Hgo.out (by simp [hbig])))
          go_wp2_with fail
          go_region
          all_goals
            go_wp2_with fail
            exact ⟨⟨k + 1, by omega, by go_num, Lib.hid (by first | exact ⟨HN.out.1.drew, HN.out.2⟩ | exact HN.out)⟩, by simp [intOf]; omega⟩
      · have hR : R = true := Hany.out (by simp [hxy])
        subst hR
        have hn : ((x : Int) != (y : Int)) = true := by simpa using (show ¬ (x : Int) = (y : Int) by omega)
        go_wp2_with fail
        go_region
        all_goals
          go_wp2_with fail
          go_ret
          exact ⟨rfl, by first | exact H.out.1.drew | exact H.out.1⟩
    · obtain rfl : k = L.length := by omega
      have hR := HR.out
      rw [List.take_length] at H
      rw [H.out.2, Bool.false_or] at hR
      by_cases hl0 : L.length = 0
      · have hR2 : R = true := by rw [hR, hl0]; rfl
        subst hR2
        rw [hl0]
        clear hR
        have HB := Lib.hid H.out.1
        go_wp2_with fail
        go_ret
        exact ⟨rfl, HB.out⟩
      · obtain ⟨ad2, A0, c0, hA2, hat0⟩ := Hr.out.at 0 (by omega)
        subst hA2
        have h2 : wr.cell? ad2 = some (.slice A0 L[0].length c0) := (hat0 wr H.out.1).1
        have hz' : 0 < L.length := by omega
        have e0 : L.getD 0 [] = L[0] := getD_at (by omega)
        have hz : (0 : Int) < (L.length : Int) := by omega
        have hz2 : ((L.length : Int) == 0) = false := by simpa using (show ¬ (L.length : Int) = 0 by omega)
        have hR2 : R = (L[0].length == 0) := by
          rw [hR, e0, show (L.length == 0) = false by simpa using hl0, Bool.false_or]
        have HB := Lib.hid H.out.1
        clear hat0 hR e0 H
        generalize L[0].length = y at *
        by_cases hy : y = 0
        · subst hy
          subst hR2
          go_wp2_with fail
          go_ret
          exact ⟨rfl, HB.out⟩
        · have hy2 : ((y : Int) == 0) = false := by simpa using (show ¬ (y : Int) = 0 by omega)
          have hR3 : R = false := by rw [hR2]; simpa using hy
          subst hR3
          clear hR2
          go_wp2_with fail
          go_ret
          exact ⟨rfl, HB.out⟩
end Go.Proofs.YtfajgnaphekdhaaDoor
