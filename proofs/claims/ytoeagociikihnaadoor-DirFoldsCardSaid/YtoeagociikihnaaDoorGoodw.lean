/- Walks of dir.Good and bedrockref.Good: which names are good. -/
import Derived.Test.YtoeagociikihnaaDoorIany
namespace Go.Proofs.YtoeagociikihnaaDoor
open Go.RowKit
set_option linter.unusedSimpArgs false
set_option linter.unusedVariables false
def goodB (s : ByteArray) : Bool := !s.toList.isEmpty && decide (s.size ≤ 40) && !s.toList == [46] && !s.toList == [46, 46] && !sepB s.data.toList
set_option maxHeartbeats 4000000 in
set_option maxRecDepth 1000000 in
theorem good_calls (s : ByteArray) (w : World) :
    Calls Tryd.prog 7 #[.string s] w fun e w' => e = .returned (.bool (goodB s)) ∧ Below w.heap.size w w' := by
  go_enter Tryd.func7, Tryd.ntmps7
  go_wp2_with fail
  · go_ret
    exact ⟨by rw [show goodB s = false by simp [goodB, *]]; rfl, Below.refl _ _⟩
  · go_ret
    exact ⟨by rw [show goodB s = false by simp [goodB, *]]; rfl, Below.refl _ _⟩
  · go_ret
    exact ⟨by rw [show goodB s = false by simp [goodB, *]]; rfl, Below.refl _ _⟩
  · have h40 : s.size ≤ 40 := by omega
    refine (containsAny_calls s (by omega) w).mono ?_
    rintro e w' ⟨rfl, hb⟩
    have Hb := Lib.hid hb
    clear hb
    have Hg := Lib.hid (show goodB s = !sepB s.data.toList by simp [goodB, *])
    generalize sepB s.data.toList = sb at *
    go_wp2_with fail
    all_goals
      go_ret
      refine ⟨?_, Hb.out⟩
      rw [Hg.out]
      first | rfl | (simp [*]; done)
  · have h40 : ¬ s.size ≤ 40 := by omega
    go_ret
    exact ⟨by rw [show goodB s = false by simp [goodB, h40]]; rfl, Below.refl _ _⟩
set_option maxHeartbeats 4000000 in
set_option maxRecDepth 1000000 in
theorem refGood_calls (s : ByteArray) (w : World) (hs : s.size ≤ 140737488355320) :
    Calls Tryd.prog 8 #[.string s] w fun e w' => e = .returned (.bool (goodB s)) ∧ Below w.heap.size w w' := by
  go_enter Tryd.func8, Tryd.ntmps8
  go_wp2_with fail
  go_loopw [3] (fun i wr => ∃ k : Nat, k ≤ s.size ∧ i = .int .i64 k ∧ Hid (Below w.heap.size w wr ∧ sepB (s.data.toList.drop k) = sepB s.data.toList)) (fun i _ => s.size - (intOf i).toNat)
  case atStart => exact ⟨0, by omega, rfl, Lib.hid ⟨Below.refl _ _, rfl⟩⟩
  case round =>
    obtain ⟨k, hk, rfl, H⟩ := hrel
    by_cases hlt : k < s.size
    · have hdrop : ∃ x t, s.data.toList.drop k = x :: t ∧ s[k]'hlt = x := by
        refine ⟨_, _, List.drop_eq_getElem_cons (show k < s.data.toList.length from hlt), ?_⟩
        rfl
      obtain ⟨x, t, hxt, hx⟩ := hdrop
      have hq := H.out.2
      rw [hxt, sepB_cons] at hq
      have hdt : s.data.toList.drop (k + 1) = t := by rw [← List.drop_drop, hxt]; rfl
      have hxl := x.toNat_lt
      by_cases h47 : x.toNat = 47
      · have hg : goodB s = false := by
          rw [decide_eq_true h47] at hq
          unfold goodB
          rw [← hq]
          simp
        have hI : (x.toNat : Int) = 47 := by omega
        have HB := Lib.hid H.out.1
        clear H hq
        go_wp2_with fail
        all_goals
          go_ret
          exact ⟨by rw [hg]; rfl, HB.out⟩
      · by_cases h0 : x.toNat = 0
        · have hg : goodB s = false := by
            rw [decide_eq_true h0] at hq
            unfold goodB
            rw [← hq]
            simp
          have hI : (x.toNat : Int) = 0 := by omega
          have HB := Lib.hid H.out.1
          clear H hq
          go_wp2_with fail
          all_goals
            go_ret
            exact ⟨by rw [hg]; rfl, HB.out⟩
        · have hI : ¬ (x.toNat : Int) = 47 := by omega
          have hJ : ¬ (x.toNat : Int) = 0 := by omega
          have hIb : ((x.toNat : Int) == 47) = false := by simpa using hI
          have hJb : ((x.toNat : Int) == 0) = false := by simpa using hJ
          have HH := Lib.hid (show Below w.heap.size w wr ∧ sepB (s.data.toList.drop (k + 1)) = sepB s.data.toList from ⟨H.out.1, by rw [hdt, ← hq, decide_eq_false h47, decide_eq_false h0]; rfl⟩)
          clear H hq
          go_wp2_with fail
          exact ⟨⟨k + 1, by omega, by go_num, HH⟩, by simp [intOf]; omega⟩
    · obtain rfl : k = s.size := by omega
      have hsep : sepB s.data.toList = false := by
        rw [← H.out.2, List.drop_of_length_le (show s.data.toList.length ≤ s.size from Nat.le_refl _)]
        rfl
      have HB := Lib.hid H.out.1
      clear H
      have hemp : s.toList.isEmpty = decide (s.size = 0) := by
        rw [ByteArray.toList_eq]
        have : s.size = s.data.toList.length := rfl
        rw [this]
        cases s.data.toList <;> simp
      go_wp2_with fail
      all_goals
        go_ret
        refine ⟨?_, HB.out⟩
        refine congrArg (fun b => Ending.returned (Value.bool b)) ?_
        unfold goodB
        rw [hsep, hemp]
        first
          | (have h1 : ¬ s.size = 0 := by omega
             have h2 : s.size ≤ 40 := by omega
             simp [h1, h2, *]; done)
          | (have h2 : ¬ s.size ≤ 40 := by omega
             simp [h2]; done)
          | (have h1 : s.size = 0 := by omega
             simp [h1]; done)
end Go.Proofs.YtoeagociikihnaaDoor
