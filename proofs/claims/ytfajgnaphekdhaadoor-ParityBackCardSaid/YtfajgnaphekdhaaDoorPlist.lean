/- A slice of slices of bytes, as it is read; the walks of parity.sized, bedrockref.size, bedrockref.empty. Conditions: the slices read as the lists. -/
import Derived.Test.YtfajgnaphekdhaaDoorGfw
import Derived.Test.YtfajgnaphekdhaaDoorTell
namespace Go.Proofs.YtfajgnaphekdhaaDoor
open Go.RowKit
set_option linter.unusedSimpArgs false
set_option linter.unusedVariables false
/-- the slice value (A, n, _) of slices reads as the lists -/
def RdL (w : World) (A : Option Addr) (ls : List (List UInt8)) : Prop := ∀ j (hj : j < ls.length), ∃ ad Aj cj, A = some ad ∧ w.cell? (ad.add j) = some (.slice Aj ls[j].length cj) ∧ Rd w Aj ls[j] ∧ ls[j].length ≤ cj
theorem RdL.below {w w' : World} {A : Option Addr} {ls : List (List UInt8)} (h : RdL w A ls) (hb : Below w.heap.size w w') : RdL w' A ls := fun j hj => by
  obtain ⟨ad, Aj, cj, h1, h2, h3, h4⟩ := h j hj
  refine ⟨ad, Aj, cj, h1, ?_, h3.below hb, h4⟩
  rw [hb.cell (by
    show (ad.add j).block < w.heap.size
    rcases Nat.lt_or_ge (ad.add j).block w.heap.size with h' | h'
    · exact h'
    · simp [World.cell?, Array.getElem?_eq_none h'] at h2)]
  exact h2
theorem infoS : ∃ i, Tryd.prog.info? 33 = some i ∧ i.size = 1 := by
  have h : (Tryd.prog.info? 33).map (·.size) = some 1 := by kernel_rfl
  cases h' : Tryd.prog.info? 33 with
  | none => rw [h'] at h; cases h
  | some i => rw [h'] at h; exact ⟨i, rfl, by simpa using h⟩
/-- how long the pieces are that are not empty, behind some that are n long; none: they are not alike -/
def szL : Nat → List (List UInt8) → Option Nat
  | n, [] => some n
  | n, b :: r => if 0 < n ∧ 0 < b.length ∧ b.length ≠ n then none else szL (max n b.length) r
def szOk (n : Nat) (d : Int) : Bool := decide (0 < n) && decide (n ≤ 4096) && decide (1 ≤ d) && decide (d ≤ 16)
def sizedR (ls : List (List UInt8)) (d : Int) : Int × Bool := match szL 0 ls with
  | none => (0, false)
  | some n => (n, szOk n d)
set_option maxHeartbeats 1000000 in
set_option maxRecDepth 100000 in
theorem sized_calls (A : Option Addr) (c : Nat) (ls : List (List UInt8)) (d : Int) (w : World) (hr : RdL w A ls) (hs : ∀ b ∈ ls, b.length ≤ 140737488355328) (hl : ls.length ≤ 1000) :
    Calls Tryd.prog 32 #[.slice A ls.length c, .int .i64 d] w fun e w' => e = .returned (.tuple #[.int .i64 (sizedR ls d).1, .bool (sizedR ls d).2]) ∧ Below w.heap.size w w' := by
  obtain ⟨iS, hiS, hsz⟩ := infoS
  unfold sizedR
  generalize hT : szL 0 ls = T
  have hq0 := Lib.hid (And.intro (Below.refl w.heap.size w) (show szL 0 (ls.drop 0) = T from hT))
  have Hr := Lib.hid hr
  have Hs := Lib.hid hs
  clear hT hr hs
  go_enter Tryd.func32, Tryd.ntmps32
  go_wp2_with fail
  go_loopw [6, 11] (fun v i wr => ∃ k n : Nat, k ≤ ls.length ∧ n ≤ 140737488355328 ∧ v = .int .i64 n ∧ i = .int .i64 k ∧ Hid (Below w.heap.size w wr ∧ szL n (ls.drop k) = T)) (fun _ i _ => ls.length - (intOf i).toNat)
  case atStart => exact ⟨0, 0, by omega, by omega, rfl, rfl, hq0⟩
  case round =>
    obtain ⟨k, n, hk, hn, rfl, rfl, H⟩ := hrel
    by_cases hlt : k < ls.length
    · obtain ⟨ad, Aj, cj, hA, h1, _, _⟩ := (Hr.out.below H.out.1) k hlt
      subst hA
      have hdr : ls.drop k = ls[k] :: ls.drop (k + 1) := List.drop_eq_getElem_cons hlt
      have hT := H.out.2
      have hm := Hs.out ls[k] (List.getElem_mem hlt)
      rw [hdr] at hT
      simp only [szL] at hT
      have HB := Lib.hid H.out.1
      clear H hdr
      generalize ls[k].length = m at *
      by_cases hbad : 0 < n ∧ 0 < m ∧ m ≠ n
      · have hTT : none = T := by rw [← hT, if_pos hbad]
        subst hTT
        obtain ⟨b1, b2, b3⟩ := hbad
        have b4 : ((m : Int) == (n : Int)) = false := by simpa using (show ¬ (m : Int) = (n : Int) by omega)
        clear hT
        go_wp2_with fail
        go_ret2
        exact ⟨rfl, HB.out⟩
      · rw [if_neg hbad] at hT
        have HT := Lib.hid (And.intro HB.out hT)
        have hmx : max (n : Int) (m : Int) = ((max n m : Nat) : Int) := by omega
        clear hT
        by_cases c1 : 0 < n
        · by_cases c2 : 0 < m
          · have c3 : m = n := by omega
            subst c3
            go_wp2_with fail
            rw [Nat.max_self] at HT
            exact ⟨⟨k + 1, m, by omega, by omega, rfl, by go_num, HT⟩, by simp [intOf]; omega⟩
          · have c3 : m = 0 := by omega
            subst c3
            go_wp2_with fail
            rw [Nat.max_zero] at HT
            exact ⟨⟨k + 1, n, by omega, by omega, rfl, by go_num, HT⟩, by simp [intOf]; omega⟩
        · have c3 : n = 0 := by omega
          subst c3
          go_wp2_with fail
          rw [Nat.zero_max] at HT
          exact ⟨⟨k + 1, m, by omega, by omega, by congr 1; split <;> omega, by go_num, HT⟩, by simp [intOf]; omega⟩
    · obtain rfl : k = ls.length := by omega
      have hTT : some n = T := by rw [← H.out.2, List.drop_length]; rfl
      subst hTT
      have HB := Lib.hid H.out.1
      clear H
      go_wp2_with fail
      all_goals
        go_ret2
        refine ⟨?_, HB.out⟩
        first
          | (rw [show szOk n d = decide (d ≤ 16) by
              unfold szOk
              rw [decide_eq_true (show 0 < n by omega), decide_eq_true (show n ≤ 4096 by omega), decide_eq_true (show 1 ≤ d by omega)]
              rfl]
             rfl)
          | (rw [show szOk n d = false by
              unfold szOk
              simp only [Bool.and_eq_false_iff, decide_eq_false_iff_not]
              omega]
             rfl)
/-- the reference's way to the same -/
def rzL : Nat → List (List UInt8) → Option Nat
  | n, [] => some n
  | n, b :: r => if b.length = 0 then rzL n r else if n = 0 then rzL b.length r else if n = b.length then rzL n r else none
theorem rzL_szL : ∀ (ls : List (List UInt8)) (n : Nat), rzL n ls = szL n ls
  | [], n => rfl
  | b :: r, n => by
    simp only [rzL, szL]
    by_cases h0 : b.length = 0
    · rw [if_pos h0, if_neg (by omega), h0, Nat.max_zero, rzL_szL r n]
    · rw [if_neg h0]
      by_cases h1 : n = 0
      · rw [if_pos h1, if_neg (by omega), h1, Nat.zero_max, rzL_szL r]
      · rw [if_neg h1]
        by_cases h2 : n = b.length
        · rw [if_pos h2, if_neg (by omega), ← h2, Nat.max_self, rzL_szL r]
        · rw [if_neg h2, if_pos (by omega)]
def refSize (ls : List (List UInt8)) (d : Int) : Int := if (sizedR ls d).2 then (sizedR ls d).1 else -1
theorem szOk_true {n : Nat} {d : Int} (h : szOk n d = true) : 0 < n ∧ n ≤ 4096 ∧ 1 ≤ d ∧ d ≤ 16 := by
  unfold szOk at h
  simp only [Bool.and_eq_true, decide_eq_true_eq] at h
  omega
set_option maxHeartbeats 1000000 in
set_option maxRecDepth 100000 in
theorem refSize_calls (A : Option Addr) (c : Nat) (ls : List (List UInt8)) (d : Int) (w : World) (hr : RdL w A ls) (hs : ∀ b ∈ ls, b.length ≤ 140737488355328) (hl : ls.length ≤ 1000) :
    Calls Tryd.prog 23 #[.slice A ls.length c, .int .i64 d] w fun e w' => e = .returned (.int .i64 (refSize ls d)) ∧ Below w.heap.size w w' := by
  obtain ⟨iS, hiS, hsz⟩ := infoS
  have hR : refSize ls d = match rzL 0 ls with
      | none => -1
      | some n => if szOk n d then (n : Int) else -1 := by
    unfold refSize sizedR
    rw [rzL_szL]
    cases szL 0 ls <;> rfl
  generalize hT : rzL 0 ls = T at *
  generalize refSize ls d = R at *
  have HR := Lib.hid hR
  clear hR
  have hq0 := Lib.hid (And.intro (Below.refl w.heap.size w) (show rzL 0 (ls.drop 0) = T from hT))
  have Hr := Lib.hid hr
  have Hs := Lib.hid hs
  clear hT hr hs
  go_enter Tryd.func23, Tryd.ntmps23
  go_wp2_with fail
  go_loopw [5, 6] (fun v i wr => ∃ k n : Nat, k ≤ ls.length ∧ n ≤ 140737488355328 ∧ v = .int .i64 n ∧ i = .int .i64 k ∧ Hid (Below w.heap.size w wr ∧ rzL n (ls.drop k) = T)) (fun _ i _ => ls.length - (intOf i).toNat)
  case atStart => exact ⟨0, 0, by omega, by omega, rfl, rfl, hq0⟩
  case round =>
    obtain ⟨k, n, hk, hn, rfl, rfl, H⟩ := hrel
    by_cases hlt : k < ls.length
    · obtain ⟨ad, Aj, cj, hA, h1, _, _⟩ := (Hr.out.below H.out.1) k hlt
      subst hA
      have hdr : ls.drop k = ls[k] :: ls.drop (k + 1) := List.drop_eq_getElem_cons hlt
      have hT := H.out.2
      have hm := Hs.out ls[k] (List.getElem_mem hlt)
      rw [hdr] at hT
      simp only [rzL] at hT
      have HB := Lib.hid H.out.1
      clear H hdr
      generalize ls[k].length = m at *
      by_cases c0 : m = 0
      · rw [if_pos c0] at hT
        have HT := Lib.hid (And.intro HB.out hT)
        subst c0
        clear hT
        go_wp2_with fail
        exact ⟨⟨k + 1, n, by omega, by omega, rfl, by go_num, HT⟩, by simp [intOf]; omega⟩
      · rw [if_neg c0] at hT
        have b0 : ((m : Int) == 0) = false := by simpa using (show ¬ (m : Int) = 0 by omega)
        by_cases c1 : n = 0
        · rw [if_pos c1] at hT
          have HT := Lib.hid (And.intro HB.out hT)
          subst c1
          clear hT
          go_wp2_with fail
          exact ⟨⟨k + 1, m, by omega, by omega, rfl, by go_num, HT⟩, by simp [intOf]; omega⟩
        · rw [if_neg c1] at hT
          have b1 : ((n : Int) == 0) = false := by simpa using (show ¬ (n : Int) = 0 by omega)
          by_cases c2 : n = m
          · rw [if_pos c2] at hT
            have HT := Lib.hid (And.intro HB.out hT)
            subst c2
            clear hT
            go_wp2_with fail
            exact ⟨⟨k + 1, n, by omega, by omega, rfl, by go_num, HT⟩, by simp [intOf]; omega⟩
          · rw [if_neg c2] at hT
            have b2 : ((n : Int) == (m : Int)) = false := by simpa using (show ¬ (n : Int) = (m : Int) by omega)
            subst hT
            have hRR := HR.out
            simp only at hRR
            subst hRR
            go_wp2_with fail
            go_ret
            exact ⟨rfl, HB.out⟩
    · obtain rfl : k = ls.length := by omega
      have hTT : some n = T := by rw [← H.out.2, List.drop_length]; rfl
      subst hTT
      have HB := Lib.hid H.out.1
      clear H
      cases he : szOk n d
      · have hne : ¬ (0 < n ∧ n ≤ 4096 ∧ 1 ≤ d ∧ d ≤ 16) := by
          rintro ⟨h1, h2, h3, h4⟩
          unfold szOk at he
          rw [decide_eq_true h1, decide_eq_true h2, decide_eq_true h3, decide_eq_true h4] at he
          cases he
        have hRR := HR.out
        simp only [he, Bool.false_eq_true, if_false] at hRR
        subst hRR
        clear he hq0
        go_wp2_with fail
        all_goals
          first
            | (exfalso; omega)
            | (go_ret; exact ⟨rfl, HB.out⟩)
      · have hok := szOk_true he
        obtain ⟨h1, h2, h3, h4⟩ := hok
        have hRR := HR.out
        simp only [he, if_true] at hRR
        subst hRR
        clear he hq0
        go_wp2_with fail
        all_goals
          first
            | (exfalso; omega)
            | (go_ret; exact ⟨rfl, HB.out⟩)
def emptyN : List (List UInt8) → Nat
  | [] => 0
  | b :: r => (if b.length = 0 then 1 else 0) + emptyN r
theorem emptyN_le (ls : List (List UInt8)) : emptyN ls ≤ ls.length := by
  induction ls with
  | nil => exact Nat.le_refl _
  | cons b r ih => simp only [emptyN, List.length_cons]; split <;> omega
set_option maxHeartbeats 1000000 in
theorem empty_calls (A : Option Addr) (c : Nat) (ls : List (List UInt8)) (w : World) (hr : RdL w A ls) (hl : ls.length ≤ 1000) :
    Calls Tryd.prog 24 #[.slice A ls.length c] w fun e w' => e = .returned (.int .i64 (emptyN ls : Nat)) ∧ Below w.heap.size w w' := by
  obtain ⟨iS, hiS, hsz⟩ := infoS
  generalize hT : emptyN ls = T
  have hq0 := Lib.hid (And.intro (Below.refl w.heap.size w) (show 0 + emptyN (ls.drop 0) = T by rw [← hT]; simp))
  have Hr := Lib.hid hr
  clear hT hr
  go_enter Tryd.func24, Tryd.ntmps24
  go_wp2_with fail
  go_loopw [3, 4] (fun v i wr => ∃ k n : Nat, k ≤ ls.length ∧ n ≤ k ∧ v = .int .i64 n ∧ i = .int .i64 k ∧ Hid (Below w.heap.size w wr ∧ n + emptyN (ls.drop k) = T)) (fun _ i _ => ls.length - (intOf i).toNat)
  case atStart => exact ⟨0, 0, by omega, by omega, rfl, rfl, hq0⟩
  case round =>
    obtain ⟨k, n, hk, hn, rfl, rfl, H⟩ := hrel
    by_cases hlt : k < ls.length
    · obtain ⟨ad, Aj, cj, hA, h1, _, _⟩ := (Hr.out.below H.out.1) k hlt
      subst hA
      have hdr : ls.drop k = ls[k] :: ls.drop (k + 1) := List.drop_eq_getElem_cons hlt
      have hT := H.out.2
      rw [hdr] at hT
      simp only [emptyN] at hT
      have HB := Lib.hid H.out.1
      clear H hdr
      generalize ls[k].length = m at *
      by_cases c0 : m = 0
      · rw [if_pos c0] at hT
        have HT := Lib.hid (And.intro HB.out (show (n + 1) + emptyN (ls.drop (k + 1)) = T by omega))
        subst c0
        clear hT
        go_wp2_with fail
        exact ⟨⟨k + 1, n + 1, by omega, by omega, by go_num, by go_num, HT⟩, by simp [intOf]; omega⟩
      · rw [if_neg c0] at hT
        have b0 : ((m : Int) == 0) = false := by simpa using (show ¬ (m : Int) = 0 by omega)
        have HT := Lib.hid (And.intro HB.out (show n + emptyN (ls.drop (k + 1)) = T by omega))
        clear hT
        go_wp2_with fail
        exact ⟨⟨k + 1, n, by omega, by omega, rfl, by go_num, HT⟩, by simp [intOf]; omega⟩
    · obtain rfl : k = ls.length := by omega
      have hTT : n = T := by rw [← H.out.2, List.drop_length]; rfl
      subst hTT
      go_wp2_with fail
      go_ret
      exact ⟨rfl, H.out.1⟩
end Go.Proofs.YtfajgnaphekdhaaDoor
