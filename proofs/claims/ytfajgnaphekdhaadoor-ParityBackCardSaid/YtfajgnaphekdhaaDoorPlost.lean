/- The walk of parity.lost: which pieces are empty, as a slice of the call's own. -/
import Derived.Test.YtfajgnaphekdhaaDoorPlist
namespace Go.Proofs.YtfajgnaphekdhaaDoor
open Go.RowKit
set_option linter.unusedSimpArgs false
set_option linter.unusedVariables false
def lostL : Nat → List (List UInt8) → List Nat
  | _, [] => []
  | i, b :: r => if b.length = 0 then i :: lostL (i + 1) r else lostL (i + 1) r
def nVals (l : List Nat) : List Value := l.map fun i : Nat => Value.int .i64 (i : Int)
theorem nVals_len (l : List Nat) : (nVals l).length = l.length := by simp [nVals]
theorem info3 : (Tryd.prog.info? 3).map (fun i => (i.zero, i.size, i.bytes)) = some (some (.int .i64 0), 1, 8) := by kernel_rfl
/-- a slice of the call's own that reads as the numbers; nil where there are none -/
def OwnN (w : World) (B : Nat) (v : Value) (l : List Nat) : Prop := w.ownsRow B 3 1 v l.length (nVals l) ∧ (v = .slice none 0 0 ↔ l = [])
theorem own_pushN {w : World} {B : Nat} {v : Value} {l : List Nat} (h : OwnN w B v l) (hB : B ≤ w.heap.size) (i : Nat) (hl : l.length ≤ 1000) :
    ∃ v' W', (Builtin.append_ #[55, 55] 55 #[v, .slice (some ⟨w.heap.size, 0, none⟩) 1 1]).run Tryd.prog (w.alloc (.cells #[.int .i64 (i : Int)] 3)) = .ok v' W' ∧ OwnN W' B v' (l ++ [i]) ∧ Below B w W' := by
  obtain ⟨i3, hi, hz0, hz1, hz2⟩ := info_parts info3
  have hown : (w.alloc (.cells #[.int .i64 (i : Int)] 3)).ownsRow B 3 1 v l.length (nVals l) := World.ownsRow.alloc h.1 _
  obtain ⟨v', w', h1, h2, h3, h4⟩ := run_append_own (P := Tryd.prog) (w.alloc (.cells #[.int .i64 (i : Int)] 3)) B 55 55 3 i3 _ 1 8 Tryd.underlying55 hi hz0 hz1 hz2 rfl (by omega) v l.length (nVals l) hown ⟨w.heap.size, 0, none⟩ 1 1 [.int .i64 (i : Int)] rfl (fun j u hu => by
    match j, hu with
    | 0, hu => cases hu; rw [addr_add0, cell_of_row _ _ _ _ _ _ (heap_alloc_new w _)]; rfl) (fun u hu => by simp at hu; subst hu; rfl) (by unfold maxLen; omega) (by omega) (by simp; omega)
  refine ⟨v', w', h1, ⟨?_, ?_⟩, ((Below.refl B w).alloc hB _).grown h3 (by simp; omega) fun k hk => (World.ownsRow.lt hown k hk).1⟩
  · rw [List.length_append, show nVals (l ++ [i]) = nVals l ++ [.int .i64 (i : Int)] by simp [nVals]]
    exact h2
  · exact ⟨fun e => absurd (h4.1 e).2 (by omega), fun e => absurd e (by simp)⟩
set_option maxHeartbeats 1000000 in
theorem lost_calls (A : Option Addr) (c : Nat) (ls : List (List UInt8)) (w : World) (hr : RdL w A ls) (hl : ls.length ≤ 1000) :
    Calls Tryd.prog 33 #[.slice A ls.length c] w fun e w' => ∃ v, e = .returned v ∧ OwnN w' w.heap.size v (lostL 0 ls) ∧ Below w.heap.size w w' := by
  obtain ⟨iS, hiS, hsz⟩ := infoS
  generalize hT : lostL 0 ls = T
  have hq0 := Lib.hid (show OwnN w w.heap.size (.slice none 0 0) [] ∧ Below w.heap.size w w ∧ [] ++ lostL 0 (ls.drop 0) = T from ⟨⟨World.ownsRow_nil _ _ _ _, by simp⟩, Below.refl _ _, hT⟩)
  have Hr := Lib.hid hr
  clear hT hr
  go_enter Tryd.func33, Tryd.ntmps33
  go_wp2_with fail
  go_loopw [3, 8] (fun v i wr => ∃ (k : Nat) (l : List Nat), k ≤ ls.length ∧ l.length ≤ k ∧ i = .int .i64 k ∧ Hid (OwnN wr w.heap.size v l ∧ Below w.heap.size w wr ∧ l ++ lostL k (ls.drop k) = T)) (fun _ i _ => ls.length - (intOf i).toNat)
  case atStart => exact ⟨0, [], by omega, by simp, rfl, hq0⟩
  case round =>
    obtain ⟨k, l, hk, hlk, rfl, H⟩ := hrel
    by_cases hlt : k < ls.length
    · obtain ⟨ad, Aj, cj, hA, h1, _, _⟩ := (Hr.out.below H.out.2.1) k hlt
      subst hA
      have hdr : ls.drop k = ls[k] :: ls.drop (k + 1) := List.drop_eq_getElem_cons hlt
      have hT := H.out.2.2
      rw [hdr] at hT
      simp only [lostL] at hT
      clear hdr
      generalize ls[k].length = m at *
      by_cases c0 : m = 0
      · rw [if_pos c0] at hT
        subst c0
        obtain ⟨v3, W3, ha1, ha2, ha3⟩ := own_pushN H.out.1 H.out.2.1.size k (by omega)
        have HI := Lib.hid (show OwnN W3 w.heap.size v3 (l ++ [k]) ∧ Below w.heap.size w W3 ∧ (l ++ [k]) ++ lostL (k + 1) (ls.drop (k + 1)) = T from ⟨ha2, H.out.2.1.trans ha3, by rw [← hT]; simp⟩)
        have Ha1 := Lib.hid ha1
        clear hT ha1 ha2 ha3 H
        go_wp2_with (at_builtin; go_must (refine wpList_append_run rfl (.tmp 16) (.tmp 18) 55 55 rfl rfl rfl Ha1.out ?_))
        exact ⟨⟨k + 1, l ++ [k], by omega, by simp; omega, by go_num, HI⟩, by simp [intOf]; omega⟩
      · rw [if_neg c0] at hT
        have b0 : ((m : Int) == 0) = false := by simpa using (show ¬ (m : Int) = 0 by omega)
        have HI := Lib.hid (show OwnN wr w.heap.size _ l ∧ Below w.heap.size w wr ∧ l ++ lostL (k + 1) (ls.drop (k + 1)) = T from ⟨H.out.1, H.out.2.1, hT⟩)
        clear hT H
        go_wp2_with fail
        exact ⟨⟨k + 1, l, by omega, by omega, by go_num, HI⟩, by simp [intOf]; omega⟩
    · obtain rfl : k = ls.length := by omega
      have hTT : l = T := by rw [← H.out.2.2, List.drop_length]; simp [lostL]
      subst hTT
      go_wp2_with fail
      go_ret
      exact ⟨_, rfl, H.out.1, H.out.2.1⟩
end Go.Proofs.YtfajgnaphekdhaaDoor
