/- The walk of the law ParityMakes: it returns true and leaves what was there. Condition: the library's variable errors.errorType holds its handle; the slice of strings reads as texts of at most 2^47 bytes each. -/
import Derived.Test.YtfajgnaphekdhaaDoorPlike
import Derived.Test.YtfajgnaphekdhaaDoorRmake
namespace Go.Proofs.YtfajgnaphekdhaaDoor
open Go.RowKit
set_option linter.unusedSimpArgs false
set_option linter.unusedVariables false
theorem PcV.rdA {w W wr : World} {va vb : Value} {ls : List (List UInt8)} {xa xb : List Value} (h : PcV w W va vb ls ls xa xb) {S : List Nat} (ht : Turned W wr S) (hS : ∀ g ∈ S, g ∈ xb.map blk) :
    ∃ A c, va = .slice A ls.length c ∧ RdL wr A ls ∧ (0 < ls.length → ∃ b off, A = some ⟨b, off, none⟩) := by
  have hU : ∀ g ∈ S, ∃ cur fr, W.heap[g]? = some (.cells cur 5 fr) := fun g hg => by
    obtain ⟨y, hy, rfl⟩ := List.mem_map.1 (hS g hg)
    obtain ⟨j, hj, rfl⟩ := List.getElem_of_mem hy
    exact (h.elB j hj (by have := h.lenB; omega)).row
  rcases h.ownA.2 with ⟨hv, hn⟩ | ⟨g, cap, cur, hv, hb, hc, hl, _⟩
  · have : ls = [] := List.length_eq_zero_iff.1 hn
    subst this
    exact ⟨none, 0, hv, fun j hj => by simp at hj, fun h => by simp at h⟩
  · refine ⟨_, cap, hv, fun j hj => ?_, fun _ => ⟨g, 0, rfl⟩⟩
    have hj' : j < xa.length := by have := h.lenA; omega
    have hna : blk xa[j] ∉ S := fun e => by
      obtain ⟨y, hy, e⟩ := List.mem_map.1 (hS _ e)
      exact h.ab _ (List.getElem_mem hj') y hy e.symm
    obtain ⟨g2, cap2, cur2, fr2, e1, e2, e3, e4⟩ := (h.elA j hj' hj).at_ (ht.block _ hna)
    refine ⟨_, _, cap2, rfl, ?_, e3, e4⟩
    have hk : some g = va.ownBlock := by rw [hv]; rfl
    rw [cell_block (ht.block _ (fun e => not_row h.ownA (hU _ e) (by rw [← hk]; unfold Addr.add; split <;> rfl)))]
    have := h.ownA.cells (g := g) hk.symm j (xa[j]) (by simp [hj'])
    rw [this, e1]
theorem PcV.rdB {w W : World} {va vb : Value} {ls : List (List UInt8)} {xa xb : List Value} (h : PcV w W va vb ls ls xa xb) :
    ∃ A c, vb = .slice A ls.length c ∧ RdL W A ls ∧ (0 < ls.length → ∃ b off, A = some ⟨b, off, none⟩) := by
  rcases h.ownB.2 with ⟨hv, hn⟩ | ⟨g, cap, cur, hv, hb, hc, hl, _⟩
  · have : ls = [] := List.length_eq_zero_iff.1 hn
    subst this
    exact ⟨none, 0, hv, fun j hj => by simp at hj, fun h => by simp at h⟩
  · refine ⟨_, cap, hv, fun j hj => ?_, fun _ => ⟨g, 0, rfl⟩⟩
    have hj' : j < xb.length := by have := h.lenB; omega
    obtain ⟨g2, e1, e2⟩ := h.elB j hj' hj
    refine ⟨_, _, ls[j].length + 9, rfl, ?_, Rd.block e2 ⟨List.replicate 9 77, by simp [lentL]⟩, by omega⟩
    have hk : some g = vb.ownBlock := by rw [hv]; rfl
    have := h.ownB.cells (g := g) hk.symm j (xb[j]) (by simp [hj'])
    rw [this, e1]
theorem RdLB.turned {B : Nat} {W2 W3 W4 : World} {A : Option Addr} {ls : List (List UInt8)} {S : List Nat} (h : RdLB B W2 A ls) (ht : Turned W2 W3 S) (hS : ∀ g ∈ S, g < B) (hb : Below W3.heap.size W3 W4) : RdL W4 A ls :=
  h W4 fun k h1 h2 => (hb.block k (by rw [ht.size]; exact h2)).trans (ht.block k (fun e => by have := hS k e; omega))
theorem Turned.below2 {w W W' : World} {S : List Nat} (h : Turned W W' S) (hb : Below w.heap.size w W) (hS : ∀ g ∈ S, w.heap.size ≤ g) : Below w.heap.size w W' :=
  ⟨h.os.trans hb.os, h.tape.trans hb.tape, h.output.trans hb.output, by rw [h.size]; exact hb.size, fun k hk => (h.block k (fun e => by have := hS k e; omega)).trans (hb.block k hk)⟩
set_option maxHeartbeats 2000000 in
set_option maxRecDepth 100000 in
theorem parityMakes_calls (A : Option Addr) (c : Nat) (ls : List (List UInt8)) (lv : Int) (w : World) (hg : ErrH w) (hr : RdS w A ls) (hs : ∀ b ∈ ls, b.length ≤ 140737488351232) (hl : ls.length ≤ 9223372036854775807) :
    Calls Tryd.prog 3 #[.slice A ls.length c, .int .i64 lv] w fun e w' => e = .returned (.bool true) ∧ Below w.heap.size w w' := by
  have HP := Lib.hid (pieces_calls A c ls w hr hs hl)
  have hs2 : ∀ b ∈ ls.take 100, b.length ≤ 140737488351232 := fun b hb => hs b (List.mem_of_mem_take hb)
  have hl2 : (ls.take 100).length ≤ 1000 := by simp; omega
  generalize hL : ls.take 100 = L at *
  have HM := Lib.hid (fun A c W hr hA hg => parityMake_calls A c L lv W hr hA hl2 (fun b hb => by have := hs2 b hb; omega) hg)
  have HR := Lib.hid (fun A c W hr => rmake_calls A c L lv W hr hl2 (fun b hb => by have := hs2 b hb; omega))
  have HE := Lib.hid (refMakeR_eq L lv)
  have hml : (makeR L lv).2.length ≤ 1000 := by
    unfold makeR
    split
    · simp
    · split
      · simp
      · simp; omega
  generalize refMakeR L lv = R' at *
  generalize makeR L lv = R at *
  obtain rfl : R' = R := HE.out
  have HG := Lib.hid hg
  have HS2 := Lib.hid hs2
  clear hr hs hg hs2 hL HE
  go_enter Tryd.func3, Tryd.ntmps3
  go_wp2_with fail
  refine (HP.out).mono ?_
  rintro e W1 ⟨va, vb, xa, xb, rfl, hpc⟩
  have HC := Lib.hid hpc
  obtain ⟨Ab, cb, eb, rb, hb⟩ := hpc.rdB
  subst eb
  have HM1 := Lib.hid (HM.out Ab cb W1 rb hb (HG.out.below HG.out.lt hpc.below))
  clear hpc rb hb
  go_wp2_with fail
  refine (HM1.out).mono ?_
  rintro e W2 ⟨A', c', rfl, hr', hb'⟩
  have HR' := Lib.hid hr'
  have HC2 := Lib.hid (HC.out.keep hb')
  clear hr' hb' HM1
  go_wp2_with fail
  refine (all_calls HC2.out HS2.out hl2).mono ?_
  rintro e W3 ⟨rfl, ht⟩
  have HT := Lib.hid ht
  obtain ⟨Aa, ca, ea, ra, ha⟩ := HC2.out.rdA ht (fun g hg => hg)
  subst ea
  have HR1 := Lib.hid (HR.out Aa ca W3 ra)
  have HB3 := Lib.hid (ht.below2 HC2.out.below (fun g hg => by
    obtain ⟨y, hy, rfl⟩ := List.mem_map.1 hg
    exact HC.out.ge y (by simp [hy])))
  clear ht ra ha
  go_wp2_with fail
  refine (HR1.out).mono ?_
  rintro e W4 ⟨A2, c2, rfl, hr2, hb4⟩
  have HB4 := Lib.hid (HB3.out.trans (hb4.mono HB3.out.size))
  have HK := Lib.hid (alike_calls A' A2 c' c2 R'.2 W4 (HR'.out.turned HT.out (fun g hg => by
    obtain ⟨y, hy, rfl⟩ := List.mem_map.1 hg
    exact HC.out.lt y (by simp [hy])) hb4) hr2 hml)
  clear hr2 hb4 HR1
  go_wp2_with fail
  refine (HK.out).mono ?_
  rintro e W5 ⟨rfl, hb5⟩
  have HB5 := Lib.hid (HB4.out.trans (hb5.mono HB4.out.size))
  clear hb5
  go_wp2_with fail
  go_ret
  exact ⟨rfl, HB5.out⟩
end Go.Proofs.YtfajgnaphekdhaaDoor
