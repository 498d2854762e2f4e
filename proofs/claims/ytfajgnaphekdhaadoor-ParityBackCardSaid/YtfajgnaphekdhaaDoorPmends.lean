/- The walk of the law ParityMends: it returns true and leaves what was there. Condition: the library's variable errors.errorType holds its handle; the slice of strings reads as texts of at most 2^47 bytes each. -/
import Derived.Test.YtfajgnaphekdhaaDoorPmakes
import Derived.Test.YtfajgnaphekdhaaDoorRmendc
namespace Go.Proofs.YtfajgnaphekdhaaDoor
open Go.RowKit
set_option linter.unusedSimpArgs false
set_option linter.unusedVariables false
theorem PcV.rdA2 {w W wr : World} {va vb : Value} {ls : List (List UInt8)} {xa xb : List Value} (h : PcV w W va vb ls ls xa xb) {S : List Nat} (ht : Turned W wr S) (hS : ∀ g ∈ S, g ∈ xb.map blk) :
    ∃ A c, va = .slice A ls.length c ∧ ls.length ≤ c ∧ RdL wr A ls ∧ (0 < ls.length → ∃ b off, A = some ⟨b, off, none⟩) := by
  have hU : ∀ g ∈ S, ∃ cur fr, W.heap[g]? = some (.cells cur 5 fr) := fun g hg => by
    obtain ⟨y, hy, rfl⟩ := List.mem_map.1 (hS g hg)
    obtain ⟨j, hj, rfl⟩ := List.getElem_of_mem hy
    exact (h.elB j hj (by have := h.lenB; omega)).row
  rcases h.ownA.2 with ⟨hv, hn⟩ | ⟨g, cap, cur, hv, hb, hc, hl, _⟩
  · have : ls = [] := List.length_eq_zero_iff.1 hn
    subst this
    exact ⟨none, 0, hv, Nat.le_refl _, fun j hj => by simp at hj, fun h => by simp at h⟩
  · refine ⟨_, cap, hv, hl, fun j hj => ?_, fun _ => ⟨g, 0, rfl⟩⟩
    have hj' : j < xa.length := by have := h.lenA; omega
    have hna : blk xa[j] ∉ S := fun e => by
      obtain ⟨y, hy, e⟩ := List.mem_map.1 (hS _ e)
      exact h.ab _ (List.getElem_mem hj') y hy e.symm
    obtain ⟨g2, cap2, cur2, fr2, e1, e2, e3, e4⟩ := (h.elA j hj' hj).at_ (ht.block _ hna)
    refine ⟨_, _, cap2, rfl, ?_, e3, e4⟩
    have hk : some g = va.ownBlock := by rw [hv]; rfl
    rw [cell_block (ht.block _ (fun e => not_row h.ownA (hU _ e) (by rw [← hk]; unfold Addr.add; split <;> rfl)))]
    have := h.ownA.cells (g := g) hk.symm j (xa[j]) (by simp [hj'])
    rw [this, e1]
theorem PcV.rdB2 {w W : World} {va vb : Value} {ls : List (List UInt8)} {xa xb : List Value} (h : PcV w W va vb ls ls xa xb) :
    ∃ A c, vb = .slice A ls.length c ∧ ls.length ≤ c ∧ RdL W A ls ∧ (0 < ls.length → ∃ b off, A = some ⟨b, off, none⟩) := by
  rcases h.ownB.2 with ⟨hv, hn⟩ | ⟨g, cap, cur, hv, hb, hc, hl, _⟩
  · have : ls = [] := List.length_eq_zero_iff.1 hn
    subst this
    exact ⟨none, 0, hv, Nat.le_refl _, fun j hj => by simp at hj, fun h => by simp at h⟩
  · refine ⟨_, cap, hv, hl, fun j hj => ?_, fun _ => ⟨g, 0, rfl⟩⟩
    have hj' : j < xb.length := by have := h.lenB; omega
    obtain ⟨g2, e1, e2⟩ := h.elB j hj' hj
    refine ⟨_, _, ls[j].length + 9, rfl, ?_, Rd.block e2 ⟨List.replicate 9 77, by simp [lentL]⟩, by omega⟩
    have hk : some g = vb.ownBlock := by rw [hv]; rfl
    have := h.ownB.cells (g := g) hk.symm j (xb[j]) (by simp [hj'])
    rw [this, e1]
theorem mendOut_len (sz : Nat) (D : List (List UInt8)) (Pp Qq : List UInt8) : ∀ T, (mendOut sz D Pp Qq T).length = D.length
  | [] => rfl
  | [x] => by
    simp only [mendOut]
    split <;> simp
  | [x, y] => by simp [mendOut]
  | x :: y :: z :: r => rfl
theorem mendR_len (ls : List (List UInt8)) (lv : Int) (h : ls.length ≤ 1000) : (mendR ls lv).2.length ≤ 1000 := by
  unfold mendR
  split
  · simp
  · split
    · simp
    · show (mendOut _ _ _ _ _).length ≤ 1000
      rw [mendOut_len]
      simp
      omega
theorem parityMend_calls (A : Option Addr) (c : Nat) (ls : List (List UInt8)) (lv : Int) (w : World) (hr : RdL w A ls) (hA : 0 < ls.length → ∃ b off, A = some ⟨b, off, none⟩) (hc : ls.length ≤ c) (hl : ls.length ≤ 1000) (hs : ∀ b ∈ ls, b.length ≤ 140737488351232) (hg : ErrH w) :
    Calls Tryd.prog 12 #[.slice A ls.length c, .int .i64 lv] w fun e W' => ∃ A' c', e = .returned (.tuple #[.slice A' (mendR ls lv).2.length c', .int .i64 (mendR ls lv).1]) ∧ RdLB w.heap.size W' A' (mendR ls lv).2 ∧ Below w.heap.size w W' := by
  have hq := Lib.hid (mend_calls A c ls lv w hr hA hc hl hs)
  generalize mendR ls lv = R at *
  have Hg := Lib.hid hg
  clear hr hA hg
  go_enter Tryd.func12, Tryd.ntmps12
  go_wp2_with fail
  refine (hq.out).mono ?_
  rintro e W1 ⟨A', c', rfl, hr', hb⟩
  have Hr' := Lib.hid hr'
  have Hb := Lib.hid hb
  clear hr' hb hq
  go_wp2_with fail
  refine (number_calls R.1 W1 (Hg.out.below Hg.out.lt Hb.out)).mono ?_
  rintro e W2 ⟨rfl, hb2⟩
  have Hb2 := Lib.hid hb2
  clear hb2
  go_wp2_with fail
  go_ret2
  exact ⟨_, _, rfl, Hr'.out.below Hb2.out, Hb.out.trans (Hb2.out.mono Hb.out.size)⟩
set_option maxHeartbeats 2000000 in
set_option maxRecDepth 100000 in
theorem parityMends_calls (A : Option Addr) (c : Nat) (ls : List (List UInt8)) (lv : Int) (w : World) (hg : ErrH w) (hr : RdS w A ls) (hs : ∀ b ∈ ls, b.length ≤ 140737488351232) (hl : ls.length ≤ 9223372036854775807) :
    Calls Tryd.prog 4 #[.slice A ls.length c, .int .i64 lv] w fun e w' => e = .returned (.bool true) ∧ Below w.heap.size w w' := by
  have HP := Lib.hid (pieces_calls A c ls w hr hs hl)
  have hs2 : ∀ b ∈ ls.take 100, b.length ≤ 140737488351232 := fun b hb => hs b (List.mem_of_mem_take hb)
  have hl2 : (ls.take 100).length ≤ 1000 := by simp; omega
  generalize hL : ls.take 100 = L at *
  have HM := Lib.hid (fun A c W hr hA hcc hg => parityMend_calls A c L lv W hr hA hcc hl2 hs2 hg)
  have HR := Lib.hid (fun A c W hr hcc => rmend_calls A c L lv W hr hcc hl2 hs2)
  have hml := mendR_len L lv hl2
  generalize mendR L lv = R at *
  have HG := Lib.hid hg
  have HS2 := Lib.hid hs2
  clear hr hs hg hs2 hL
  go_enter Tryd.func4, Tryd.ntmps4
  go_wp2_with fail
  refine (HP.out).mono ?_
  rintro e W1 ⟨va, vb, xa, xb, rfl, hpc⟩
  have HC := Lib.hid hpc
  obtain ⟨Ab, cb, eb, hcb, rb, hb⟩ := hpc.rdB2
  subst eb
  have HM1 := Lib.hid (HM.out Ab cb W1 rb hb hcb (HG.out.below HG.out.lt hpc.below))
  clear hpc rb hb
  go_wp2_with fail
  refine (HM1.out).mono ?_
  rintro e W2 ⟨A', c', rfl, hr', hb'⟩
  have HR' := Lib.hid hr'
  have HC2 := Lib.hid (HC.out.keep hb')
  clear hr' hb' HM1
  go_wp2_with fail
  refine (all_calls HC2.out HS2.out hl2).mono ?_
  rintro e W3 ⟨rfl, ht⟩
  have HT := Lib.hid ht
  obtain ⟨Aa, ca, ea, hca, ra, ha⟩ := HC2.out.rdA2 ht (fun g hg => hg)
  subst ea
  have HR1 := Lib.hid (HR.out Aa ca W3 ra hca)
  have HB3 := Lib.hid (ht.below2 HC2.out.below (fun g hg => by
    obtain ⟨y, hy, rfl⟩ := List.mem_map.1 hg
    exact HC.out.ge y (by simp [hy])))
  clear ht ra ha
  go_wp2_with fail
  refine (HR1.out).mono ?_
  rintro e W4 ⟨A2, c2, rfl, hr2, hb4⟩
  have HB4 := Lib.hid (HB3.out.trans (hb4.mono HB3.out.size))
  have HK := Lib.hid (alike_calls A' A2 c' c2 R.2 W4 (HR'.out.turned HT.out (fun g hg => by
    obtain ⟨y, hy, rfl⟩ := List.mem_map.1 hg
    exact HC.out.lt y (by simp [hy])) hb4) hr2 hml)
  clear hr2 hb4 HR1
  go_wp2_with fail
  refine (HK.out).mono ?_
  rintro e W5 ⟨rfl, hb5⟩
  have HB5 := Lib.hid (HB4.out.trans (hb5.mono HB4.out.size))
  clear hb5
  go_wp2_with fail
  go_ret
  exact ⟨rfl, HB5.out⟩
end Go.Proofs.YtfajgnaphekdhaaDoor
