/- The walk of the law ParityFinds: it returns true and leaves what was there. Condition: the library's variable errors.errorType holds its handle; the slice of strings reads as texts of at most 2^47 bytes each. -/
import Derived.Test.YtfajgnaphekdhaaDoorPmends
import Derived.Test.YtfajgnaphekdhaaDoorPfeq
namespace Go.Proofs.YtfajgnaphekdhaaDoor
open Go.RowKit
set_option linter.unusedSimpArgs false
set_option linter.unusedVariables false
theorem parityFind_calls (A : Option Addr) (c : Nat) (ls : List (List UInt8)) (lv : Int) (w : World) (hr : RdL w A ls) (hA : 0 < ls.length → ∃ b off, A = some ⟨b, off, none⟩) (hc : ls.length ≤ c) (hl : ls.length ≤ 1000) (hs : ∀ b ∈ ls, b.length ≤ 140737488351232) (hg : ErrH w) :
    Calls Tryd.prog 14 #[.slice A ls.length c, .int .i64 lv] w fun e W' => RfPost w (findR ls lv) e W' := by
  have hq := Lib.hid (find_calls A c ls lv w hr hA hc hl hs)
  generalize findR ls lv = R at *
  have Hg := Lib.hid hg
  clear hr hA hg
  go_enter Tryd.func14, Tryd.ntmps14
  go_wp2_with fail
  refine (hq.out).mono ?_
  rintro e W1 ⟨rfl, hb⟩
  have Hb := Lib.hid hb
  clear hb hq
  go_wp2_with fail
  refine (number_calls R.1 W1 (Hg.out.below Hg.out.lt Hb.out)).mono ?_
  rintro e W2 ⟨rfl, hb2⟩
  have Hb2 := Lib.hid hb2
  clear hb2
  go_wp2_with fail
  go_ret2
  exact ⟨rfl, Hb.out.trans (Hb2.out.mono Hb.out.size)⟩
set_option maxHeartbeats 2000000 in
set_option maxRecDepth 100000 in
theorem parityFinds_calls (A : Option Addr) (c : Nat) (ls : List (List UInt8)) (lv : Int) (w : World) (hg : ErrH w) (hr : RdS w A ls) (hs : ∀ b ∈ ls, b.length ≤ 140737488351232) (hl : ls.length ≤ 9223372036854775807) :
    Calls Tryd.prog 5 #[.slice A ls.length c, .int .i64 lv] w fun e w' => e = .returned (.bool true) ∧ Below w.heap.size w w' := by
  have HP := Lib.hid (pieces_calls A c ls w hr hs hl)
  have hs2 : ∀ b ∈ ls.take 100, b.length ≤ 140737488351232 := fun b hb => hs b (List.mem_of_mem_take hb)
  have hl2 : (ls.take 100).length ≤ 1000 := by simp; omega
  generalize hL : ls.take 100 = L at *
  have HM := Lib.hid (fun A c W hr hA hcc hg => parityFind_calls A c L lv W hr hA hcc hl2 hs2 hg)
  have HR := Lib.hid (fun A c W hr => show Calls Tryd.prog 15 #[.slice A L.length c, .int .i64 lv] W fun e W' => RfPost W (findR L lv) e W' by rw [← refFindR_eq]; exact rfind_calls A c L lv W hr hl2 hs2)
  generalize findR L lv = R at *
  have HG := Lib.hid hg
  have HS2 := Lib.hid hs2
  clear hr hs hg hs2 hL
  go_enter Tryd.func5, Tryd.ntmps5
  go_wp2_with fail
  refine (HP.out).mono ?_
  rintro e W1 ⟨va, vb, xa, xb, rfl, hpc⟩
  have HC := Lib.hid hpc
  obtain ⟨Ab, cb, eb, hcb, rb, hb⟩ := hpc.rdB2
  subst eb
  have HM1 := Lib.hid (HM.out Ab cb W1 rb hb hcb (HG.out.below HG.out.lt hpc.below))
  clear hpc rb hb
  go_wp2_with fail
  refine (HM1.out).mono ?_
  rintro e W2 ⟨rfl, hb'⟩
  have HC2 := Lib.hid (HC.out.keep hb')
  clear hb' HM1
  go_wp2_with fail
  refine (all_calls HC2.out HS2.out hl2).mono ?_
  rintro e W3 ⟨rfl, ht⟩
  have HT := Lib.hid ht
  obtain ⟨Aa, ca, ea, hca, ra, ha⟩ := HC2.out.rdA2 ht (fun g hg => hg)
  subst ea
  have HR1 := Lib.hid (HR.out Aa ca W3 ra)
  have HB3 := Lib.hid (ht.below2 HC2.out.below (fun g hg => by
    obtain ⟨y, hy, rfl⟩ := List.mem_map.1 hg
    exact HC.out.ge y (by simp [hy])))
  clear ht ra ha
  go_wp2_with fail
  refine (HR1.out).mono ?_
  rintro e W4 ⟨rfl, hb4⟩
  have HB4 := Lib.hid (HB3.out.trans (hb4.mono HB3.out.size))
  clear hb4 HR1
  go_wp2_with fail
  go_ret
  exact ⟨rfl, HB4.out⟩
end Go.Proofs.YtfajgnaphekdhaaDoor
