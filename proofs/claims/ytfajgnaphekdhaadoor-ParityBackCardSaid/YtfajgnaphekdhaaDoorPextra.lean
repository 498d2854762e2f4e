/- The walk of bedrockref.extra: a byte of P or of Q. -/
import Derived.Test.YtfajgnaphekdhaaDoorPpad
import Derived.Deep.RegionWith
namespace Go.Proofs.YtfajgnaphekdhaaDoor
open Go.RowKit
set_option linter.unusedSimpArgs false
set_option linter.unusedVariables false
def colAt (a : Nat) (ls : List (List UInt8)) : List Nat := ls.map fun b => (b.getD a 0).toNat
def exN (ls : List (List UInt8)) (a : Nat) (lv : Int) : Nat := if lv = 1 then colP (colAt a ls) else colQ 0 (colAt a ls)
set_option maxHeartbeats 2000000 in
set_option maxRecDepth 100000 in
theorem extra_calls (A : Option Addr) (c : Nat) (ls : List (List UInt8)) (a : Nat) (lv : Int) (w : World) (hr : RdL w A ls) (hall : ∀ b ∈ ls, a < b.length) (hl : ls.length ≤ 1000) (ha : a ≤ 4096) :
    Calls Tryd.prog 25 #[.slice A ls.length c, .int .i64 a, .int .i64 lv] w fun e w' => e = .returned (.int .u8 (exN ls a lv : Nat)) ∧ Below w.heap.size w w' := by
  obtain ⟨iS, hiS, hsz⟩ := infoS
  unfold exN
  have Hr := Lib.hid hr
  have Hall := Lib.hid hall
  clear hr hall
  by_cases h1 : lv = 1
  · rw [if_pos h1]
    subst h1
    generalize hT : colP (colAt a ls) = T
    have hq0 := Lib.hid (And.intro (Below.refl w.heap.size w) (show 0 ^^^ colP (colAt a (ls.drop 0)) = T by rw [← hT]; simp))
    clear hT
    go_enter Tryd.func25, Tryd.ntmps25
    go_wp2_with fail
    go_loopw [7, 8] (fun v i wr => ∃ k r : Nat, k ≤ ls.length ∧ r < 256 ∧ v = .int .u8 r ∧ i = .int .i64 k ∧ Hid (Below w.heap.size w wr ∧ r ^^^ colP (colAt a (ls.drop k)) = T)) (fun _ i _ => ls.length - (intOf i).toNat)
    case atStart => exact ⟨0, 0, by omega, by omega, rfl, rfl, hq0⟩
    case round =>
      obtain ⟨k, r, hk, hrl, rfl, rfl, H⟩ := hrel
      by_cases hlt : k < ls.length
      · obtain ⟨ad, Aj, cj, hA, h1, h2, _⟩ := (Hr.out.below H.out.1) k hlt
        subst hA
        have hdr : ls.drop k = ls[k] :: ls.drop (k + 1) := List.drop_eq_getElem_cons hlt
        have hT := H.out.2
        have hm := Hall.out ls[k] (List.getElem_mem hlt)
        rw [hdr] at hT
        simp only [colAt, List.map_cons, colP] at hT
        obtain ⟨ad2, hA2, hc2⟩ := h2 a hm
        subst hA2
        have hg : ls[k].getD a 0 = ls[k][a] := by simp [List.getD, hm]
        rw [hg] at hT
        simp only [vb] at hc2
        have HB := Lib.hid H.out.1
        have hxl := (ls[k][a]).toNat_lt
        clear H hdr hg h2
        generalize (ls[k][a]).toNat = x at *
        generalize ls[k].length = m at *
        have hx := u8_xor_nat r x hrl (by omega)
        have hxl2 : r ^^^ x < 256 := Nat.xor_lt_two_pow (n := 8) hrl hxl
        have HT := Lib.hid (And.intro HB.out (show (r ^^^ x) ^^^ colP (colAt a (ls.drop (k + 1))) = T by rw [Nat.xor_assoc]; exact hT))
        clear hT
        have hmi : (a : Int) < (m : Int) := by omega
        go_wp2_with fail
        exact ⟨⟨k + 1, r ^^^ x, by omega, hxl2, rfl, by go_num, HT⟩, by simp [intOf]; omega⟩
      · obtain rfl : k = ls.length := by omega
        have hTT : r = T := by rw [← H.out.2, List.drop_length]; simp [colAt, colP]
        subst hTT
        go_wp2_with fail
        go_ret
        exact ⟨rfl, H.out.1⟩
  · rw [if_neg h1]
    have h1b : (lv == 1) = false := by simpa using h1
    generalize hT : colQ 0 (colAt a ls) = T
    have hq0 := Lib.hid (And.intro (Below.refl w.heap.size w) (show 0 ^^^ colQ 0 (colAt a (ls.drop 0)) = T by rw [← hT]; simp))
    clear hT
    go_enter Tryd.func25, Tryd.ntmps25
    go_wp2_with fail
    go_loopw [7, 8] (fun v i wr => ∃ k r : Nat, k ≤ ls.length ∧ r < 256 ∧ v = .int .u8 r ∧ i = .int .i64 k ∧ Hid (Below w.heap.size w wr ∧ r ^^^ colQ k (colAt a (ls.drop k)) = T)) (fun _ i _ => ls.length - (intOf i).toNat)
    case atStart => exact ⟨0, 0, by omega, by omega, rfl, rfl, hq0⟩
    case round =>
      obtain ⟨k, r, hk, hrl, rfl, rfl, H⟩ := hrel
      by_cases hlt : k < ls.length
      · obtain ⟨ad, Aj, cj, hA, h1, h2, _⟩ := (Hr.out.below H.out.1) k hlt
        subst hA
        have hdr : ls.drop k = ls[k] :: ls.drop (k + 1) := List.drop_eq_getElem_cons hlt
        have hT := H.out.2
        have hm := Hall.out ls[k] (List.getElem_mem hlt)
        rw [hdr] at hT
        simp only [colAt, List.map_cons, colQ] at hT
        obtain ⟨ad2, hA2, hc2⟩ := h2 a hm
        subst hA2
        have hg : ls[k].getD a 0 = ls[k][a] := by simp [List.getD, hm]
        rw [hg] at hT
        simp only [vb] at hc2
        have HB := Lib.hid H.out.1
        have hxl := (ls[k][a]).toNat_lt
        clear H hdr hg h2
        generalize (ls[k][a]).toNat = x at *
        generalize ls[k].length = m at *
        have hpl := dblN_lt k 1 (by omega)
        have hpw := Lib.hid (fun W => power_calls k (by omega) W)
        have htm := Lib.hid (fun W => times_calls (dblN k 1) x hpl (by omega) W)
        rw [mulN_dbl k x (by omega)] at htm
        have hyl := dblN_lt k x (by omega)
        generalize dblN k 1 = pw at *
        generalize dblN k x = y at *
        have hx := u8_xor_nat r y hrl (by omega)
        have hxl2 : r ^^^ y < 256 := Nat.xor_lt_two_pow (n := 8) hrl hyl
        have HT := Lib.hid (show (r ^^^ y) ^^^ colQ (k + 1) (colAt a (ls.drop (k + 1))) = T by rw [Nat.xor_assoc]; exact hT)
        clear hT
        have hmi : (a : Int) < (m : Int) := by omega
        go_wp2_with fail
        go_region_with (first | (go_at_call 37; refine (hpw.out _).mono ?_; rintro e w' ⟨rfl, rfl⟩) | (go_at_call 36; refine (htm.out _).mono ?_; rintro e w' ⟨rfl, rfl⟩))
        all_goals
          go_wp2_with fail
          exact ⟨⟨k + 1, r ^^^ y, by omega, hxl2, rfl, by go_num, Lib.hid ⟨by first | exact HB.out.drew | exact HB.out, HT.out⟩⟩, by simp [intOf]; omega⟩
      · obtain rfl : k = ls.length := by omega
        have hTT : r = T := by rw [← H.out.2, List.drop_length]; simp [colAt, colQ]
        subst hTT
        go_wp2_with fail
        go_ret
        exact ⟨rfl, H.out.1⟩
end Go.Proofs.YtfajgnaphekdhaaDoor
