/- The walk of bedrockref.found. Conditions: none, one or two of the data are empty; one number alone fits. -/
import Derived.Test.YtfajgnaphekdhaaDoorRfits
import Derived.Test.YtfajgnaphekdhaaDoorPmend
namespace Go.Proofs.YtfajgnaphekdhaaDoor
open Go.RowKit
set_option linter.unusedSimpArgs false
set_option linter.unusedVariables false
/-- bytes that are handed back -/
def FndPost (w : World) (fl : List UInt8) (e : Ending) (W' : World) : Prop := ∃ AF cF, e = .returned (.slice AF fl.length cF) ∧ (fl ≠ [] → ∃ b off, AF = some ⟨b, off, none⟩ ∧ w.heap.size ≤ b ∧ b < W'.heap.size) ∧ Rd W' AF fl ∧ fl.length ≤ cF ∧ Below w.heap.size w W'
set_option maxHeartbeats 4000000 in
set_option maxRecDepth 100000 in
theorem found0_calls (A : Option Addr) (c : Nat) (ls : List (List UInt8)) (n m a : Nat) (w : World) (hr : RdL w A ls) (hc : ls.length ≤ c) (hl : ls.length ≤ 1000) (hnm : n + m = ls.length) (hm : m ≤ 2) (he : emptyN (ls.take n) = 0) :
    Calls Tryd.prog 28 #[.slice A ls.length c, .int .i64 m, .int .i64 a] w fun e W' => FndPost w [] e W' := by
  obtain ⟨iS, hiS, hszS⟩ := infoS
  have hup := fun W => run_upto (P := Tryd.prog) W 23 33 iS Tryd.underlying23 hiS hszS A ls.length c n (n : Int) rfl (by omega)
  have hsub : (ls.length : Int) - (m : Int) = (n : Int) := by omega
  have hD : (ls.take n).length = n := by simp; omega
  have HE := empty_calls A c (ls.take n) w (hr.take n) (by omega)
  rw [hD, he] at HE
  have HE := Lib.hid HE
  clear hr hD he
  go_enter Tryd.func28, Tryd.ntmps28
  go_wp2_with fail
  refine (HE.out).mono ?_
  rintro e W1 ⟨rfl, b1⟩
  have Hb1 := Lib.hid b1
  clear b1
  go_wp2_with fail
  go_ret
  exact ⟨none, 0, rfl, fun h => absurd rfl h, fun j hj => by simp at hj, Nat.le_refl _, Hb1.out⟩
theorem fnd_one (w W : World) (hb : Below w.heap.size w W) (x : Nat) (hx : x < 256) : FndPost w [UInt8.ofNat x] (.returned (.slice (some ⟨W.heap.size, 0, none⟩) 1 1)) (W.alloc (.cells #[.int .u8 (x : Int)] 5)) := by
  refine ⟨_, 1, rfl, fun _ => ⟨_, _, rfl, hb.size, by rw [World.size_alloc]; omega⟩, ?_, Nat.le_refl _, hb.alloc hb.size _⟩
  have := one_rd W (UInt8.ofNat x) 5
  rwa [ofN x hx] at this
set_option maxHeartbeats 4000000 in
set_option maxRecDepth 100000 in
theorem found1_calls (A : Option Addr) (c : Nat) (ls : List (List UInt8)) (n m a x0 : Nat) (w : World) (hr : RdL w A ls) (hc : ls.length ≤ c) (hl : ls.length ≤ 1000) (hnm : n + m = ls.length) (hm : m ≤ 2) (ha : a ≤ 4096)
    (hall : ∀ b ∈ ls, 0 < b.length → a < b.length) (he : emptyN (ls.take n) = 1) (hx0 : x0 < 256) (hfit : ∀ x, x < 256 → ftL a (fillC a [UInt8.ofNat x] (ls.take n)) 0 (ls.drop n) = decide (x = x0)) :
    Calls Tryd.prog 28 #[.slice A ls.length c, .int .i64 m, .int .i64 a] w fun e W' => FndPost w [UInt8.ofNat x0] e W' := by
  obtain ⟨iS, hiS, hszS⟩ := infoS
  have hup := fun W => run_upto (P := Tryd.prog) W 23 33 iS Tryd.underlying23 hiS hszS A ls.length c n (n : Int) rfl (by omega)
  have hsub : (ls.length : Int) - (m : Int) = (n : Int) := by omega
  have hD : (ls.take n).length = n := by simp; omega
  have HE := empty_calls A c (ls.take n) w (hr.take n) (by omega)
  rw [hD, he] at HE
  have HE := Lib.hid HE
  have HF := Lib.hid (fun (k : Nat) (hk : k < 256) (W : World) (hb : Below w.heap.size w W) => show Calls Tryd.prog 31 #[.slice A ls.length c, .int .i64 m, .int .i64 a, .slice (some ⟨W.heap.size, 0, none⟩) 1 1] (W.alloc (.cells #[.int .u8 (k : Int)] 5)) fun e W' => e = .returned (.bool (decide (k = x0))) ∧ Below w.heap.size w W' by
    have hb1 : Below w.heap.size w (W.alloc (.cells #[.int .u8 (k : Int)] 5)) := hb.alloc hb.size _
    have hrd := one_rd W (UInt8.ofNat k) 5
    rw [ofN k hk] at hrd
    have h := fits_calls A c ls n m a (some ⟨W.heap.size, 0, none⟩) 1 [UInt8.ofNat k] _ (hr.below hb1) hl hnm hm ha hall hrd (fun _ => ⟨_, _, rfl⟩) (Nat.le_refl _) (by rw [he]; exact Nat.le_refl _)
    rw [hfit k hk] at h
    exact h.mono fun e W' h => ⟨h.1, hb1.trans (h.2.mono hb1.size)⟩)
  clear hr hD he hall hfit
  go_enter Tryd.func28, Tryd.ntmps28
  go_wp2_with fail
  refine (HE.out).mono ?_
  rintro e W1 ⟨rfl, b1⟩
  have Hb1 := Lib.hid b1
  clear b1
  go_wp2_with fail
  go_loopw [9] (fun i wr => ∃ k : Nat, k ≤ x0 ∧ i = .int .i64 k ∧ Hid (Below w.heap.size w wr)) (fun i _ => 256 - (intOf i).toNat)
  case atStart => exact ⟨0, by omega, rfl, Hb1⟩
  case round =>
    clear Hb1
    obtain ⟨k, hk, rfl, H⟩ := hrel
    have hk2 : k < 256 := by omega
    have HFk := Lib.hid (HF.out k hk2 wr H.out)
    by_cases heq : k = x0
    · subst heq
      rw [decide_eq_true rfl] at HFk
      go_wp2_with fail
      refine (HFk.out).mono ?_
      rintro e W2 ⟨rfl, b2⟩
      have Hb2 := Lib.hid b2
      clear b2
      go_wp2_with fail
      go_ret
      exact fnd_one w W2 Hb2.out k hk2
    · rw [decide_eq_false heq] at HFk
      go_wp2_with fail
      refine (HFk.out).mono ?_
      rintro e W2 ⟨rfl, b2⟩
      have Hb2 := Lib.hid b2
      clear b2
      go_wp2_with fail
      exact ⟨⟨k + 1, by omega, by go_num, Hb2⟩, by simp [intOf]; omega⟩
theorem two_bytes (W : World) (x y : Nat) (hx : x < 256) (hy : y < 256) : Rd (W.alloc (.cells #[.int .u8 (x : Int), .int .u8 (y : Int)] 5)) (some ⟨W.heap.size, 0, none⟩) [UInt8.ofNat x, UInt8.ofNat y] := by
  have h : bArr [UInt8.ofNat x, UInt8.ofNat y] = #[.int .u8 (x : Int), .int .u8 (y : Int)] := by
    simp only [bArr, vbs, vb, List.map_cons, List.map_nil, ofN x hx, ofN y hy]
  rw [← h]
  exact Rd.block (fr := (0, 0)) (heap_alloc_new W _) ⟨[], by simp⟩
theorem fnd_two (w W : World) (hb : Below w.heap.size w W) (x y : Nat) (hx : x < 256) (hy : y < 256) : FndPost w [UInt8.ofNat x, UInt8.ofNat y] (.returned (.slice (some ⟨W.heap.size, 0, none⟩) 2 2)) (W.alloc (.cells #[.int .u8 (x : Int), .int .u8 (y : Int)] 5)) :=
  ⟨_, 2, rfl, fun _ => ⟨_, _, rfl, hb.size, by rw [World.size_alloc]; omega⟩, two_bytes W x y hx hy, Nat.le_refl _, hb.alloc hb.size _⟩
theorem colP_lt (a : Nat) : ∀ l : List (List UInt8), colP (colAt a l) < 256
  | [] => Nat.zero_lt_succ _
  | b :: r => by
    simp only [colAt, List.map_cons, colP]
    exact Nat.xor_lt_two_pow (n := 8) (UInt8.toNat_lt _) (colP_lt a r)
set_option maxHeartbeats 4000000 in
set_option maxRecDepth 100000 in
theorem found2_calls (A : Option Addr) (c : Nat) (ls : List (List UInt8)) (n m a x0 p : Nat) (w : World) (hr : RdL w A ls) (hc : ls.length ≤ c) (hl : ls.length ≤ 1000) (hnm : n + m = ls.length) (hm : m ≤ 2) (ha : a ≤ 4096) (hm0 : 0 < m) (hP : 0 < (ls.getD n []).length) (hp : p = ((ls.getD n []).getD a 0).toNat)
    (hall : ∀ b ∈ ls, 0 < b.length → a < b.length) (he : emptyN (ls.take n) = 2) (hx0 : x0 < 256) (hfit : ∀ x, x < 256 → ftL a (fillC a [UInt8.ofNat x, UInt8.ofNat ((x ^^^ p) ^^^ colP (colAt a (ls.take n)))] (ls.take n)) 0 (ls.drop n) = decide (x = x0)) :
    Calls Tryd.prog 28 #[.slice A ls.length c, .int .i64 m, .int .i64 a] w fun e W' => FndPost w [UInt8.ofNat x0, UInt8.ofNat ((x0 ^^^ p) ^^^ colP (colAt a (ls.take n)))] e W' := by
  obtain ⟨iS, hiS, hszS⟩ := infoS
  have hup := fun W => run_upto (P := Tryd.prog) W 23 33 iS Tryd.underlying23 hiS hszS A ls.length c n (n : Int) rfl (by omega)
  have hsub : (ls.length : Int) - (m : Int) = (n : Int) := by omega
  have hD : (ls.take n).length = n := by simp; omega
  have HE := empty_calls A c (ls.take n) w (hr.take n) (by omega)
  rw [hD, he] at HE
  have HE := Lib.hid HE
  have hpl : p < 256 := by rw [hp]; exact UInt8.toNat_lt _
  have HF := Lib.hid (fun (k y : Nat) (hk : k < 256) (hy : y = (k ^^^ p) ^^^ colP (colAt a (ls.take n))) (W : World) (hb : Below w.heap.size w W) => show Calls Tryd.prog 31 #[.slice A ls.length c, .int .i64 m, .int .i64 a, .slice (some ⟨W.heap.size, 0, none⟩) 2 2] (W.alloc (.cells #[.int .u8 (k : Int), .int .u8 (y : Int)] 5)) fun e W' => e = .returned (.bool (decide (k = x0))) ∧ Below w.heap.size w W' by
    have hyl : y < 256 := by rw [hy]; exact Nat.xor_lt_two_pow (n := 8) (Nat.xor_lt_two_pow (n := 8) hk hpl) (colP_lt a _)
    have hb1 : Below w.heap.size w (W.alloc (.cells #[.int .u8 (k : Int), .int .u8 (y : Int)] 5)) := hb.alloc hb.size _
    have h := fits_calls A c ls n m a (some ⟨W.heap.size, 0, none⟩) 2 [UInt8.ofNat k, UInt8.ofNat y] _ (hr.below hb1) hl hnm hm ha hall (two_bytes W k y hk hyl) (fun _ => ⟨_, _, rfl⟩) (Nat.le_refl _) (by rw [he]; exact Nat.le_refl _)
    subst hy
    rw [hfit k hk] at h
    exact h.mono fun e W' h => ⟨h.1, hb1.trans (h.2.mono hb1.size)⟩)
  have hn1 : n < ls.length := by omega
  have hgP : ls.getD n [] = ls[n] := by simp [List.getD, hn1]
  rw [hgP] at hP hp
  have hal := hall ls[n] (List.getElem_mem hn1) hP
  obtain ⟨ad, An, cn, hAn, hPw⟩ := hr.at n hn1
  subst hAn
  have HPw := Lib.hid (fun W (hb : Below w.heap.size w W) => show ∃ ad2, An = some ad2 ∧ W.cell? (ad2.add a) = some (.int .u8 (p : Int)) by
    obtain ⟨ad2, e1, e2⟩ := (hPw W hb).2 a hal
    refine ⟨ad2, e1, ?_⟩
    rw [e2, hp]
    simp [vb, List.getD, hal])
  have HPc := Lib.hid (fun W (hb : Below w.heap.size w W) => (hPw W hb).1)
  have Hr := Lib.hid hr
  have Hall := Lib.hid hall
  have hT : ∀ k (hk : k < n) (hk2 : k < ls.length), colP (colAt a ((ls.take n).drop k)) = (ls[k].getD a 0).toNat ^^^ colP (colAt a ((ls.take n).drop (k + 1))) := fun k hk hk2 => by
    rw [take_drop ls n k hk (by omega)]
    rfl
  have HT := Lib.hid hT
  have HTn := Lib.hid (show colP (colAt a ((ls.take n).drop n)) = 0 by rw [List.drop_of_length_le (by omega)]; rfl)
  have HT0 := Lib.hid (show colP (colAt a ((ls.take n).drop 0)) = colP (colAt a (ls.take n)) by rw [List.drop_zero])
  have HTl := Lib.hid (fun k => colP_lt a ((ls.take n).drop k))
  have hTl := colP_lt a (ls.take n)
  have hmi : (a : Int) < (ls[n].length : Int) := by omega
  have hni : (n : Int) < (ls.length : Int) := by omega
  generalize hTT : colP (colAt a (ls.take n)) = T at *
  generalize hPn : ls[n].length = pn at *
  clear hr hD he hall hfit hgP hP hp hPw hPn hTT hT hal
  go_enter Tryd.func28, Tryd.ntmps28
  go_wp2_with fail
  refine (HE.out).mono ?_
  rintro e W1 ⟨rfl, b1⟩
  have Hb1 := Lib.hid b1
  clear b1
  go_wp2_with fail
  go_loopw [9] (fun i wr => ∃ k : Nat, k ≤ x0 ∧ i = .int .i64 k ∧ Hid (Below w.heap.size w wr)) (fun i _ => 256 - (intOf i).toNat)
  case atStart => exact ⟨0, by omega, rfl, Hb1⟩
  case round =>
    clear Hb1
    obtain ⟨k, hk, rfl, H⟩ := hrel
    rename World => wo
    have hk2 : k < 256 := by omega
    obtain ⟨ad2, hA2, hc2⟩ := HPw.out wo H.out
    subst hA2
    have hc1 := HPc.out wo H.out
    have hxl : k ^^^ p < 256 := Nat.xor_lt_two_pow (n := 8) hk2 hpl
    have hxo := u8_xor_nat k p hk2 hpl
    have H1 := Lib.hid (show Below w.heap.size w wo ∧ (k ^^^ p) ^^^ colP (colAt a ((ls.take n).drop 0)) = (k ^^^ p) ^^^ T from ⟨H.out, by rw [HT0.out]⟩)
    have HY := Lib.hid (fun (y : Nat) (hy : y = (k ^^^ p) ^^^ T) (W : World) hb => HF.out k y hk2 hy W hb)
    have Hk := Lib.hid (show (k = x0) → (k ^^^ p) ^^^ T = (x0 ^^^ p) ^^^ T from fun h => by rw [h])
    generalize k ^^^ p = z at *
    go_wp2_with fail
    rw [show decide ((k : Int) < 256) = true by simp only [decide_eq_true_eq]; omega]
    go_loopw [10, 11] (fun v i wr => ∃ j y : Nat, j ≤ n ∧ y < 256 ∧ v = .int .u8 y ∧ i = .int .i64 j ∧ Hid (Below w.heap.size w wr ∧ y ^^^ colP (colAt a ((ls.take n).drop j)) = z ^^^ T)) (fun _ i _ => n - (intOf i).toNat)
    case atStart => exact ⟨0, z, by omega, hxl, rfl, rfl, H1⟩
    case round =>
      clear H1
      obtain ⟨j, y, hj, hyl, rfl, rfl, H2⟩ := hrel
      rename World => wr
      by_cases hlt : j < n
      · have hjl : j < ls.length := by omega
        obtain ⟨adj, Aj, cj, hA, h1, h2, _⟩ := (Hr.out.below H2.out.1) j hjl
        cases hA
        have hstep := H2.out.2
        rw [HT.out j hlt hjl] at hstep
        have hml := Hall.out ls[j] (List.getElem_mem hjl)
        by_cases c0 : ls[j].length = 0
        · have hz : ls[j].getD a 0 = 0 := by rw [List.length_eq_zero_iff.1 c0]; rfl
          rw [hz] at hstep
          have HN := Lib.hid (show Below w.heap.size w wr ∧ y ^^^ colP (colAt a ((ls.take n).drop (j + 1))) = z ^^^ T from ⟨H2.out.1, by simpa using hstep⟩)
          rw [c0] at h1
          clear hstep hml h2 hz H2
          go_wp2_with fail
          exact ⟨⟨j + 1, y, by omega, hyl, rfl, by go_num, HN⟩, by simp [intOf]; omega⟩
        · have hal := hml (by omega)
          obtain ⟨ad3, hA3, hc3⟩ := h2 a hal
          subst hA3
          have hga : ls[j].getD a 0 = ls[j][a] := by simp [List.getD, hal]
          rw [hga] at hstep
          simp only [vb] at hc3
          have hbl := (ls[j][a]).toNat_lt
          generalize (ls[j][a]).toNat = b at *
          have hxo2 := u8_xor_nat y b hyl (by omega)
          have hyl2 : y ^^^ b < 256 := Nat.xor_lt_two_pow (n := 8) hyl hbl
          have HN := Lib.hid (show Below w.heap.size w wr ∧ (y ^^^ b) ^^^ colP (colAt a ((ls.take n).drop (j + 1))) = z ^^^ T from ⟨H2.out.1, by rw [Nat.xor_assoc]; exact hstep⟩)
          have hmi2 : (a : Int) < (ls[j].length : Int) := by omega
          have hm02 : 0 < ls[j].length := by omega
          clear hstep hml h2 hga H2 hal c0
          generalize ls[j].length = mm at *
          go_wp2_with fail
          exact ⟨⟨j + 1, y ^^^ b, by omega, hyl2, rfl, by go_num, HN⟩, by simp [intOf]; omega⟩
      · obtain rfl : j = n := by omega
        have hy := H2.out.2
        rw [HTn.out, Nat.xor_zero] at hy
        have HYY := Lib.hid (HY.out y hy wr H2.out.1)
        have Hy := Lib.hid hy
        clear hy
        by_cases heq : k = x0
        · rw [decide_eq_true heq] at HYY
          subst heq
          go_wp2_with fail
          refine (HYY.out).mono ?_
          rintro e W2 ⟨rfl, b2⟩
          have Hb2 := Lib.hid b2
          clear b2
          go_wp2_with fail
          go_ret
          rw [← Hk.out trivial, ← Hy.out]
          exact fnd_two w W2 Hb2.out k y hk2 hyl
        · rw [decide_eq_false heq] at HYY
          go_wp2_with fail
          refine (HYY.out).mono ?_
          rintro e W2 ⟨rfl, b2⟩
          have Hb2 := Lib.hid b2
          clear b2
          go_wp2_with fail
          exact ⟨⟨k + 1, by omega, by go_num, Hb2⟩, by simp [intOf]; omega⟩
end Go.Proofs.YtfajgnaphekdhaaDoor
