/- The walk of parity.Find. -/
import Derived.Test.YtfajgnaphekdhaaDoorPzero
import Derived.Test.YtfajgnaphekdhaaDoorPmend
namespace Go.Proofs.YtfajgnaphekdhaaDoor
open Go.RowKit
set_option linter.unusedSimpArgs false
set_option linter.unusedVariables false
theorem xorL_append : ∀ (L X b : List UInt8), b.length ≤ L.length → xorL (L ++ X) b = xorL L b ++ X
  | L, X, [], _ => by rw [xorL_nil, xorL_nil]
  | [], _, _ :: _, h => by simp at h
  | x :: L, X, y :: b, h => by
    simp only [List.cons_append, xorL]
    rw [xorL_append L X b (by simpa using h)]
def firstI (Lp Lq : List UInt8) (n : Nat) : Option Nat := (List.range n).find? fun i => zeroB (xorL (mapK i Lp) Lq)
/-- what Find tells at level 2, of the sums of all pieces -/
def find2 (n : Nat) (Lp Lq : List UInt8) : Int × Int :=
  if zeroB Lp = true ∧ zeroB Lq = true then (0, -1) else if zeroB Lq = true then (0, n) else if zeroB Lp = true then (0, (n : Int) + 1) else match firstI Lp Lq n with
    | some i => (0, i)
    | none => (11, 0)
def findOut (sz n : Nat) (ls : List (List UInt8)) : Nat → Int × Int
  | 0 => (0, -1)
  | 1 => if zeroB (xorL (pAcc sz (ls.take n).reverse) (ls.getD n [])) = true then (0, -1) else (11, 0)
  | _ => find2 n (xorL (pAcc sz (ls.take n).reverse) (ls.getD n [])) (xorL (qAcc sz (ls.take n).reverse) (ls.getD (n + 1) []))
/-- what Find answers: the error's number, and the piece -/
def findR (ls : List (List UInt8)) (lv : Int) : Int × Int :=
  if (chkR ls lv).2 ≠ 0 then ((chkR ls lv).2, 0) else if lostL 0 ls ≠ [] then (10, 0) else findOut (chkR ls lv).1.toNat (ls.length - lv.toNat) ls lv.toNat
def FindPost (w : World) (R : Int × Int) (e : Ending) (W' : World) : Prop := e = .returned (.tuple #[.int .i64 R.2, errV R.1]) ∧ Below w.heap.size w W'
set_option maxHeartbeats 4000000 in
set_option maxRecDepth 100000 in
theorem find_calls (A : Option Addr) (c : Nat) (ls : List (List UInt8)) (lv : Int) (w : World) (hr : RdL w A ls) (hA : 0 < ls.length → ∃ b off, A = some ⟨b, off, none⟩) (hc : ls.length ≤ c) (hl : ls.length ≤ 1000) (hs : ∀ b ∈ ls, b.length ≤ 140737488351232) :
    Calls Tryd.prog 29 #[.slice A ls.length c, .int .i64 lv] w fun e W' => FindPost w (findR ls lv) e W' := by
  obtain ⟨iS, hiS, hzS, hszS, hbS⟩ := info_parts infoS3
  have HC := Lib.hid (checked_calls A c ls lv w hr hl (fun b hb => by have := hs b hb; omega))
  have Hr := Lib.hid hr
  unfold findR
  rcases chkR_cases ls lv with h | h | ⟨sz, n, m, h, hlv, hnm, k1, k2, k3, k4, k5, hsz⟩
  · rw [h] at HC ⊢
    rw [if_pos (by decide)]
    simp only [errV] at HC
    clear hr h
    go_enter Tryd.func29, Tryd.ntmps29
    go_wp2_with fail
    refine (HC.out).mono ?_
    rintro e W1 ⟨rfl, b1⟩
    have Hb1 := Lib.hid b1
    clear b1
    go_wp2_with fail
    go_ret2
    exact ⟨rfl, Hb1.out⟩
  · rw [h] at HC ⊢
    rw [if_pos (by decide)]
    simp only [errV] at HC
    clear hr h
    go_enter Tryd.func29, Tryd.ntmps29
    go_wp2_with fail
    refine (HC.out).mono ?_
    rintro e W1 ⟨rfl, b1⟩
    have Hb1 := Lib.hid b1
    clear b1
    go_wp2_with fail
    go_ret2
    exact ⟨rfl, Hb1.out⟩
  · rw [h] at HC ⊢
    rw [if_neg (by simp)]
    simp only [errV] at HC
    have HL := Lib.hid (fun W hr => lost_calls A c ls W hr hl)
    by_cases hlo : lostL 0 ls = []
    · rw [if_neg (by simp [hlo])]
      rw [hlo] at HL
      subst hlv
      obtain ⟨b0, off, hA0⟩ := hA (by omega)
      have hD : (ls.take n).length = n := by simp; omega
      have hall := (szL_all ls 0 sz hsz).2.1
      have HM := Lib.hid (fun W (hr : RdL W (some ⟨b0, off, none⟩) (ls.take n)) => sums_calls b0 off c (ls.take n) sz W hr k1 k2 (by omega) (by omega) (fun b hb => hall b (List.mem_of_mem_take hb)))
      rw [hD, ← hA0] at HM
      have Hall := Lib.hid hall
      have hup := fun W => run_upto (P := Tryd.prog) W 23 33 iS Tryd.underlying23 hiS hszS A ls.length c n (n : Int) rfl (by omega)
      have hsub : (ls.length : Int) - (m : Int) = (n : Int) := by omega
      have HR : FindPost w (findOut sz n ls m) = FindPost w (findOut ((sz : Int), (0 : Int)).1.toNat (ls.length - (m : Int).toNat) ls (m : Int).toNat) := by
        simp only [Int.toNat_natCast, show ls.length - m = n by omega]
      rw [← HR]
      have HFO := Lib.hid (show findOut sz n ls = fun m => match m with
        | 0 => (0, -1)
        | 1 => if zeroB (xorL (pAcc sz (ls.take n).reverse) (ls.getD n [])) = true then (0, -1) else (11, 0)
        | _ => find2 n (xorL (pAcc sz (ls.take n).reverse) (ls.getD n [])) (xorL (qAcc sz (ls.take n).reverse) (ls.getD (n + 1) [])) from by
          funext m
          match m with
          | 0 => rfl
          | 1 => rfl
          | m + 2 => rfl)
      have Hpl := Lib.hid (show (pAcc sz (ls.take n).reverse).length = sz from pAcc_len sz _ (fun b hb => hall b (List.mem_of_mem_take (List.mem_reverse.1 hb))))
      have Hql := Lib.hid (show (qAcc sz (ls.take n).reverse).length = sz from qAcc_len sz _ (fun b hb => hall b (List.mem_of_mem_take (List.mem_reverse.1 hb))))
      clear HR hD hall hs hr h hsz hA hA0 hlo
      go_enter Tryd.func29, Tryd.ntmps29
      go_wp2_with fail
      refine (HC.out).mono ?_
      rintro e W1 ⟨rfl, b1⟩
      have Hb1 := Lib.hid b1
      clear b1 HC
      go_wp2_with fail
      refine (HL.out W1 (Hr.out.below Hb1.out)).mono ?_
      rintro e W2 ⟨v, rfl, ho, b2⟩
      have Hb2 := Lib.hid (Hb1.out.trans (b2.mono Hb1.out.size))
      have hv := ho.2.2 rfl
      subst hv
      clear b2 ho HL
      go_wp2_with fail
      refine (HM.out W2 ((Hr.out.below Hb2.out).take n)).mono ?_
      rintro e W6 ⟨gp, gq, rfl, hp, hq, hgp, hgq, hne, b6⟩
      have Hp := Lib.hid hp
      have Hq := Lib.hid hq
      have Hne := Lib.hid hne
      have HW6 := Lib.hid (Hb2.out.trans (b6.mono Hb2.out.size))
      have Hwp := Lib.hid (show w.heap.size ≤ gp from Nat.le_trans Hb2.out.size hgp)
      have Hwq := Lib.hid (show w.heap.size ≤ gq from Nat.le_trans Hb2.out.size hgq)
      clear hp hq hgp hgq hne b6 HM
      generalize pAcc sz (ls.take n).reverse = Ap at *
      generalize qAcc sz (ls.take n).reverse = Aq at *
      have H7 := Lib.hid (fun (W : World) (h : Off [gp, gq] W6 W) => show Below w.heap.size w W from h.to HW6.out HW6.out.size (by have := Hwp.out; have := Hwq.out; simp; omega))
      rcases (show m = 0 ∨ m = 1 ∨ m = 2 by omega) with hm | hm | hm
      · subst hm
        go_wp2_with fail
        go_ret2
        rw [HFO.out]
        exact ⟨rfl, HW6.out⟩
      · subst hm
        have hn1 : n < ls.length := by omega
        obtain ⟨ad, An, cn, hAn, hPw⟩ := Hr.out.at n hn1
        subst hAn
        have hgP : ls.getD n [] = ls[n] := by simp [List.getD, hn1]
        have hPl := Hall.out ls[n] (List.getElem_mem hn1)
        have HPw := Lib.hid hPw
        have hc6 := (hPw W6 (H7.out W6 (Off.refl _ _))).1
        have Hadd := Lib.hid (add2_calls W6 gp _ ls[n] An cn sz sz Hp.out (fun L' => (HPw.out _ (H7.out _ ((Off.refl _ _).setRow gp _ (.inl (by simp))))).2) hPl (by rw [Hpl.out]; exact Nat.le_refl _) k2)
        have hl2 := xorL_len Ap ls[n] (by rw [Hpl.out]; exact hPl)
        rw [Hpl.out] at hl2
        have Hl2 := Lib.hid hl2
        have HFO2 := Lib.hid (show findOut sz n ls 1 = if zeroB (xorL Ap ls[n]) = true then (0, -1) else (11, 0) by rw [HFO.out, ← hgP]; rfl)
        clear hl2 hPw hgP hPl
        generalize ls[n] = Pp at *
        generalize xorL Ap Pp = F at *
        go_wp2_with fail
        refine (Hadd.out).mono ?_
        rintro e W7 ⟨rfl, hW7⟩
        have hOff : Off [gp, gq] W6 W7 := by rw [hW7]; exact (Off.refl _ _).setRow gp _ (.inl (by simp))
        have hr7 : W7.heap[gp]? = some (.cells (bArr (F ++ [])) 5 (0, 0)) := by rw [List.append_nil, hW7]; exact setRow_heap _ _ _ _ _ _ Hp.out
        have HZ := Lib.hid (zero_calls W7 gp sz sz F [] hr7 Hl2.out k2)
        have HE := Lib.hid (H7.out W7 hOff)
        clear hW7 hOff hr7 Hadd
        cases hz : zeroB F
        · rw [hz] at HZ
          have Hz := Lib.hid hz
          clear hz
          go_wp2_with fail
          refine (HZ.out).mono ?_
          rintro e w' ⟨rfl, rfl⟩
          go_wp2_with fail
          go_ret2
          rw [HFO2.out, Hz.out]
          exact ⟨rfl, HE.out⟩
        · rw [hz] at HZ
          have Hz := Lib.hid hz
          clear hz
          go_wp2_with fail
          refine (HZ.out).mono ?_
          rintro e w' ⟨rfl, rfl⟩
          go_wp2_with fail
          go_ret2
          rw [HFO2.out, Hz.out]
          exact ⟨rfl, HE.out⟩
      · subst hm
        have hn1 : n < ls.length := by omega
        obtain ⟨q, hq⟩ : ∃ q, n + 1 = q := ⟨_, rfl⟩
        have hn2 : q < ls.length := by omega
        have hi1 : (n : Int) + 1 = (q : Int) := by omega
        obtain ⟨ad, An, cn, hAn, hPw⟩ := Hr.out.at n hn1
        subst hAn
        obtain ⟨ad2, Aq', cq, hAq, hQw⟩ := Hr.out.at q hn2
        cases hAq
        have hgP : ls.getD n [] = ls[n] := by simp [List.getD, hn1]
        have hgQ : ls.getD (n + 1) [] = ls[q] := by rw [hq]; simp [List.getD, hn2]
        have hPl := Hall.out ls[n] (List.getElem_mem hn1)
        have hQl := Hall.out ls[q] (List.getElem_mem hn2)
        have HPw := Lib.hid hPw
        have HQw := Lib.hid hQw
        have hc6 := (hPw W6 (H7.out W6 (Off.refl _ _))).1
        have Hadd := Lib.hid (add2_calls W6 gp _ ls[n] An cn sz sz Hp.out (fun L' => (HPw.out _ (H7.out _ ((Off.refl _ _).setRow gp _ (.inl (by simp))))).2) hPl (by rw [Hpl.out]; exact Nat.le_refl _) k2)
        have hl2 := xorL_len Ap ls[n] (by rw [Hpl.out]; exact hPl)
        rw [Hpl.out] at hl2
        have Hl2 := Lib.hid hl2
        have hl3 := xorL_len Aq ls[q] (by rw [Hql.out]; exact hQl)
        rw [Hql.out] at hl3
        have Hl3 := Lib.hid hl3
        have Hadd2 := Lib.hid (fun (W7 : World) (h : Off [gp, gq] W6 W7) (hr7 : W7.heap[gq]? = some (.cells (bArr Aq) 5 (0, 0))) => add2_calls W7 gq _ ls[q] Aq' cq sz sz hr7 (fun L' => (HQw.out _ (H7.out _ (h.setRow gq _ (.inl (by simp))))).2) hQl (by rw [Hql.out]; exact Nat.le_refl _) k2)
        have HFO2 := Lib.hid (show findOut sz n ls 2 = find2 n (xorL Ap ls[n]) (xorL Aq ls[q]) by rw [HFO.out, ← hgP, ← hgQ]; rfl)
        have Hq1 := Lib.hid hq
        clear hl2 hl3 hPw hQw hgP hgQ hPl hQl hq
        generalize ls[n] = Pp at *
        generalize ls[q] = Qq at *
        generalize xorL Ap Pp = Fp at *
        generalize xorL Aq Qq = Fq at *
        go_wp2_with fail
        refine (Hadd.out).mono ?_
        rintro e W7 ⟨rfl, hW7⟩
        have hOff : Off [gp, gq] W6 W7 := by rw [hW7]; exact (Off.refl _ _).setRow gp _ (.inl (by simp))
        have Hp7 := Lib.hid (show W7.heap[gp]? = some (.cells (bArr Fp) 5 (0, 0)) by rw [hW7]; exact setRow_heap _ _ _ _ _ _ Hp.out)
        have Hq7 := Lib.hid (show W7.heap[gq]? = some (.cells (bArr Aq) 5 (0, 0)) by rw [hW7, setRow_other _ _ _ _ (Ne.symm Hne.out)]; exact Hq.out)
        have hc7 := (HQw.out W7 (H7.out W7 hOff)).1
        have Hadd3 := Lib.hid (Hadd2.out W7 hOff Hq7.out)
        have HOff := Lib.hid hOff
        clear hW7 hOff Hadd Hadd2 hc6
        go_wp2_with fail
        refine (Hadd3.out).mono ?_
        rintro e W8 ⟨rfl, hW8⟩
        have hOff : Off [gp, gq] W6 W8 := by rw [hW8]; exact HOff.out.setRow gq _ (.inl (by simp))
        have Hp8 := Lib.hid (show W8.heap[gp]? = some (.cells (bArr Fp) 5 (0, 0)) by rw [hW8, setRow_other _ _ _ _ Hne.out]; exact Hp7.out)
        have Hq8 := Lib.hid (show W8.heap[gq]? = some (.cells (bArr Fq) 5 (0, 0)) by rw [hW8]; exact setRow_heap _ _ _ _ _ _ Hq7.out)
        have HZp := Lib.hid (zero_calls W8 gp sz sz Fp [] (by rw [List.append_nil]; exact Hp8.out) Hl2.out k2)
        have HZq := Lib.hid (zero_calls W8 gq sz sz Fq [] (by rw [List.append_nil]; exact Hq8.out) Hl3.out k2)
        have HE := Lib.hid (H7.out W8 hOff)
        clear hW8 hOff Hadd3 hc7
        cases hzp : zeroB Fp <;> cases hzq : zeroB Fq <;> rw [hzp] at HZp <;> rw [hzq] at HZq
        · have Hz := Lib.hid (And.intro hzp hzq)
          clear hzp hzq
          go_wp2_with fail
          refine (HZp.out).mono ?_
          rintro e w' ⟨rfl, rfl⟩
          go_wp2_with fail
          refine (HZq.out).mono ?_
          rintro e w' ⟨rfl, rfl⟩
          go_wp2_with fail
          refine (HZp.out).mono ?_
          rintro e w' ⟨rfl, rfl⟩
          have HF2 := Lib.hid (show findOut sz n ls 2 = match firstI Fp Fq n with
            | some i => (0, (i : Int))
            | none => (11, 0) by
            rw [HFO2.out]
            unfold find2
            rw [Hz.out.1, Hz.out.2]
            rfl)
          have H0 := Lib.hid (show Below W8.heap.size W8 W8 ∧ ∀ j, j < 0 → zeroB (xorL (mapK j Fp) Fq) = false from ⟨Below.refl _ _, fun j hj => absurd hj (Nat.not_lt_zero j)⟩)
          clear HFO HFO2 HZp HZq
          go_wp2_with fail
          go_loopw [86] (fun i wr => ∃ k : Nat, k ≤ n ∧ i = .int .i64 k ∧ Hid (Below W8.heap.size W8 wr ∧ ∀ j, j < k → zeroB (xorL (mapK j Fp) Fq) = false)) (fun i _ => n - (intOf i).toNat)
          case atStart => exact ⟨0, by omega, rfl, H0⟩
          case round =>
            clear H0
            obtain ⟨k, hk, rfl, H⟩ := hrel
            rename World => wr
            by_cases hlt : k < n
            · have hgp8 := (Array.getElem?_eq_some_iff.1 Hp8.out).1
              have hgq8 := (Array.getElem?_eq_some_iff.1 Hq8.out).1
              have Hgp8 := Lib.hid hgp8
              have Hgq8 := Lib.hid hgq8
              have Hprow := Lib.hid ((H.out.1.block gp hgp8).trans Hp8.out)
              have Hqrow := Lib.hid ((H.out.1.block gq hgq8).trans Hq8.out)
              have hcl := clonep_calls ⟨gp, 0, none⟩ sz Fp wr (Rd.block Hprow.out ⟨[], by simp⟩) (by have := Hl2.out; omega)
              rw [Hl2.out] at hcl
              have Hcl := Lib.hid hcl
              have HX := Lib.hid (fun W => ppower_calls k (by omega) W)
              have HB := Lib.hid (fun W g L m cap h1 h2 h3 => by_calls W g L k cap m h1 h2 h3)
              generalize dblN k 1 = pk at *
              clear hcl hgp8 hgq8
              go_wp2_with fail
              refine (Hcl.out).mono ?_
              rintro e W9 ⟨gt, X, ct, rfl, hgt, htr, hb9⟩
              have Hgt := Lib.hid hgt
              have Ht9 := Lib.hid htr
              have Hb9 := Lib.hid hb9
              have Hby := Lib.hid (HB.out W9 gt (Fp ++ X) sz ct htr (by have := Hl2.out; simp; omega) k2)
              clear hgt htr hb9 Hcl
              go_wp2_with fail
              refine (HX.out _).mono ?_
              rintro e w' ⟨rfl, rfl⟩
              go_wp2_with fail
              refine (Hby.out).mono ?_
              rintro e W10 ⟨rfl, hW10⟩
              have e2 : mapK k ((Fp ++ X).take sz) ++ (Fp ++ X).drop sz = mapK k Fp ++ X := by
                rw [← Hl2.out, List.take_left, List.drop_left]
              rw [e2] at hW10
              have hml : (mapK k Fp).length = sz := by rw [mapK_len]; exact Hl2.out
              have hWs : Below W8.heap.size W8 W9 := H.out.1.trans (Hb9.out.mono H.out.1.size)
              have HT10 := Lib.hid (show W10.heap[gt]? = some (.cells (bArr (mapK k Fp ++ X)) 5 (0, 0)) by rw [hW10]; exact setRow_heap _ _ _ _ _ _ Ht9.out)
              have HQ10 := Lib.hid (show W10.heap[gq]? = some (.cells (bArr Fq) 5 (0, 0)) by
                rw [hW10, setRow_other _ _ _ _ (by have := Hgt.out; have := Hgq8.out; have := H.out.1.size; omega), Hb9.out.block gq (Nat.lt_of_lt_of_le Hgq8.out H.out.1.size)]
                exact Hqrow.out)
              have hB10 : Below W8.heap.size W8 W10 := by rw [hW10]; exact below_setRow hWs (Nat.le_trans H.out.1.size Hgt.out) _
              have H11 := add2_calls W10 gt (mapK k Fp ++ X) Fq (some ⟨gq, 0, none⟩) sz ct sz HT10.out (fun L' => Rd.block (by rw [setRow_other _ _ _ _ (by have := Hgt.out; have := Hgq8.out; have := H.out.1.size; omega)]; exact HQ10.out) ⟨[], by simp⟩) (by have := Hl3.out; omega) (by simp; omega) k2
              rw [xorL_append _ _ _ (by rw [hml, Hl3.out]; exact Nat.le_refl _), Hl3.out] at H11
              have H11 := Lib.hid H11
              have HB10 := Lib.hid hB10
              have Hml := Lib.hid hml
              clear hW10 e2 hWs hB10 hml Hby
              go_wp2_with fail
              refine (H11.out).mono ?_
              rintro e W11 ⟨rfl, hW11⟩
              have hT11 : W11.heap[gt]? = some (.cells (bArr (xorL (mapK k Fp) Fq ++ X)) 5 (0, 0)) := by rw [hW11]; exact setRow_heap _ _ _ _ _ _ HT10.out
              have HB11 := Lib.hid (show Below W8.heap.size W8 W11 by rw [hW11]; exact below_setRow HB10.out (Nat.le_trans H.out.1.size Hgt.out) _)
              have hll : (xorL (mapK k Fp) Fq).length = sz := by rw [xorL_len _ _ (by rw [Hml.out, Hl3.out]; exact Nat.le_refl _)]; exact Hml.out
              have HZ := Lib.hid (zero_calls W11 gt sz ct _ X hT11 hll k2)
              cases hz : zeroB (xorL (mapK k Fp) Fq)
              · rw [hz] at HZ
                have HN := Lib.hid (show Below W8.heap.size W8 W11 ∧ ∀ j, j < k + 1 → zeroB (xorL (mapK j Fp) Fq) = false from ⟨HB11.out, fun j hj => by
                  rcases Nat.lt_or_ge j k with h | h
                  · exact H.out.2 j h
                  · obtain rfl : j = k := by omega
                    exact hz⟩)
                clear hW11 hT11 hll hz H11
                go_wp2_with fail
                refine (HZ.out).mono ?_
                rintro e w' ⟨rfl, rfl⟩
                go_wp2_with fail
                exact ⟨⟨k + 1, by omega, by go_num, HN⟩, by simp [intOf]; omega⟩
              · rw [hz] at HZ
                have HN := Lib.hid (show firstI Fp Fq n = some k by
                  unfold firstI
                  rw [List.find?_range_eq_some]
                  exact ⟨hz, List.mem_range.2 hlt, fun j hj => by simp [H.out.2 j hj]⟩)
                have HBE := Lib.hid (HE.out.trans (HB11.out.mono HE.out.size))
                clear hW11 hT11 hll hz H11
                go_wp2_with fail
                refine (HZ.out).mono ?_
                rintro e w' ⟨rfl, rfl⟩
                go_wp2_with fail
                go_ret2
                rw [HF2.out, HN.out]
                exact ⟨rfl, HBE.out⟩
            · obtain rfl : n = k := by omega
              have HN := Lib.hid (show firstI Fp Fq n = none by
                unfold firstI
                rw [List.find?_eq_none]
                intro j hj
                simp [H.out.2 j (List.mem_range.1 hj)])
              have HBE := Lib.hid (HE.out.trans (H.out.1.mono HE.out.size))
              go_wp2_with fail
              go_ret2
              rw [HF2.out, HN.out]
              exact ⟨rfl, HBE.out⟩
        · have Hz := Lib.hid (And.intro hzp hzq)
          clear hzp hzq
          go_wp2_with fail
          refine (HZp.out).mono ?_
          rintro e w' ⟨rfl, rfl⟩
          go_wp2_with fail
          refine (HZq.out).mono ?_
          rintro e w' ⟨rfl, rfl⟩
          go_wp2_with fail
          go_ret2
          rw [HFO2.out]
          unfold find2
          rw [Hz.out.1, Hz.out.2]
          exact ⟨rfl, HE.out⟩
        · have Hz := Lib.hid (And.intro hzp hzq)
          clear hzp hzq
          go_wp2_with fail
          refine (HZp.out).mono ?_
          rintro e w' ⟨rfl, rfl⟩
          go_wp2_with fail
          refine (HZq.out).mono ?_
          rintro e w' ⟨rfl, rfl⟩
          go_wp2_with fail
          refine (HZq.out).mono ?_
          rintro e w' ⟨rfl, rfl⟩
          go_wp2_with fail
          refine (HZp.out).mono ?_
          rintro e w' ⟨rfl, rfl⟩
          go_wp2_with fail
          go_ret2
          rw [HFO2.out]
          unfold find2
          rw [Hz.out.1, Hz.out.2]
          exact ⟨by simp only [Bool.true_eq_false, and_false, if_false, Bool.false_eq_true, if_true, and_true]; rw [hi1]; rfl, HE.out⟩
        · have Hz := Lib.hid (And.intro hzp hzq)
          clear hzp hzq
          go_wp2_with fail
          refine (HZp.out).mono ?_
          rintro e w' ⟨rfl, rfl⟩
          go_wp2_with fail
          refine (HZq.out).mono ?_
          rintro e w' ⟨rfl, rfl⟩
          go_wp2_with fail
          go_ret2
          rw [HFO2.out]
          unfold find2
          rw [Hz.out.1, Hz.out.2]
          exact ⟨rfl, HE.out⟩
    · rw [if_pos hlo]
      generalize lostL 0 ls = T at *
      clear hr h hlv
      go_enter Tryd.func29, Tryd.ntmps29
      go_wp2_with fail
      refine (HC.out).mono ?_
      rintro e W1 ⟨rfl, b1⟩
      have Hb1 := Lib.hid b1
      clear b1
      go_wp2_with fail
      refine (HL.out W1 (Hr.out.below Hb1.out)).mono ?_
      rintro e W2 ⟨v, rfl, ho, b2⟩
      have Hb2 := Lib.hid (Hb1.out.trans (b2.mono Hb1.out.size))
      obtain ⟨g, nn, cp, rfl⟩ : ∃ g nn cp, v = .slice (some ⟨g, 0, none⟩) nn cp := by
        rcases ho.1.2 with ⟨hv, _⟩ | ⟨g, cp, cur, hv, _⟩
        · exact absurd (ho.2.1 hv) hlo
        · exact ⟨g, _, cp, hv⟩
      clear b2 ho hlo
      go_wp2_with fail
      go_ret2
      exact ⟨rfl, Hb2.out⟩
end Go.Proofs.YtfajgnaphekdhaaDoor
