/- The walk of parity.Mend. -/
import Derived.Test.YtfajgnaphekdhaaDoorPmd
import Derived.Deep.RegionHeld3
namespace Go.Proofs.YtfajgnaphekdhaaDoor
open Go.RowKit
set_option linter.unusedSimpArgs false
set_option linter.unusedVariables false
theorem madeS (n : Nat) : madeCells #[Value.slice none 0 0] n = (List.replicate n (Value.slice none 0 0)).toArray := by
  apply Array.ext
  · simp [madeCells]
  · intro i h1 h2
    simp [madeCells, Nat.mod_one]
/-- the data that are cloned so far -/
def clL (D : List (List UInt8)) (k : Nat) : List (List UInt8) := D.take k ++ List.replicate (D.length - k) []
theorem clL_step (D : List (List UInt8)) (k : Nat) (h : k < D.length) : (clL D k).set k D[k] = clL D (k + 1) := by
  unfold clL
  have e : D.length - k = (D.length - (k + 1)) + 1 := by omega
  rw [e, List.replicate_succ, List.set_append_right _ _ (by simp; omega), List.length_take, Nat.min_eq_left (by omega), Nat.sub_self, List.set_cons_zero, List.take_succ_eq_append_getElem h, List.append_assoc]
  rfl
theorem clL_len (D : List (List UInt8)) (k : Nat) (h : k ≤ D.length) : (clL D k).length = D.length := by simp [clL]; omega
theorem clL_end (D : List (List UInt8)) : clL D D.length = D := by simp [clL]
theorem OwnN.read {w : World} {B : Nat} {v : Value} {l : List Nat} (h : OwnN w B v l) (hl : l ≠ []) : ∃ g cap, v = .slice (some ⟨g, 0, none⟩) l.length cap ∧ g < w.heap.size ∧ ∀ (w' : World), w'.heap[g]? = w.heap[g]? → ∀ j (hj : j < l.length), w'.cell? ⟨g, j, none⟩ = some (.int .i64 (l[j] : Nat)) := by
  rcases h.1.2 with ⟨rfl, hn⟩ | ⟨g, cap, cur, rfl, hb, hc, hl2, hm, hs, ht⟩
  · exact absurd (List.length_eq_zero_iff.1 hn) hl
  · refine ⟨g, cap, rfl, (Array.getElem?_eq_some_iff.1 hc).1, fun w' e j hj => ?_⟩
    rw [World.cell?_of_block (w := w) (by exact e), ← addr_add0]
    exact h.1.cells (g := g) rfl j (.int .i64 (l[j] : Nat)) (by simp [nVals, hj])
theorem OutV.store {W : World} {B g : Nat} {vs : List Value} {L : List (List UInt8)} (h : OutV W B g vs L) {v : Value} {b : List UInt8} (hv : ElG W B v b) (k : Nat) (hk : k < L.length) :
    W.frozen? ⟨g, k, none⟩ = false ∧ (∃ u, W.cell? ⟨g, k, none⟩ = some u) ∧ W.setCell ⟨g, k, none⟩ v = W.setRow g (vs.set k v).toArray ∧ OutV (W.setCell ⟨g, k, none⟩ v) B g (vs.set k v) (L.set k b) := by
  have e : W.setCell ⟨g, k, none⟩ v = W.setRow g (vs.set k v).toArray := by
    rw [setCell_eq_setRow _ _ _ _ _ _ _ h.row]
    simp
  refine ⟨frozen_of_row _ _ _ _ _ h.row, ⟨vs[k]'(by rw [h.len]; exact hk), ?_⟩, e, ?_⟩
  · rw [cell_of_row _ _ _ _ _ _ h.row]
    simp [h.len, hk]
  · rw [e]
    exact h.set hv k
theorem RdL.at {w : World} {A : Option Addr} {ls : List (List UInt8)} (h : RdL w A ls) (k : Nat) (hk : k < ls.length) : ∃ ad Aj cj, A = some ad ∧ ∀ W, Below w.heap.size w W → W.cell? (ad.add k) = some (.slice Aj ls[k].length cj) ∧ Rd W Aj ls[k] := by
  obtain ⟨ad, Aj, cj, h1, h2, h3, h4⟩ := h k hk
  refine ⟨ad, Aj, cj, h1, fun W hb => ⟨?_, h3.below hb⟩⟩
  obtain ⟨ad', Aj', cj', e1, e2, _, _⟩ := (h.below hb) k hk
  rw [hb.cell (by
    rcases Nat.lt_or_ge (ad.add k).block w.heap.size with h' | h'
    · exact h'
    · simp [World.cell?, Array.getElem?_eq_none h'] at h2)]
  exact h2
theorem mk_end {w W : World} {g n : Nat} {vs : List Value} {L : List (List UInt8)} (hO : OutV W w.heap.size g vs L) (hB : w.heap.size ≤ g) (hb : Below w.heap.size w W) (hL : L.length = n) : MkPost w (0, L) (.returned (.tuple #[.slice (some ⟨g, 0, none⟩) n n, .nilIface])) W := by
  subst hL
  exact ⟨_, _, rfl, hO.rdlb hB, hb⟩
theorem ElG.ofRow {W : World} {B b n : Nat} {L : List UInt8} (h : W.heap[b]? = some (.cells (bArr L) 5 (0, 0))) (hB : B ≤ b) (hL : L.length = n) : ElG W B (.slice (some ⟨b, 0, none⟩) n n) L := by
  subst hL
  exact ⟨_, _, rfl, Nat.le_refl _, .inr ⟨b, [], rfl, hB, (Array.getElem?_eq_some_iff.1 h).1, by simpa using h⟩⟩
theorem Off.drew {S : List Nat} {W W1 : World} (h : Off S W W1) : Off S W W1.drew := ⟨h.os, h.tape, h.output, h.size, h.block⟩
theorem emptyN_append : ∀ (a b : List (List UInt8)), emptyN (a ++ b) = emptyN a + emptyN b
  | [], b => by simp [emptyN]
  | x :: a, b => by
    simp only [List.cons_append, emptyN, emptyN_append a b]
    omega
theorem lost_cases (ls : List (List UInt8)) (n m : Nat) (hnm : n + m = ls.length) (hm : m ≤ 2) (hlo : (lostL 0 ls).length ≤ m) :
    lostL 0 (ls.take n) = [] ∨ (∃ x, lostL 0 (ls.take n) = [x] ∧ x < n ∧ 1 ≤ m ∧ ((ls.getD n []).length = 0 → m = 2)) ∨ ∃ x y, lostL 0 (ls.take n) = [x, y] ∧ x < n ∧ y < n ∧ x ≠ y ∧ m = 2 := by
  have hsum : emptyN (ls.take n) + emptyN (ls.drop n) ≤ m := by
    rw [← emptyN_append, List.take_append_drop, ← lostL_len ls 0]; exact hlo
  have hlen := lostL_len (ls.take n) 0
  have hlt : ∀ x ∈ lostL 0 (ls.take n), x < n := fun x hx => by
    obtain ⟨j, hj, e, _⟩ := lostL_mem _ _ _ hx
    simp at hj
    omega
  have hso := lostL_sorted (ls.take n) 0
  match hT : lostL 0 (ls.take n) with
  | [] => exact .inl rfl
  | [x] =>
    rw [hT] at hlen hlt
    simp at hlen
    refine .inr (.inl ⟨x, rfl, hlt x (by simp), by omega, fun h0 => ?_⟩)
    rcases (show m = 1 ∨ m = 2 by omega) with rfl | rfl
    · exfalso
      have hd : ls.drop n = ls[n]'(by omega) :: ls.drop (n + 1) := List.drop_eq_getElem_cons (by omega)
      have hg : ls.getD n [] = ls[n]'(by omega) := by simp [List.getD, show n < ls.length by omega]
      rw [hd] at hsum
      simp only [emptyN] at hsum
      rw [hg] at h0
      rw [if_pos h0] at hsum
      omega
    · rfl
  | [x, y] =>
    rw [hT] at hlen hlt hso
    simp at hlen
    have h1 : x < y := by simpa using hso
    exact .inr (.inr ⟨x, y, rfl, hlt x (by simp), hlt y (by simp), by omega, by omega⟩)
  | x :: y :: z :: r =>
    rw [hT] at hlen
    simp at hlen
    omega
set_option maxHeartbeats 4000000 in
set_option maxRecDepth 100000 in
theorem mend_calls (A : Option Addr) (c : Nat) (ls : List (List UInt8)) (lv : Int) (w : World) (hr : RdL w A ls) (hA : 0 < ls.length → ∃ b off, A = some ⟨b, off, none⟩) (hc : ls.length ≤ c) (hl : ls.length ≤ 1000) (hs : ∀ b ∈ ls, b.length ≤ 140737488351232) :
    Calls Tryd.prog 27 #[.slice A ls.length c, .int .i64 lv] w fun e W' => MkPost w (mendR ls lv) e W' := by
  obtain ⟨iS, hiS, hzS, hszS, hbS⟩ := info_parts infoS3
  have HC := Lib.hid (checked_calls A c ls lv w hr hl (fun b hb => by have := hs b hb; omega))
  have Hr := Lib.hid hr
  unfold mendR
  rcases chkR_cases ls lv with h | h | ⟨sz, n, m, h, hlv, hnm, k1, k2, k3, k4, k5, hsz⟩
  · rw [h] at HC ⊢
    rw [if_pos (by decide)]
    simp only [errV] at HC
    clear hr h
    go_enter Tryd.func27, Tryd.ntmps27
    go_wp2_with fail
    refine (HC.out).mono ?_
    rintro e W1 ⟨rfl, b1⟩
    have Hb1 := Lib.hid b1
    clear b1
    go_wp2_with fail
    go_ret2
    exact ⟨none, 0, rfl, RdLB.nil _ _ _, Hb1.out⟩
  · rw [h] at HC ⊢
    rw [if_pos (by decide)]
    simp only [errV] at HC
    clear hr h
    go_enter Tryd.func27, Tryd.ntmps27
    go_wp2_with fail
    refine (HC.out).mono ?_
    rintro e W1 ⟨rfl, b1⟩
    have Hb1 := Lib.hid b1
    clear b1
    go_wp2_with fail
    go_ret2
    exact ⟨none, 0, rfl, RdLB.nil _ _ _, Hb1.out⟩
  · rw [h] at HC ⊢
    rw [if_neg (by simp)]
    simp only [errV] at HC
    have HL := Lib.hid (fun W hr => lost_calls A c ls W hr hl)
    by_cases hlo : lv < (lostL 0 ls).length
    · rw [if_pos hlo]
      generalize lostL 0 ls = T at *
      clear hr h hlv
      go_enter Tryd.func27, Tryd.ntmps27
      go_wp2_with fail
      refine (HC.out).mono ?_
      rintro e W1 ⟨rfl, b1⟩
      have Hb1 := Lib.hid b1
      clear b1
      go_wp2_with fail
      refine (HL.out W1 (Hr.out.below Hb1.out)).mono ?_
      rintro e W2 ⟨v, rfl, ho, b2⟩
      have Hb2 := Lib.hid (Hb1.out.trans (b2.mono Hb1.out.size))
      obtain ⟨A2, c2, rfl⟩ : ∃ A2 c2, v = .slice A2 T.length c2 := by
        rcases ho.1.2 with ⟨hv, hn⟩ | ⟨g, cap, cur, hv, _⟩
        · exact ⟨none, 0, by rw [hv, hn]⟩
        · exact ⟨_, cap, hv⟩
      clear b2 ho
      go_wp2_with fail
      go_ret2
      exact ⟨none, 0, rfl, RdLB.nil _ _ _, Hb2.out⟩
    · rw [if_neg hlo]
      subst hlv
      obtain ⟨b0, off, hA0⟩ := hA (by omega)
      have hD : (ls.take n).length = n := by simp; omega
      have hall := (szL_all ls 0 sz hsz).2.1
      have HLD := Lib.hid (fun W (hr : RdL W A (ls.take n)) => lost_calls A c (ls.take n) W hr (by omega))
      have HM := Lib.hid (fun W (hr : RdL W (some ⟨b0, off, none⟩) (ls.take n)) => sums_calls b0 off c (ls.take n) sz W hr k1 k2 (by omega) (by omega) (fun b hb => hall b (List.mem_of_mem_take hb)))
      rw [hD, ← hA0] at HM
      rw [hD] at HLD
      have HCl := Lib.hid (fun (k : Nat) (hk : k < ls.length) Aj cj W (hr : Rd W Aj ls[k]) => clone_calls Aj cj ls[k] W hr (hs _ (List.getElem_mem hk)))
      have hlc := lost_cases ls n m hnm k5 (by omega)
      have Hall := Lib.hid hall
      have hup := fun W cap (h : n ≤ cap) => run_upto (P := Tryd.prog) W 23 33 iS Tryd.underlying23 hiS hszS A ls.length cap n (n : Int) rfl h
      have hup := fun W => hup W c (by omega)
      have hmk := fun W => run_make (P := Tryd.prog) W 23 33 iS _ Tryd.underlying23 hiS hzS .i64 .i64 (n : Int) (n : Int) (by omega) (by omega) (by rw [hbS]; omega) (by omega)
      have hmb : madeCells (Value.slice none 0 0).cells (n * iS.size) = (List.replicate n (Value.slice none 0 0)).toArray := by
        rw [hszS, Nat.mul_one]; exact madeS n
      simp only [Int.toNat_natCast, hmb] at hmk
      have hsub : (ls.length : Int) - (m : Int) = (n : Int) := by omega
      have HR : MkPost w (0, mendOut sz (ls.take n) (ls.getD n []) (ls.getD (n + 1) []) (lostL 0 (ls.take n))) = MkPost w (0, mendOut ((sz : Int), (0 : Int)).1.toNat (ls.take (ls.length - (m : Int).toNat)) (ls.getD (ls.length - (m : Int).toNat) []) (ls.getD (ls.length - (m : Int).toNat + 1) []) (lostL 0 (ls.take (ls.length - (m : Int).toNat)))) := by
        simp only [Int.toNat_natCast, show ls.length - m = n by omega]
      rw [← HR]
      have HD := Lib.hid hD
      have HA0 := Lib.hid hA0
      have HL0 := Lib.hid (show ∀ (k : Nat) (hk : k < (ls.take n).length), ∃ hk2 : k < ls.length, (ls.take n)[k] = ls[k] from fun k hk => ⟨by simp at hk; omega, by simp⟩)
      have Hlc := Lib.hid hlc
      have Hhs := Lib.hid hs
      clear hmb HR hD hall hlc hs hr h hsz hA
      generalize lostL 0 ls = T0 at *
      generalize hTT : lostL 0 (ls.take n) = T at *
      have HTT := Lib.hid hTT
      generalize hDD : ls.take n = D at *
      have HDD := Lib.hid hDD
      clear hTT hDD hA0
      go_enter Tryd.func27, Tryd.ntmps27
      go_wp2_with fail
      refine (HC.out).mono ?_
      rintro e W1 ⟨rfl, b1⟩
      have Hb1 := Lib.hid b1
      clear b1 HC
      go_wp2_with fail
      refine (HL.out W1 (Hr.out.below Hb1.out)).mono ?_
      rintro e W2 ⟨v, rfl, ho, b2⟩
      have Hb2 := Lib.hid (Hb1.out.trans (b2.mono Hb1.out.size))
      obtain ⟨A2, c2, rfl⟩ : ∃ A2 c2, v = .slice A2 T0.length c2 := by
        rcases ho.1.2 with ⟨hv, hn⟩ | ⟨g, cap, cur, hv, _⟩
        · exact ⟨none, 0, by rw [hv, hn]⟩
        · exact ⟨_, cap, hv⟩
      clear b2 ho HL
      go_wp2_with fail
      refine (HLD.out W2 (by have := (Hr.out.below Hb2.out).take n; rw [HDD.out] at this; exact this)).mono ?_
      rintro e W3 ⟨gv, rfl, ho, b3⟩
      have HO := Lib.hid ho
      have Hb3 := Lib.hid (Hb2.out.trans (b3.mono Hb2.out.size))
      clear b3 ho HLD
      go_wp2_with fail
      obtain ⟨Wm, hWm⟩ : ∃ Wm, W3.alloc (.cells (Array.replicate n (Value.slice none 0 0)) 33) = Wm := ⟨_, rfl⟩
      obtain ⟨g, hg⟩ : ∃ g, W3.heap.size = g := ⟨_, rfl⟩
      have hbm : Below w.heap.size w Wm := by rw [← hWm]; exact Hb3.out.alloc Hb3.out.size _
      have hsz : g < Wm.heap.size := by rw [← hWm, World.size_alloc, hg]; omega
      have hO0 : OutV Wm w.heap.size g (List.replicate n (.slice none 0 0)) (clL D 0) := by
        refine ⟨by rw [← hWm, ← hg, List.toArray_replicate]; exact heap_alloc_new _ _, by rw [clL_len _ _ (by omega)]; simp [HD.out], fun j h1 h2 => ?_⟩
        simp only [clL, List.take_zero, List.nil_append, List.getElem_replicate]
        exact ⟨none, 0, rfl, Nat.le_refl _, .inl rfl⟩
      have HG := Lib.hid (fun (W : World) (h : Off [g] Wm W) => show Below w.heap.size w W from h.to hbm hbm.size (by simp; rw [← hg]; exact Hb3.out.size))
      have HOm := Lib.hid (show OwnN Wm W2.heap.size gv T by
        rw [← hWm]
        exact ⟨World.ownsRow.alloc HO.out.1 _, HO.out.2⟩)
      have Hgw := Lib.hid (show w.heap.size ≤ g by rw [← hg]; exact Hb3.out.size)
      have HgO := Lib.hid (show ∀ gl, gv.ownBlock = some gl → gl < g from fun gl e => by rw [← hg]; exact (World.ownsRow.lt HO.out.1 gl e).2)
      have H0 := Lib.hid (show Off [g] Wm Wm ∧ ∃ vs, OutV Wm w.heap.size g vs (clL D 0) from ⟨Off.refl _ _, _, hO0⟩)
      have hmk2 := hmk W3
      simp only [hg, hWm] at hmk2
      rw [hWm, hg]
      have Hwm := Lib.hid (And.intro hsz hbm)
      clear hWm hbm hsz hO0 HO hmk hmk2 hg Hb3
      go_loopw [44] (fun i wr => ∃ k : Nat, k ≤ n ∧ i = .int .i64 k ∧ Hid (Off [g] Wm wr ∧ ∃ vs, OutV wr w.heap.size g vs (clL D k))) (fun i _ => n - (intOf i).toNat)
      case atStart => exact ⟨0, by omega, rfl, H0⟩
      case round =>
        clear H0
        obtain ⟨k, hk, rfl, H⟩ := hrel
        by_cases hlt : k < n
        · obtain ⟨hOff, vs, hO⟩ := H.out
          have hkl : k < ls.length := by omega
          obtain ⟨ad, Aj, cj, hA1, h1, h2, _⟩ := (Hr.out.below (HG.out wr hOff)) k hkl
          subst hA1
          have Hcl := Lib.hid (HCl.out k hkl Aj cj wr h2)
          have hstep := clL_step D k (by have := HD.out; omega)
          obtain ⟨_, hDk⟩ := HL0.out k (by have := HD.out; omega)
          rw [hDk] at hstep
          have hcl := clL_len D k (by have := HD.out; omega)
          have HS := Lib.hid (And.intro hOff (And.intro hO (And.intro hstep hcl)))
          clear hOff hO h2 hstep hcl hDk H
          generalize ls[k] = b at *
          go_wp2_with fail
          refine (Hcl.out).mono ?_
          rintro e W5 ⟨v, rfl, hv, hb5⟩
          obtain ⟨hOff, hO, hstep, hcl⟩ := HS.out
          have hO5 := hO.below hb5
          have hv5 := hv.mono (Nat.le_trans (HG.out wr hOff).size (Nat.le_refl _))
          obtain ⟨hf, ⟨u, hu⟩, hst, hO6⟩ := hO5.store hv5 k (by rw [hcl]; have := HD.out; omega)
          rw [hstep] at hO6
          have hOff6 : Off [g] Wm (W5.setCell ⟨g, k, none⟩ v) := by
            rw [hst]; exact (hOff.below hb5).setRow _ _ (.inl (by simp))
          obtain ⟨Av, cv, hv1, _⟩ := hv
          subst hv1
          have HF := Lib.hid (show Off [g] Wm (W5.setCell ⟨g, k, none⟩ (.slice Av b.length cv)) ∧ ∃ vs, OutV (W5.setCell ⟨g, k, none⟩ (.slice Av b.length cv)) w.heap.size g vs (clL D (k + 1)) from ⟨hOff6, _, hO6⟩)
          clear hOff hO hstep hcl hO5 hv5 hst hO6 hOff6 hb5 HS
          go_wp2_with fail
          exact ⟨⟨k + 1, by omega, by go_num, HF⟩, by simp [intOf]; omega⟩
        · obtain rfl : n = k := by omega
          obtain ⟨hOff, vs, hO⟩ := H.out
          rw [show clL D n = D by have := clL_end D; rwa [HD.out] at this] at hO
          have HW := Lib.hid (HG.out wr hOff)
          have HS := Lib.hid (And.intro hOff hO)
          clear hOff hO H
          go_wp2_with fail
          refine (HM.out wr (by have := (Hr.out.below HW.out).take n; rw [HDD.out] at this; exact this)).mono ?_
          rintro e W6 ⟨gp, gq, rfl, hp, hq, hgp, hgq, hne, b6⟩
          have Hp := Lib.hid hp
          have Hq := Lib.hid hq
          have Hgp := Lib.hid hgp
          have Hgq := Lib.hid hgq
          have Hne := Lib.hid hne
          have Hb6 := Lib.hid b6
          have HO6 := Lib.hid (HS.out.2.below b6)
          have HW6 := Lib.hid (HW.out.trans (b6.mono HW.out.size))
          clear hp hq hgp hgq hne b6
          have H7 := Lib.hid (fun (W : World) (h : Off [gp, gq] W6 W) => show Below w.heap.size w W ∧ Below wr.heap.size wr W from
            ⟨h.to HW6.out HW6.out.size (by have := HW.out.size; have := Hgp.out; have := Hgq.out; simp; omega), h.to Hb6.out Hb6.out.size (by have := Hgp.out; have := Hgq.out; simp; omega)⟩)
          have HO7 := Lib.hid (fun (W : World) (h : Off [gp, gq] W6 W) => HS.out.2.below (H7.out W h).2)
          have Hpl := Lib.hid (show (pAcc sz D.reverse).length = sz from pAcc_len sz _ (fun b hb => Hall.out b (by rw [List.mem_reverse, ← HDD.out] at hb; exact List.mem_of_mem_take hb)))
          have Hql := Lib.hid (show (qAcc sz D.reverse).length = sz from qAcc_len sz _ (fun b hb => Hall.out b (by rw [List.mem_reverse, ← HDD.out] at hb; exact List.mem_of_mem_take hb)))
          have Hwp := Lib.hid (show w.heap.size ≤ gp from Nat.le_trans HW.out.size Hgp.out)
          have Hwq := Lib.hid (show w.heap.size ≤ gq from Nat.le_trans HW.out.size Hgq.out)
          rcases Hlc.out with hT | ⟨x, hT, hx, hm1, hP0⟩ | ⟨x, y, hT, hx, hy, hxy, hm2⟩
          · subst hT
            have hgv := HOm.out.2.2 rfl
            subst hgv
            go_wp2_with fail
            go_ret2
            exact mk_end HO6.out Hgw.out HW6.out HD.out
          · subst hT
            obtain ⟨gl, cl, hgv, hgl, hrdg⟩ := HOm.out.read (by simp)
            subst hgv
            have Hgl := Lib.hid (fun (W : World) (h : Off [gp, gq] W6 W) => show W.cell? ⟨gl, 0, none⟩ = some (.int .i64 (x : Nat)) from hrdg W (((H7.out W h).2.block gl (Nat.lt_of_lt_of_le hgl HS.out.1.size)).trans (HS.out.1.block gl hgl (by have := HgO.out gl rfl; simp; omega))) 0 (by simp))
            clear hgl hrdg HOm HgO
            have hn1 : n < ls.length := by omega
            obtain ⟨ad, An, cn, hAn, hPw⟩ := Hr.out.at n hn1
            subst hAn
            have hgP : ls.getD n [] = ls[n] := by simp [List.getD, hn1]
            have hPl := Hall.out ls[n] (List.getElem_mem hn1)
            have HPw := Lib.hid hPw
            rw [hgP] at hP0
            have hc6 := (hPw W6 (H7.out W6 (Off.refl _ _)).1).1
            by_cases hp0 : 0 < ls[n].length
            · have Hadd := Lib.hid (add2_calls W6 gp _ ls[n] An cn sz sz Hp.out (fun L' => (HPw.out _ (H7.out _ ((Off.refl _ _).setRow gp _ (.inl (by simp)))).1).2) hPl (by rw [Hpl.out]; exact Nat.le_refl _) k2)
              have HMO := Lib.hid (show mendOut sz D (ls.getD n []) (ls.getD (n + 1) []) [x] = D.set x (xorL (pAcc sz D.reverse) ls[n]) by rw [hgP]; exact if_pos hp0)
              have hl2 := xorL_len (pAcc sz D.reverse) ls[n] (by rw [Hpl.out]; exact hPl)
              rw [Hpl.out] at hl2
              have Hl2 := Lib.hid hl2
              clear hl2 hPw hgP hP0
              generalize ls[n] = Pp at *
              generalize xorL (pAcc sz D.reverse) Pp = F at *
              go_wp2_with fail
              refine (Hadd.out).mono ?_
              rintro e W7 ⟨rfl, hW7⟩
              have hOff : Off [gp, gq] W6 W7 := by rw [hW7]; exact (Off.refl _ _).setRow gp _ (.inl (by simp))
              have hr7 : W7.heap[gp]? = some (.cells (bArr F) 5 (0, 0)) := by rw [hW7]; exact setRow_heap _ _ _ _ _ _ Hp.out
              have hg0 := Hgl.out W7 hOff
              obtain ⟨hf, ⟨u, hu⟩, hst, hO8⟩ := (HO7.out W7 hOff).store (ElG.ofRow hr7 Hwp.out Hl2.out) x (by rw [HD.out]; exact hx)
              have hb8 : Below w.heap.size w (W7.setCell ⟨g, x, none⟩ (.slice (some ⟨gp, 0, none⟩) sz sz)) := by
                rw [hst]; exact below_setRow (H7.out W7 hOff).1 Hgw.out _
              have HE := Lib.hid (And.intro hO8 hb8)
              clear hst hO8 hb8 hr7 hW7 hOff Hadd
              go_wp2_with fail
              go_ret2
              rw [HMO.out]
              exact mk_end HE.out.1 Hgw.out HE.out.2 (by simp [HD.out])
            · have hp1 : ls[n].length = 0 := by omega
              have hm2 := hP0 hp1
              obtain ⟨q, hq⟩ : ∃ q, n + 1 = q := ⟨_, rfl⟩
              have hn2 : q < ls.length := by omega
              obtain ⟨ad2, Aq, cq, hAq, hQw⟩ := Hr.out.at q hn2
              cases hAq
              have hgQ : ls.getD (n + 1) [] = ls[q] := by rw [hq]; simp [List.getD, hn2]
              have hQl := Hall.out ls[q] (List.getElem_mem hn2)
              have HQw := Lib.hid hQw
              have hcq6 := (hQw W6 (H7.out W6 (Off.refl _ _)).1).1
              have Hadd := Lib.hid (add2_calls W6 gq _ ls[q] Aq cq sz sz Hq.out (fun L' => (HQw.out _ (H7.out _ ((Off.refl _ _).setRow gq _ (.inl (by simp)))).1).2) hQl (by rw [Hql.out]; exact Nat.le_refl _) k2)
              have HMO := Lib.hid (show mendOut sz D (ls.getD n []) (ls.getD (n + 1) []) [x] = D.set x (mapK (254 * x) (xorL (qAcc sz D.reverse) ls[q])) by rw [hgP, hgQ]; exact if_neg hp0)
              have hl2 := xorL_len (qAcc sz D.reverse) ls[q] (by rw [Hql.out]; exact hQl)
              rw [Hql.out] at hl2
              have Hl2 := Lib.hid hl2
              have HX := Lib.hid (fun W => ppower_calls x (by omega) W)
              have HI := Lib.hid (fun W => show Calls Tryd.prog 43 #[.int .u8 (dblN x 1 : Nat)] W fun e w' => e = .returned (.int .u8 (dblN (254 * x) 1 : Nat)) ∧ W = w' by
                have := inverse_calls (dblN x 1) (dblN_lt x 1 (by omega)) W
                rwa [iterM_dbl] at this)
              have HB2 := Lib.hid (fun W g L m cap h1 h2 h3 => by_calls W g L (254 * x) cap m h1 h2 h3)
              have hxn : (x : Int) < n := by omega
              have hi1 : (n : Int) + 1 = (q : Int) := by omega
              have Hq2 := Lib.hid hq
              clear hl2 hPw hgP hP0 hQw hgQ hPl hQl hq
              rw [hp1] at hc6
              generalize ls[q] = Qq at *
              generalize xorL (qAcc sz D.reverse) Qq = F at *
              generalize dblN x 1 = px at *
              have HK := Lib.hid (show mapK (254 * x) (F.take sz) ++ F.drop sz = mapK (254 * x) F by
                rw [List.take_of_length_le (by rw [Hl2.out]; exact Nat.le_refl _), List.drop_of_length_le (by rw [Hl2.out]; exact Nat.le_refl _), List.append_nil])
              have Hl3 := Lib.hid (show (mapK (254 * x) F).length = sz by rw [mapK_len]; exact Hl2.out)
              generalize dblN (254 * x) 1 = pi at *
              go_wp2_with fail
              refine (Hadd.out).mono ?_
              rintro e W7 ⟨rfl, hW7⟩
              have hOff : Off [gp, gq] W6 W7 := by rw [hW7]; exact (Off.refl _ _).setRow gq _ (.inl (by simp))
              have hr7 : W7.heap[gq]? = some (.cells (bArr F) 5 (0, 0)) := by rw [hW7]; exact setRow_heap _ _ _ _ _ _ Hq.out
              have hg0 := Hgl.out W7 hOff
              have HB3 := Lib.hid (HB2.out W7 gq F sz sz hr7 (by rw [Hl2.out]; exact Nat.le_refl _) k2)
              have Hr7 := Lib.hid hr7
              have HOff := Lib.hid hOff
              clear hW7 Hadd hr7 hOff
              go_wp2_with fail
              refine (HX.out _).mono ?_
              rintro e w' ⟨rfl, rfl⟩
              go_wp2_with fail
              refine (HI.out _).mono ?_
              rintro e w' ⟨rfl, rfl⟩
              go_wp2_with fail
              refine (HB3.out).mono ?_
              rintro e W8 ⟨rfl, hW8⟩
              rw [HK.out] at hW8
              have hOff : Off [gp, gq] W6 W8 := by rw [hW8]; exact HOff.out.setRow gq _ (.inl (by simp))
              have hr8 : W8.heap[gq]? = some (.cells (bArr (mapK (254 * x) F)) 5 (0, 0)) := by rw [hW8]; exact setRow_heap _ _ _ _ _ _ Hr7.out
              have hg0 := Hgl.out W8 hOff
              obtain ⟨hf, ⟨u, hu⟩, hst, hO8⟩ := (HO7.out W8 hOff).store (ElG.ofRow hr8 Hwq.out Hl3.out) x (by rw [HD.out]; exact hx)
              have hb8 : Below w.heap.size w (W8.setCell ⟨g, x, none⟩ (.slice (some ⟨gq, 0, none⟩) sz sz)) := by
                rw [hst]; exact below_setRow (H7.out W8 hOff).1 Hgw.out _
              have HE := Lib.hid (And.intro hO8 hb8)
              clear hst hO8 hb8 hr8 hW8 hOff HB3
              go_wp2_with fail
              go_ret2
              rw [HMO.out]
              exact mk_end HE.out.1 Hgw.out HE.out.2 (by simp [HD.out])
          · subst hT
            subst hm2
            obtain ⟨gl, cl, hgv, hgl, hrdg⟩ := HOm.out.read (by simp)
            subst hgv
            have Hgl := Lib.hid (fun (W : World) (h : Off [gp, gq] W6 W) => show W.cell? ⟨gl, 0, none⟩ = some (.int .i64 (x : Nat)) ∧ W.cell? ⟨gl, 1, none⟩ = some (.int .i64 (y : Nat)) from
              (fun e => ⟨hrdg W e 0 (by simp), hrdg W e 1 (by simp)⟩) (((H7.out W h).2.block gl (Nat.lt_of_lt_of_le hgl HS.out.1.size)).trans (HS.out.1.block gl hgl (by have := HgO.out gl rfl; simp; omega))))
            have Hgg := Lib.hid (show gl ≠ g from fun e => by have := HgO.out gl rfl; omega)
            clear hgl hrdg HOm HgO
            have hn1 : n < ls.length := by omega
            obtain ⟨q, hq⟩ : ∃ q, n + 1 = q := ⟨_, rfl⟩
            have hn2 : q < ls.length := by omega
            have hi1 : (n : Int) + 1 = (q : Int) := by omega
            obtain ⟨ad, An, cn, hAn, hPw⟩ := Hr.out.at n hn1
            subst hAn
            obtain ⟨ad2, Aq, cq, hAq, hQw⟩ := Hr.out.at q hn2
            cases hAq
            have hgP : ls.getD n [] = ls[n] := by simp [List.getD, hn1]
            have hgQ : ls.getD (n + 1) [] = ls[q] := by rw [hq]; simp [List.getD, hn2]
            have hPl := Hall.out ls[n] (List.getElem_mem hn1)
            have hQl := Hall.out ls[q] (List.getElem_mem hn2)
            have HPw := Lib.hid hPw
            have HQw := Lib.hid hQw
            have hc6 := (hPw W6 (H7.out W6 (Off.refl _ _)).1).1
            have Hadd := Lib.hid (add2_calls W6 gp _ ls[n] An cn sz sz Hp.out (fun L' => (HPw.out _ (H7.out _ ((Off.refl _ _).setRow gp _ (.inl (by simp)))).1).2) hPl (by rw [Hpl.out]; exact Nat.le_refl _) k2)
            have HMO := Lib.hid (show mendOut sz D (ls.getD n []) (ls.getD (n + 1) []) [x, y] = (D.set x (bothQ y (lgk x y) (xorL (pAcc sz D.reverse) ls[n]) (xorL (qAcc sz D.reverse) ls[q]))).set y (bothP y (lgk x y) (xorL (pAcc sz D.reverse) ls[n]) (xorL (qAcc sz D.reverse) ls[q])) by rw [hgP, hgQ]; rfl)
            have hl2 := xorL_len (pAcc sz D.reverse) ls[n] (by rw [Hpl.out]; exact hPl)
            rw [Hpl.out] at hl2
            have Hl2 := Lib.hid hl2
            have hl3 := xorL_len (qAcc sz D.reverse) ls[q] (by rw [Hql.out]; exact hQl)
            rw [Hql.out] at hl3
            have Hl3 := Lib.hid hl3
            have Hadd2 := Lib.hid (fun (W7 : World) (h : Off [gp, gq] W6 W7) (hr7 : W7.heap[gq]? = some (.cells (bArr (qAcc sz D.reverse)) 5 (0, 0))) => add2_calls W7 gq _ ls[q] Aq cq sz sz hr7 (fun L' => (HQw.out _ (H7.out _ (h.setRow gq _ (.inl (by simp)))).1).2) hQl (by rw [Hql.out]; exact Nat.le_refl _) k2)
            clear hl2 hl3 hPw hQw hgP hgQ hPl hQl hq
            generalize ls[n] = Pp at *
            generalize ls[q] = Qq at *
            generalize xorL (pAcc sz D.reverse) Pp = Fp at *
            generalize xorL (qAcc sz D.reverse) Qq = Fq at *
            have HB := Lib.hid (fun (W : World) (h1 : W.heap[gp]? = some (.cells (bArr Fp) 5 (0, 0))) (h2 : W.heap[gq]? = some (.cells (bArr Fq) 5 (0, 0))) => both_calls W gp gq sz sz sz Fp Fq x y (lgk x y) h1 h2 Hne.out Hl2.out Hl3.out k2 (by omega) (by omega) (lgk_eq x y (by omega) (by omega) hxy))
            have Hlq := Lib.hid (show (bothQ y (lgk x y) Fp Fq).length = sz by rw [bothQ_len _ _ _ _ (by rw [Hl2.out, Hl3.out])]; exact Hl3.out)
            have Hlp := Lib.hid (show (bothP y (lgk x y) Fp Fq).length = sz by rw [bothP_len _ _ _ _ (by rw [Hl2.out, Hl3.out])]; exact Hl2.out)
            generalize bothQ y (lgk x y) Fp Fq = Gq at *
            generalize bothP y (lgk x y) Fp Fq = Gp at *
            go_wp2_with fail
            refine (Hadd.out).mono ?_
            rintro e W7 ⟨rfl, hW7⟩
            have hOff : Off [gp, gq] W6 W7 := by rw [hW7]; exact (Off.refl _ _).setRow gp _ (.inl (by simp))
            have Hp7 := Lib.hid (show W7.heap[gp]? = some (.cells (bArr Fp) 5 (0, 0)) by rw [hW7]; exact setRow_heap _ _ _ _ _ _ Hp.out)
            have Hq7 := Lib.hid (show W7.heap[gq]? = some (.cells (bArr (qAcc sz D.reverse)) 5 (0, 0)) by rw [hW7, setRow_other _ _ _ _ (Ne.symm Hne.out)]; exact Hq.out)
            have hc7 := (HQw.out W7 (H7.out W7 hOff).1).1
            have Hadd3 := Lib.hid (Hadd2.out W7 hOff Hq7.out)
            have HOff := Lib.hid hOff
            clear hW7 hOff Hadd Hadd2 hc6
            go_wp2_with fail
            refine (Hadd3.out).mono ?_
            rintro e W8 ⟨rfl, hW8⟩
            have hOff : Off [gp, gq] W6 W8 := by rw [hW8]; exact HOff.out.setRow gq _ (.inl (by simp))
            have Hp8 := Lib.hid (show W8.heap[gp]? = some (.cells (bArr Fp) 5 (0, 0)) by rw [hW8, setRow_other _ _ _ _ Hne.out]; exact Hp7.out)
            have Hq8 := Lib.hid (show W8.heap[gq]? = some (.cells (bArr Fq) 5 (0, 0)) by rw [hW8]; exact setRow_heap _ _ _ _ _ _ Hq7.out)
            have hg0 := (Hgl.out W8 hOff).1
            have hg1 := (Hgl.out W8 hOff).2
            have hg0d := (Hgl.out W8.drew hOff.drew).1
            have hg1d := (Hgl.out W8.drew hOff.drew).2
            have HOff8 := Lib.hid hOff
            have HBd := Lib.hid (HB.out W8.drew Hp8.out Hq8.out)
            have HB8 := Lib.hid (HB.out W8 Hp8.out Hq8.out)
            have hxn : (x : Int) < n := by omega
            have hyn : (y : Int) < n := by omega
            clear hW8 hOff Hadd3 hc7
            have Hfin := Lib.hid (show ∀ W9 : World, Off [gp, gq] W6 W9 → W9.heap[gp]? = some (.cells (bArr Gp) 5 (0, 0)) → W9.heap[gq]? = some (.cells (bArr Gq) 5 (0, 0)) →
                (W9.frozen? ⟨g, x, none⟩ = false ∧ ∃ u, W9.cell? ⟨g, x, none⟩ = some u) ∧ ((W9.setCell ⟨g, x, none⟩ (.slice (some ⟨gq, 0, none⟩) sz sz)).frozen? ⟨g, y, none⟩ = false ∧ ∃ u, (W9.setCell ⟨g, x, none⟩ (.slice (some ⟨gq, 0, none⟩) sz sz)).cell? ⟨g, y, none⟩ = some u) ∧
                ((W9.setCell ⟨g, x, none⟩ (.slice (some ⟨gq, 0, none⟩) sz sz)).cell? ⟨gl, 0, none⟩ = some (.int .i64 (x : Nat)) ∧ (W9.setCell ⟨g, x, none⟩ (.slice (some ⟨gq, 0, none⟩) sz sz)).cell? ⟨gl, 1, none⟩ = some (.int .i64 (y : Nat))) ∧
                (((W9.setCell ⟨g, x, none⟩ (.slice (some ⟨gq, 0, none⟩) sz sz)).setCell ⟨g, y, none⟩ (.slice (some ⟨gp, 0, none⟩) sz sz)).cell? ⟨gl, 0, none⟩ = some (.int .i64 (x : Nat)) ∧ ((W9.setCell ⟨g, x, none⟩ (.slice (some ⟨gq, 0, none⟩) sz sz)).setCell ⟨g, y, none⟩ (.slice (some ⟨gp, 0, none⟩) sz sz)).cell? ⟨gl, 1, none⟩ = some (.int .i64 (y : Nat))) ∧
                (∃ vs, OutV ((W9.setCell ⟨g, x, none⟩ (.slice (some ⟨gq, 0, none⟩) sz sz)).setCell ⟨g, y, none⟩ (.slice (some ⟨gp, 0, none⟩) sz sz)) w.heap.size g vs ((D.set x Gq).set y Gp)) ∧ Below w.heap.size w ((W9.setCell ⟨g, x, none⟩ (.slice (some ⟨gq, 0, none⟩) sz sz)).setCell ⟨g, y, none⟩ (.slice (some ⟨gp, 0, none⟩) sz sz)) from fun W9 h9 hp9 hq9 => by
              obtain ⟨f1, u1, s1, o1⟩ := (HO7.out W9 h9).store (ElG.ofRow hq9 Hwq.out Hlq.out) x (by rw [HD.out]; exact hx)
              have hpe : ElG (W9.setCell ⟨g, x, none⟩ (.slice (some ⟨gq, 0, none⟩) sz sz)) w.heap.size (.slice (some ⟨gp, 0, none⟩) sz sz) Gp := by
                rw [s1]; exact (ElG.ofRow hp9 Hwp.out Hlp.out).other (HO7.out W9 h9).row
              obtain ⟨f2, u2, s2, o2⟩ := o1.store hpe y (by simp [HD.out]; exact hy)
              have e1 : (W9.setCell ⟨g, x, none⟩ (.slice (some ⟨gq, 0, none⟩) sz sz)).heap[gl]? = W9.heap[gl]? := by rw [s1, setRow_other _ _ _ _ Hgg.out]
              have e2 : ((W9.setCell ⟨g, x, none⟩ (.slice (some ⟨gq, 0, none⟩) sz sz)).setCell ⟨g, y, none⟩ (.slice (some ⟨gp, 0, none⟩) sz sz)).heap[gl]? = W9.heap[gl]? := by rw [s2, setRow_other _ _ _ _ Hgg.out, e1]
              obtain ⟨c0, c1⟩ := Hgl.out W9 h9
              exact ⟨⟨f1, u1⟩, ⟨f2, u2⟩, ⟨by rw [World.cell?_of_block (w := W9) (by exact e1)]; exact c0, by rw [World.cell?_of_block (w := W9) (by exact e1)]; exact c1⟩,
                ⟨by rw [World.cell?_of_block (w := W9) (by exact e2)]; exact c0, by rw [World.cell?_of_block (w := W9) (by exact e2)]; exact c1⟩, ⟨_, o2⟩, by rw [s2, s1]; exact below_setRow (below_setRow (H7.out W9 h9).1 Hgw.out _) Hgw.out _⟩)
            go_wp2_with fail
            go_region_held3 (fun w' => w'.cell? ⟨gl, 0, none⟩ = some (.int .i64 (x : Nat)) ∧ w'.cell? ⟨gl, 1, none⟩ = some (.int .i64 (y : Nat)))
              (first | exact ⟨hg0d, hg1d⟩ | exact ⟨hg0, hg1⟩ | exact ⟨hg0e, hg1e⟩ | exact hgf | exact hgh | go_keep)
              (first | (go_at_call 41; refine (HBd.out).mono ?_; rintro e W9 ⟨rfl, hp9, hq9, hoff9⟩; have hoff10 := HOff8.out.drew.trans hoff9; have hg0e := (Hgl.out W9 hoff10).1; have hg1e := (Hgl.out W9 hoff10).2; obtain ⟨⟨f1, u1, hu1⟩, ⟨f2, u2, hu2⟩, hgf, hgh, ho, hb⟩ := Hfin.out W9 hoff10 hp9 hq9; have HE := Lib.hid (And.intro ho hb); clear ho hb hp9 hq9 hoff9 hoff10))
            all_goals
              go_wp2_with fail
              go_ret2
              rw [HMO.out]
              obtain ⟨⟨vs2, ho⟩, hb⟩ := HE.out
              exact mk_end ho Hgw.out hb (by simp [HD.out])
end Go.Proofs.YtfajgnaphekdhaaDoor
