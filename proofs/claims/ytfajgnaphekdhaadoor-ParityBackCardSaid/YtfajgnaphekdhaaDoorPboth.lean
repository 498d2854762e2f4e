/- The walks of parity.both and parity.checked. -/
import Derived.Test.YtfajgnaphekdhaaDoorPab
namespace Go.Proofs.YtfajgnaphekdhaaDoor
open Go.RowKit
set_option linter.unusedSimpArgs false
set_option linter.unusedVariables false
/-- alike but for the rows S, and what is new -/
structure Off (S : List Nat) (W W' : World) : Prop where
  os : W'.os = W.os
  tape : W'.tape = W.tape
  output : W'.output = W.output
  size : W.heap.size ≤ W'.heap.size
  block : ∀ k, k < W.heap.size → k ∉ S → W'.heap[k]? = W.heap[k]?
theorem Off.refl (S : List Nat) (W : World) : Off S W W := ⟨rfl, rfl, rfl, Nat.le_refl _, fun _ _ _ => rfl⟩
theorem Off.below {S : List Nat} {W W1 W2 : World} (h : Off S W W1) (hb : Below W1.heap.size W1 W2) : Off S W W2 :=
  ⟨hb.os.trans h.os, hb.tape.trans h.tape, hb.output.trans h.output, Nat.le_trans h.size hb.size, fun k h1 h2 => (hb.block k (Nat.lt_of_lt_of_le h1 h.size)).trans (h.block k h1 h2)⟩
theorem Off.trans {S : List Nat} {W W1 W2 : World} (h : Off S W W1) (k : Off S W1 W2) : Off S W W2 :=
  ⟨k.os.trans h.os, k.tape.trans h.tape, k.output.trans h.output, Nat.le_trans h.size k.size, fun j h1 h2 => (k.block j (Nat.lt_of_lt_of_le h1 h.size) h2).trans (h.block j h1 h2)⟩
theorem Off.mono {S S' : List Nat} {W W1 : World} (h : Off S W W1) (hs : ∀ g ∈ S, g ∈ S') : Off S' W W1 :=
  ⟨h.os, h.tape, h.output, h.size, fun k h1 h2 => h.block k h1 fun e => h2 (hs k e)⟩
theorem Off.setRow {S : List Nat} {W W1 : World} (h : Off S W W1) (g : Nat) (C : Array Value) (hg : g ∈ S ∨ W.heap.size ≤ g) : Off S W (W1.setRow g C) :=
  ⟨h.os, h.tape, h.output, by rw [setRow_size]; exact h.size, fun k h1 h2 => by
    rw [setRow_other _ _ _ _ (by rintro rfl; rcases hg with hg | hg; exact h2 hg; omega)]
    exact h.block k h1 h2⟩
/-- below block B nothing has changed, if the rows lie behind -/
theorem Off.to {S : List Nat} {w W W1 : World} {B : Nat} (h : Off S W W1) (hb : Below B w W) (hB : B ≤ W.heap.size) (hS : ∀ g ∈ S, B ≤ g) : Below B w W1 :=
  ⟨h.os.trans hb.os, h.tape.trans hb.tape, h.output.trans hb.output, Nat.le_trans hb.size h.size, fun k hk => (h.block k (Nat.lt_of_lt_of_le hk hB) fun e => by have := hS k e; omega).trans (hb.block k hk)⟩
theorem mapK_len (n : Nat) (L : List UInt8) : (mapK n L).length = L.length := by simp [mapK]
def bothQ (y k : Nat) (Lp Lq : List UInt8) : List UInt8 := mapK (254 * k) (xorL Lq (mapK y Lp))
def bothP (y k : Nat) (Lp Lq : List UInt8) : List UInt8 := xorL Lp (bothQ y k Lp Lq)
theorem bothQ_len (y k : Nat) (Lp Lq : List UInt8) (h : Lp.length = Lq.length) : (bothQ y k Lp Lq).length = Lq.length := by
  unfold bothQ
  rw [mapK_len, xorL_len _ _ (by rw [mapK_len]; omega)]
theorem bothP_len (y k : Nat) (Lp Lq : List UInt8) (h : Lp.length = Lq.length) : (bothP y k Lp Lq).length = Lp.length := by
  unfold bothP
  rw [xorL_len _ _ (by rw [bothQ_len _ _ _ _ h]; omega)]
set_option maxHeartbeats 1000000 in
set_option maxRecDepth 100000 in
theorem both_calls (w : World) (gp gq n cp cq : Nat) (Lp Lq : List UInt8) (x y k : Nat) (hp : w.heap[gp]? = some (.cells (bArr Lp) 5 (0, 0))) (hq : w.heap[gq]? = some (.cells (bArr Lq) 5 (0, 0))) (hne : gp ≠ gq)
    (lp : Lp.length = n) (lq : Lq.length = n) (hn : n ≤ 4096) (hx : x ≤ 1000) (hy : y ≤ 1000) (hk : dblN x 1 ^^^ dblN y 1 = dblN k 1) :
    Calls Tryd.prog 41 #[.slice (some ⟨gp, 0, none⟩) n cp, .slice (some ⟨gq, 0, none⟩) n cq, .int .i64 x, .int .i64 y] w fun e W' => e = .returned (.tuple #[.slice (some ⟨gq, 0, none⟩) n cq, .slice (some ⟨gp, 0, none⟩) n cp]) ∧
      W'.heap[gp]? = some (.cells (bArr (bothP y k Lp Lq)) 5 (0, 0)) ∧ W'.heap[gq]? = some (.cells (bArr (bothQ y k Lp Lq)) 5 (0, 0)) ∧ Off [gp, gq] w W' := by
  have hgp := (Array.getElem?_eq_some_iff.1 hp).1
  have hgq := (Array.getElem?_eq_some_iff.1 hq).1
  have H1 := Lib.hid (clonep_calls ⟨gp, 0, none⟩ cp Lp w (Rd.block hp ⟨[], by simp⟩) (by omega))
  rw [lp] at H1
  have Hp := Lib.hid hp
  have Hq := Lib.hid hq
  have Hgp := Lib.hid hgp
  have Hgq := Lib.hid hgq
  have Hne := Lib.hid hne
  have Hlp := Lib.hid lp
  have Hlq := Lib.hid lq
  have hxo := u8_xor_nat (dblN x 1) (dblN y 1) (dblN_lt x 1 (by omega)) (dblN_lt y 1 (by omega))
  rw [hk] at hxo
  have HX := Lib.hid (fun W => ppower_calls x hx W)
  have HY := Lib.hid (fun W => ppower_calls y hy W)
  have HB := Lib.hid (fun W g L m cap h1 h2 h3 => by_calls W g L y cap m h1 h2 h3)
  have HI := Lib.hid (fun W => show Calls Tryd.prog 43 #[.int .u8 (dblN k 1 : Nat)] W fun e w' => e = .returned (.int .u8 (dblN (254 * k) 1 : Nat)) ∧ W = w' by
    have := inverse_calls (dblN k 1) (dblN_lt k 1 (by omega)) W
    rwa [iterM_dbl] at this)
  have HB2 := Lib.hid (fun W g L m cap h1 h2 h3 => by_calls W g L (254 * k) cap m h1 h2 h3)
  have HQ0 := Lib.hid (show bothQ y k Lp Lq = mapK (254 * k) (xorL Lq (mapK y Lp)) from rfl)
  have HP0 := Lib.hid (show bothP y k Lp Lq = xorL Lp (bothQ y k Lp Lq) from rfl)
  generalize dblN x 1 = px at *
  generalize dblN y 1 = py at *
  generalize dblN k 1 = pk at *
  generalize dblN (254 * k) 1 = pi at *
  generalize bothP y k Lp Lq = Fp at *
  generalize bothQ y k Lp Lq = Fq at *
  clear hp hq hgp hgq hne lp lq hk
  go_enter Tryd.func41, Tryd.ntmps41
  go_wp2_with fail
  refine (H1.out).mono ?_
  rintro e W1 ⟨gt, X, ct, rfl, hgt, ht, hb1⟩
  have HT := Lib.hid ht
  have Hgt := Lib.hid hgt
  have H2 := Lib.hid (HB.out W1 gt (Lp ++ X) n ct ht (by have := Hlp.out; simp; omega) hn)
  have HO1 := Lib.hid ((Off.refl [gp, gq] w).below hb1)
  have HP1 := Lib.hid ((hb1.block gp Hgp.out).trans Hp.out)
  have HQ1 := Lib.hid ((hb1.block gq Hgq.out).trans Hq.out)
  clear ht hgt hb1 H1
  go_wp2_with fail
  refine (HY.out _).mono ?_
  rintro e w' ⟨rfl, rfl⟩
  go_wp2_with fail
  refine (H2.out).mono ?_
  rintro e W2 ⟨rfl, hW2⟩
  have e2 : mapK y ((Lp ++ X).take n) ++ (Lp ++ X).drop n = mapK y Lp ++ X := by
    rw [← Hlp.out, List.take_left, List.drop_left]
  rw [e2] at hW2
  have hlt1 : (mapK y Lp).length = n := by rw [mapK_len]; exact Hlp.out
  have HT2 := Lib.hid (show W2.heap[gt]? = some (.cells (bArr (mapK y Lp ++ X)) 5 (0, 0)) by rw [hW2]; exact setRow_heap _ _ _ _ _ _ HT.out)
  have HP2 := Lib.hid (show W2.heap[gp]? = some (.cells (bArr Lp) 5 (0, 0)) by rw [hW2, setRow_other _ _ _ _ (by have := Hgt.out; have := Hgp.out; omega)]; exact HP1.out)
  have HQ2 := Lib.hid (show W2.heap[gq]? = some (.cells (bArr Lq) 5 (0, 0)) by rw [hW2, setRow_other _ _ _ _ (by have := Hgt.out; have := Hgq.out; omega)]; exact HQ1.out)
  have HO2 := Lib.hid (show Off [gp, gq] w W2 by rw [hW2]; exact HO1.out.setRow _ _ (.inr Hgt.out))
  have H3 := add2_calls W2 gq Lq (mapK y Lp) (some ⟨gt, 0, none⟩) ct cq n HQ2.out (fun L' => Rd.block (by rw [setRow_other _ _ _ _ (by have := Hgt.out; have := Hgq.out; omega)]; exact HT2.out) ⟨X, rfl⟩) (by omega) (by have := Hlq.out; omega) hn
  rw [hlt1] at H3
  have H3 := Lib.hid H3
  clear hW2 e2 H2 hlt1
  go_wp2_with fail
  refine (H3.out).mono ?_
  rintro e W3 ⟨rfl, hW3⟩
  have HP3 := Lib.hid (show W3.heap[gp]? = some (.cells (bArr Lp) 5 (0, 0)) by rw [hW3, setRow_other _ _ _ _ Hne.out]; exact HP2.out)
  have HQ3 := Lib.hid (show W3.heap[gq]? = some (.cells (bArr (xorL Lq (mapK y Lp))) 5 (0, 0)) by rw [hW3]; exact setRow_heap _ _ _ _ _ _ HQ2.out)
  have HO3 := Lib.hid (show Off [gp, gq] w W3 by rw [hW3]; exact HO2.out.setRow _ _ (.inl (by simp)))
  have Hl3 := Lib.hid (show (xorL Lq (mapK y Lp)).length = n by rw [xorL_len _ _ (by rw [mapK_len]; have := Hlp.out; have := Hlq.out; omega)]; exact Hlq.out)
  have H4 := Lib.hid (HB2.out W3 gq _ n cq HQ3.out (by have := Hl3.out; omega) hn)
  clear hW3 H3
  go_wp2_with fail
  refine (HX.out _).mono ?_
  rintro e w' ⟨rfl, rfl⟩
  go_wp2_with fail
  refine (HY.out _).mono ?_
  rintro e w' ⟨rfl, rfl⟩
  go_wp2_with fail
  refine (HI.out _).mono ?_
  rintro e w' ⟨rfl, rfl⟩
  go_wp2_with fail
  refine (H4.out).mono ?_
  rintro e W4 ⟨rfl, hW4⟩
  have e4 : mapK (254 * k) ((xorL Lq (mapK y Lp)).take n) ++ (xorL Lq (mapK y Lp)).drop n = Fq := by
    rw [HQ0.out, List.take_of_length_le (by rw [Hl3.out]; exact Nat.le_refl _), List.drop_of_length_le (by rw [Hl3.out]; exact Nat.le_refl _), List.append_nil]
  rw [e4] at hW4
  have hl4 : Fq.length = n := by rw [HQ0.out, mapK_len]; exact Hl3.out
  have HP4 := Lib.hid (show W4.heap[gp]? = some (.cells (bArr Lp) 5 (0, 0)) by rw [hW4, setRow_other _ _ _ _ Hne.out]; exact HP3.out)
  have HQ4 := Lib.hid (show W4.heap[gq]? = some (.cells (bArr Fq) 5 (0, 0)) by rw [hW4]; exact setRow_heap _ _ _ _ _ _ HQ3.out)
  have HO4 := Lib.hid (show Off [gp, gq] w W4 by rw [hW4]; exact HO3.out.setRow _ _ (.inl (by simp)))
  have H5 := add2_calls W4 gp Lp Fq (some ⟨gq, 0, none⟩) cq cp n HP4.out (fun L' => Rd.block (by rw [setRow_other _ _ _ _ (Ne.symm Hne.out)]; exact HQ4.out) ⟨[], by simp⟩) (by omega) (by have := Hlp.out; omega) hn
  rw [hl4] at H5
  have H5 := Lib.hid H5
  clear hW4 e4 H4 hl4
  go_wp2_with fail
  refine (H5.out).mono ?_
  rintro e W5 ⟨rfl, hW5⟩
  have HF := Lib.hid (show W5.heap[gp]? = some (.cells (bArr Fp) 5 (0, 0)) ∧ W5.heap[gq]? = some (.cells (bArr Fq) 5 (0, 0)) ∧ Off [gp, gq] w W5 by
    rw [hW5]
    exact ⟨by rw [HP0.out]; exact setRow_heap _ _ _ _ _ _ HP4.out, by rw [setRow_other _ _ _ _ (Ne.symm Hne.out)]; exact HQ4.out, HO4.out.setRow _ _ (.inl (by simp))⟩)
  clear hW5 H5
  go_wp2_with fail
  go_ret2
  exact ⟨rfl, HF.out⟩
/-- what checked answers: the size, and the error's number -/
def chkR (ls : List (List UInt8)) (lv : Int) : Int × Int :=
  if lv < 0 ∨ 2 < lv then (0, 5) else if (sizedR ls ((ls.length : Int) - lv)).2 = false then (0, 10) else ((sizedR ls ((ls.length : Int) - lv)).1, 0)
set_option maxHeartbeats 1000000 in
set_option maxRecDepth 100000 in
theorem checked_calls (A : Option Addr) (c : Nat) (ls : List (List UInt8)) (lv : Int) (w : World) (hr : RdL w A ls) (hl : ls.length ≤ 1000) (hs : ∀ b ∈ ls, b.length ≤ 140737488355328) :
    Calls Tryd.prog 38 #[.slice A ls.length c, .int .i64 lv] w fun e W' => e = .returned (.tuple #[.int .i64 (chkR ls lv).1, errV (chkR ls lv).2]) ∧ Below w.heap.size w W' := by
  unfold chkR
  by_cases hlv : lv < 0 ∨ 2 < lv
  · rw [if_pos hlv]
    go_enter Tryd.func38, Tryd.ntmps38
    rcases hlv with h | h
    · go_wp2_with fail
      go_ret2
      exact ⟨rfl, Below.refl _ _⟩
    · have h2 : ¬ lv < 0 := by omega
      go_wp2_with fail
      go_ret2
      exact ⟨rfl, Below.refl _ _⟩
  · rw [if_neg hlv]
    have h1 : ¬ lv < 0 := by omega
    have h2 : ¬ 2 < lv := by omega
    have HS := Lib.hid (sized_calls A c ls ((ls.length : Int) - lv) w hr hs hl)
    cases hok : (sizedR ls ((ls.length : Int) - lv)).2
    · rw [if_pos rfl]
      rw [hok] at HS
      generalize (sizedR ls ((ls.length : Int) - lv)).1 = z at *
      clear hr hlv hok
      go_enter Tryd.func38, Tryd.ntmps38
      go_wp2_with fail
      refine (HS.out).mono ?_
      rintro e W1 ⟨rfl, b1⟩
      have Hb1 := Lib.hid b1
      clear b1
      go_wp2_with fail
      go_ret2
      exact ⟨rfl, Hb1.out⟩
    · rw [if_neg (by decide)]
      rw [hok] at HS
      generalize (sizedR ls ((ls.length : Int) - lv)).1 = z at *
      clear hr hlv hok
      go_enter Tryd.func38, Tryd.ntmps38
      go_wp2_with fail
      refine (HS.out).mono ?_
      rintro e W1 ⟨rfl, b1⟩
      have Hb1 := Lib.hid b1
      clear b1
      go_wp2_with fail
      go_ret2
      exact ⟨rfl, Hb1.out⟩
end Go.Proofs.YtfajgnaphekdhaaDoor
