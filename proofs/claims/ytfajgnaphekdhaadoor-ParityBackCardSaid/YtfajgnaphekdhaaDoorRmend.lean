/- The walk of bedrockref.Mend. Condition: what found answers. -/
import Derived.Test.YtfajgnaphekdhaaDoorRfound
import Derived.Test.YtfajgnaphekdhaaDoorPoutw
import Derived.Deep.RegionLaw
import Derived.Deep.Cut
namespace Go.Proofs.YtfajgnaphekdhaaDoor
open Go.RowKit
set_option linter.unusedSimpArgs false
set_option linter.unusedVariables false
/-- one byte more of each piece that is lost -/
def putL : List UInt8 → List (List UInt8) → List (List UInt8) → List (List UInt8)
  | fl, o :: os, b :: r => if b.length = 0 then (o ++ [fl.headD 0]) :: putL fl.tail os r else o :: putL fl os r
  | _, os, _ => os
theorem putL_len : ∀ (D L : List (List UInt8)) (fl : List UInt8), (putL fl L D).length = L.length
  | [], L, fl => by cases L <;> rfl
  | b :: r, [], fl => rfl
  | b :: r, o :: os, fl => by
    simp only [putL]
    split <;> simp [putL_len r os]
/-- the data, t bytes of what is lost -/
def outT (fnd : Nat → List UInt8) (D : List (List UInt8)) (t : Nat) : List (List UInt8) := (List.range t).foldl (fun L t => putL (fnd t) L D) D
theorem outT_succ (fnd : Nat → List UInt8) (D : List (List UInt8)) (t : Nat) : outT fnd D (t + 1) = putL (fnd t) (outT fnd D t) D := by
  simp [outT, List.range_succ]
theorem outT_len (fnd : Nat → List UInt8) (D : List (List UInt8)) : ∀ t, (outT fnd D t).length = D.length
  | 0 => rfl
  | t + 1 => by rw [outT_succ, putL_len, outT_len fnd D t]
/-- the copy that found looks at -/
def useL (ls : List (List UInt8)) (n m : Nat) : List (List UInt8) := if emptyN (ls.take n) = 1 ∧ m = 2 ∧ 0 < (ls.getD n []).length then ls.set (n + 1) [] else ls
theorem useL_len (ls : List (List UInt8)) (n m : Nat) : (useL ls n m).length = ls.length := by
  unfold useL; split <;> simp
def RmI1 (w Wu : World) (D : List (List UInt8)) (k : Nat) (v : Value) (wr : World) : Prop := Below Wu.heap.size Wu wr ∧ ∃ vs, OutW wr Wu.heap.size v vs (D.take k)
def RmI2 (Wu : World) (L : List (List UInt8)) (bd : Nat) (v : Value) (wr : World) : Prop := Below Wu.heap.size Wu wr ∧ (∀ b ∈ L, b.length ≤ bd) ∧ ∃ vs, OutW wr Wu.heap.size v vs L
def RmI3 (Wu : World) (D F : List (List UInt8)) (bd gv : Nat) (j : Nat) (fv v : Value) (wr : World) : Prop := ∃ L fk AF cF vs, fv = .slice AF fk.length cF ∧ (fk ≠ [] → ∃ b off, AF = some ⟨b, off, none⟩ ∧ b < wr.heap.size ∧ gv ≠ b ∧ ∀ i (h : i < vs.length), vs[i].ownBlock ≠ some b) ∧ Rd wr AF fk ∧ fk.length ≤ cF ∧ emptyN (D.drop j) ≤ fk.length ∧
  Below Wu.heap.size Wu wr ∧ (∀ b ∈ L, b.length ≤ bd + j) ∧ OutW wr Wu.heap.size v vs L ∧ L.length = D.length ∧ L.take j ++ putL fk (L.drop j) (D.drop j) = F
set_option maxHeartbeats 1000000 in
set_option maxRecDepth 100000 in
theorem rmend_err (A : Option Addr) (c : Nat) (ls : List (List UInt8)) (lv z : Int) (w : World) (hr : RdL w A ls) (hl : ls.length ≤ 1000) (hs : ∀ b ∈ ls, b.length ≤ 140737488351232)
    (h : ((lv < 0 ∨ 2 < lv) ∧ z = 5) ∨ (¬ (lv < 0 ∨ 2 < lv) ∧ refSize ls ((ls.length : Int) - lv) < 0 ∧ z = 10) ∨ (¬ (lv < 0 ∨ 2 < lv) ∧ ¬ refSize ls ((ls.length : Int) - lv) < 0 ∧ lv < (emptyN ls : Int) ∧ z = 11)) :
    Calls Tryd.prog 13 #[.slice A ls.length c, .int .i64 lv] w fun e W' => RmPost w (z, []) e W' := by
  have HS := Lib.hid (refSize_calls A c ls ((ls.length : Int) - lv) w hr (fun b hb => by have := hs b hb; omega) hl)
  have HE := Lib.hid (fun W hr => empty_calls A c ls W hr hl)
  have Hr := Lib.hid hr
  have hele := emptyN_le ls
  rcases h with ⟨hlv, rfl⟩ | ⟨hlv, hn, rfl⟩ | ⟨hlv, hn, he, rfl⟩
  · clear hr
    go_enter Tryd.func13, Tryd.ntmps13
    rcases hlv with h | h
    · go_wp2_with fail
      go_ret2
      exact ⟨none, 0, rfl, RdL.nil _ _, Below.refl _ _⟩
    · have h2 : ¬ lv < 0 := by omega
      go_wp2_with fail
      go_ret2
      exact ⟨none, 0, rfl, RdL.nil _ _, Below.refl _ _⟩
  · have h1 : ¬ lv < 0 := by omega
    have h2 : ¬ 2 < lv := by omega
    generalize refSize ls ((ls.length : Int) - lv) = z at *
    clear hr hlv
    go_enter Tryd.func13, Tryd.ntmps13
    go_wp2_with fail
    refine (HS.out).mono ?_
    rintro e W1 ⟨rfl, b1⟩
    have Hb1 := Lib.hid b1
    clear b1
    go_wp2_with fail
    go_ret2
    exact ⟨none, 0, rfl, RdL.nil _ _, Hb1.out⟩
  · have h1 : ¬ lv < 0 := by omega
    have h2 : ¬ 2 < lv := by omega
    generalize refSize ls ((ls.length : Int) - lv) = z at *
    generalize emptyN ls = en at *
    clear hr hlv
    go_enter Tryd.func13, Tryd.ntmps13
    go_wp2_with fail
    refine (HS.out).mono ?_
    rintro e W1 ⟨rfl, b1⟩
    have Hb1 := Lib.hid b1
    clear b1
    go_wp2_with fail
    refine (HE.out W1 (Hr.out.below Hb1.out)).mono ?_
    rintro e W2 ⟨rfl, b2⟩
    have Hb2 := Lib.hid (Hb1.out.trans (b2.mono Hb1.out.size))
    clear b2
    go_wp2_with fail
    go_ret2
    exact ⟨none, 0, rfl, RdL.nil _ _, Hb2.out⟩
theorem UseP.below {w W W' : World} {v : Value} {xs : List Value} {ls : List (List UInt8)} (h : UseP w W v xs ls) (hb : Below W.heap.size W W') : UseP w W' v xs ls :=
  ⟨World.ownsRow.kept (row := none) h.own ⟨hb.os, hb.tape, hb.output, hb.size, fun k hk _ => hb.block k hk⟩ (by cases v.ownBlock <;> simp), h.el⟩
theorem OwnB.mono {w : World} {B B' : Nat} {e : TypeId} {v : Value} {bs : List UInt8} (h : OwnB w B e v bs) (hb : B' ≤ B) : OwnB w B' e v bs := owns_mono h hb
theorem Rd.inBlock {w w' : World} {b off : Nat} {bs : List UInt8} (h : Rd w (some ⟨b, off, none⟩) bs) (e : w'.heap[b]? = w.heap[b]?) : Rd w' (some ⟨b, off, none⟩) bs := fun j hj => by
  obtain ⟨ad, e1, e2⟩ := h j hj
  cases e1
  refine ⟨_, rfl, ?_⟩
  rw [addr_lit2] at e2 ⊢
  rw [← e2]
  exact World.cell?_of_block e
theorem putL_nil (fl : List UInt8) (D : List (List UInt8)) : putL fl [] D = [] := by cases D <;> rfl
set_option maxHeartbeats 8000000 in
set_option maxRecDepth 100000 in
theorem rmend_ok (A : Option Addr) (c : Nat) (ls : List (List UInt8)) (n m sz : Nat) (fnd : Nat → List UInt8) (w : World) (hr : RdL w A ls) (hc : ls.length ≤ c) (hl : ls.length ≤ 1000) (hs : ∀ b ∈ ls, b.length ≤ sz)
    (hnm : n + m = ls.length) (hm : m ≤ 2) (hsz : refSize ls ((ls.length : Int) - (m : Int)) = (sz : Int)) (hsz2 : sz ≤ 4096) (hn0 : 0 < n) (hn16 : n ≤ 16) (he : emptyN ls ≤ m) (hfl : ∀ t, t < sz → (fnd t).length = emptyN (ls.take n))
    (hfd : ∀ t, t < sz → ∀ W Au cu, RdL W Au (useL ls n m) → ls.length ≤ cu → Calls Tryd.prog 28 #[.slice Au ls.length cu, .int .i64 m, .int .i64 t] W fun e W' => FndPost W (fnd t) e W') :
    Calls Tryd.prog 13 #[.slice A ls.length c, .int .i64 m] w fun e W' => RmPost w (0, outT fnd (ls.take n) sz) e W' := by
  obtain ⟨iS, hiS, hszS⟩ := infoS
  obtain ⟨i5, hi, hz0, hz1, hz2⟩ := info_parts info5
  have hup := fun W => run_upto (P := Tryd.prog) W 23 33 iS Tryd.underlying23 hiS hszS A ls.length c n (n : Int) rfl (by omega)
  have hsub : (ls.length : Int) - (m : Int) = (n : Int) := by omega
  have hD : (ls.take n).length = n := by simp; omega
  have hS0 := refSize_calls A c ls ((ls.length : Int) - (m : Int)) w hr (fun b hb => by have := hs b hb; omega) hl
  rw [hsz, hsub] at hS0
  have HS := Lib.hid hS0
  clear hS0
  have HE := Lib.hid (fun W hr => empty_calls A c ls W hr hl)
  have HE2 := Lib.hid (fun W (hr : RdL W A ls) => show Calls Tryd.prog 24 #[.slice A n c] W fun e w' => e = .returned (.int .i64 (emptyN (ls.take n) : Nat)) ∧ Below W.heap.size W w' by
    have := empty_calls A c (ls.take n) W (hr.take n) (by omega)
    rwa [hD] at this)
  have Hr := Lib.hid hr
  have Hs := Lib.hid hs
  have HD := Lib.hid hD
  have Hfl := Lib.hid hfl
  have hn1 : n ≤ ls.length := by omega
  have HU := Lib.hid (fun (W : World) (hb : Below w.heap.size w W) => use_run (c := c) hb hr (by omega) hl)
  have hul := useL_len ls n m
  obtain ⟨cond, hcond⟩ : ∃ cond : Prop, (emptyN (ls.take n) = 1 ∧ m = 2 ∧ 0 < (ls.getD n []).length) = cond := ⟨_, rfl⟩
  have hdec : ∃ bc : Bool, (bc = true ↔ cond) := by
    by_cases h : cond
    · exact ⟨true, by simp [h]⟩
    · exact ⟨false, by simp [h]⟩
  obtain ⟨bc, hbc⟩ := hdec
  have Hbc := Lib.hid hbc
  have Hcond := Lib.hid hcond
  have Huse := Lib.hid (show useL ls n m = if bc = true then ls.set (n + 1) [] else ls by
    unfold useL
    have e : (emptyN (ls.take n) = 1 ∧ m = 2 ∧ 0 < (ls.getD n []).length) ↔ bc = true := by rw [hbc, ← hcond]
    by_cases h : bc = true
    · rw [if_pos h, if_pos (e.2 h)]
    · rw [if_neg h, if_neg (fun h2 => h (e.1 h2))])
  have HF := Lib.hid hfd
  have hele := emptyN_le ls
  have hem := fun W => run_emptySlice (P := Tryd.prog) W 23 33 iS Tryd.underlying23 hiS
  have Hem8 := Lib.hid (fun W => run_emptySlice (P := Tryd.prog) W 33 5 i5 Tryd.underlying33 hi)
  generalize hen : emptyN ls = en at *
  generalize useL ls n m = us at *
  have Hul := Lib.hid hul
  clear hr hs hD hfl hfd hcond hbc hsz hen hul
  go_enter Tryd.func13, Tryd.ntmps13
  go_wp2_with fail
  refine (HS.out).mono ?_
  rintro e W1 ⟨rfl, b1⟩
  have Hb1 := Lib.hid b1
  clear b1
  go_wp2_with fail
  refine (HE.out W1 (Hr.out.below Hb1.out)).mono ?_
  rintro e W2 ⟨rfl, b2⟩
  have Hb2 := Lib.hid (Hb1.out.trans (b2.mono Hb1.out.size))
  clear b2
  obtain ⟨v', W3, xs, r1, hup3, hb3⟩ := HU.out W2 Hb2.out
  obtain ⟨gu, cu, rfl, hcu, hgu, hwu, hru⟩ := hup3.rdl (by omega)
  have R1 := Lib.hid r1
  have Hup := Lib.hid hup3
  have Hb3 := Lib.hid hb3
  have Hcu := Lib.hid (And.intro hcu (And.intro hgu (And.intro hwu hru)))
  clear r1 hup3 hb3 hcu hgu hwu hru
  go_upto_region 10 with (at_builtin; go_must (refine wpList_append_run rfl (.tmp 38) (.tmp 39) 23 23 rfl rfl rfl (by exact R1.out) ?_))
  go_cut [57] from 14 (fun t wc => t = .bool bc ∧ Hid (Below W3.heap.size W3 wc))
  case first =>
    go_wp2_with fail
    refine (HE2.out W3 (Hr.out.below Hb3.out)).mono ?_
    rintro e W4 ⟨rfl, b4⟩
    have Hb4 := Lib.hid b4
    clear b4
    have hb := Hbc.out
    rw [← Hcond.out] at hb
    generalize emptyN (ls.take n) = ed at *
    by_cases h1 : ed = 1
    · by_cases h2 : m = 2
      · have hn2 : n < ls.length := by omega
        obtain ⟨ad, An, cn, hAn, hPw⟩ := Hr.out.at n hn2
        subst hAn
        have hgP : ls.getD n [] = ls[n] := by simp [List.getD, hn2]
        rw [hgP] at hb
        have hcP := (hPw W4 (Hb3.out.trans (Hb4.out.mono Hb3.out.size))).1
        clear hPw hgP
        generalize ls[n].length = pn at *
        by_cases h3 : 0 < pn
        · have e : bc = true := hb.2 ⟨h1, h2, h3⟩
          subst h1 h2 e
          clear hb
          go_wp2_with fail
          go_meet
          case rel => exact ⟨rfl, Hb4⟩
        · have e : bc = false := by
            cases hbb : bc with
            | false => rfl
            | true => exact absurd (hb.1 hbb).2.2 h3
          have h4 : pn = 0 := by omega
          subst h1 h2 e h4
          clear hb
          go_wp2_with fail
          go_meet
          case rel => exact ⟨rfl, Hb4⟩
      · have e : bc = false := by
          cases hbb : bc with
          | false => rfl
          | true => exact absurd (hb.1 hbb).2.1 h2
        have h4 : ((m : Int) == 2) = false := by simpa using (show ¬ (m : Int) = 2 by omega)
        subst h1 e
        clear hb
        go_wp2_with fail
        go_meet
        case rel => exact ⟨rfl, Hb4⟩
    · have e : bc = false := by
        cases hbb : bc with
        | false => rfl
        | true => exact absurd (hb.1 hbb).1 h1
      have h4 : ((ed : Int) == 1) = false := by simpa using (show ¬ (ed : Int) = 1 by omega)
      subst e
      clear hb
      go_wp2_with fail
      go_meet
      case rel => exact ⟨rfl, Hb4⟩
  case rest =>
    obtain ⟨rfl, H4⟩ := hcut
    rename World => wc
    go_upto_if 57 with fail
    have Hus := Huse.out
    have Hw4 := Lib.hid (Hb3.out.trans (H4.out.mono Hb3.out.size))
    have Hu4 := Lib.hid (Hup.out.below H4.out)
    have Hgw := Lib.hid (show w.heap.size ≤ gu from Hcu.out.2.2.1)
    have hcu := Hcu.out.1
    have Hm2 := Lib.hid (show bc = true → m = 2 from fun h => by
      have := Hbc.out.1 h
      rw [← Hcond.out] at this
      exact this.2.1)
    clear H4 Hup Hcu Hbc Hcond R1 Huse Hb1 Hb2 HE HS HE2 HU
    go_cut [8] from 14 (fun u wu => u = .slice (some ⟨gu, 0, none⟩) ls.length cu ∧ Hid (Below w.heap.size w wu ∧ gu < wu.heap.size ∧ ∀ w' : World, w'.heap[gu]? = wu.heap[gu]? → Below w.heap.size w w' → RdL w' (some ⟨gu, 0, none⟩) us))
    case first =>
      cases bc with
      | false =>
        have hus : us = ls := Hus
        have HF2 := Lib.hid (show Below w.heap.size w wc ∧ gu < wc.heap.size ∧ ∀ w' : World, w'.heap[gu]? = wc.heap[gu]? → Below w.heap.size w w' → RdL w' (some ⟨gu, 0, none⟩) us by
          obtain ⟨gu', cu', e1, e2, e3, e4, e5⟩ := Hu4.out.rdl (by omega)
          cases e1
          rw [hus]
          exact ⟨Hw4.out, e3, e5⟩)
        clear Hus hus Hu4
        go_wp2_with fail
        go_meet
        case rel => exact ⟨rfl, HF2⟩
      | true =>
        have hus : us = ls.set (n + 1) [] := Hus
        have hm2 := Hm2.out rfl
        obtain ⟨q, hq⟩ : ∃ q, n + 1 = q := ⟨_, rfl⟩
        rw [hq] at hus
        have hi1 : (n : Int) + 1 = (q : Int) := by omega
        have hqi : (q : Int) < (ls.length : Int) := by omega
        obtain ⟨hf, ⟨u, hu⟩, h5, h6⟩ := Hu4.out.set q (by omega)
        have HF2 := Lib.hid (show Below w.heap.size w (wc.setCell ⟨gu, q, none⟩ (.slice none 0 0)) ∧ gu < (wc.setCell ⟨gu, q, none⟩ (.slice none 0 0)).heap.size ∧ ∀ w' : World, w'.heap[gu]? = (wc.setCell ⟨gu, q, none⟩ (.slice none 0 0)).heap[gu]? → Below w.heap.size w w' → RdL w' (some ⟨gu, 0, none⟩) us by
          obtain ⟨gu', cu', e1, e2, e3, e4, e5⟩ := h5.rdl (by simp; omega)
          injection e1 with a1 a2 a3
          cases a1
          rw [hus]
          exact ⟨Hw4.out.grown h6 Hw4.out.size (fun k e => by cases e; exact Hgw.out), e3, e5⟩)
        clear Hus hus Hu4 h5 h6 hq hm2
        go_wp2_with fail
        go_meet
        case rel => exact ⟨rfl, HF2⟩
    case rest =>
      obtain ⟨rfl, HU⟩ := hcut
      rename World => wu
      have Hbw := Lib.hid (fun (wr : World) (hb : Below wu.heap.size wu wr) => show Below w.heap.size w wr from HU.out.1.trans (hb.mono HU.out.1.size))
      have H0 := Lib.hid (show RmI1 w wu (ls.take n) 0 (.slice none 0 0) wu from ⟨Below.refl _ _, [], by simpa using OutW.nil wu wu.heap.size⟩)
      clear Hw4 Hu4 Hus Hm2 Hb3 Hgw
      go_wp2_with fail
      go_loopw [9, 10] (fun v i wr => ∃ k : Nat, k ≤ n ∧ i = .int .i64 k ∧ Hid (RmI1 w wu (ls.take n) k v wr)) (fun _ i _ => n - (intOf i).toNat)
      case atStart => exact ⟨0, by omega, rfl, H0⟩
      case round =>
        clear H0
        obtain ⟨k, hk, rfl, H⟩ := hrel
        obtain ⟨hb, vs, hO⟩ := H.out
        rename World => wr
        by_cases hlt : k < n
        · have hkl : k < ls.length := by omega
          obtain ⟨ad, Aj, cj, hA, hat⟩ := Hr.out.at k hkl
          subst hA
          obtain ⟨_, h2⟩ := hat wr (Hbw.out wr hb)
          have h1 := (hat (wr.alloc (.cells #[] 5)) ((Hbw.out wr hb).alloc (Hbw.out wr hb).size _)).1
          have hbk := Hs.out ls[k] (List.getElem_mem hkl)
          have hb1 : Below wr.heap.size wr (wr.alloc (.cells #[] 5)) := (Below.refl _ _).alloc (Nat.le_refl _) _
          obtain ⟨x, W2, kx, r2, hx, g2, hkx⟩ := own_append2 (P := Tryd.prog) (wr.alloc (.cells #[] 5)) 33 33 5 i5 Tryd.underlying33 hi hz0 hz1 hz2 wr.heap.size (.slice (some ⟨wr.heap.size, 0, none⟩) 0 0) [] (World.ownsRow_lit wr #[] 0 (Nat.le_refl _) (Nat.zero_le _) rfl) (by simp) ⟨_, rfl⟩ Aj cj ls[k] (h2.below hb1) (by simp; omega)
          rw [List.nil_append] at hx
          have hb2 : Below wr.heap.size wr W2 := hb1.grown g2 (by simp) (fun k e => by cases e; exact Nat.le_refl _)
          obtain ⟨Ax, cx, rfl, _⟩ := hx.form
          have hkb := World.ownsRow.lt hx kx hkx
          have hO2 := hO.below hb2
          obtain ⟨v3, W3', r3, ho3, g3⟩ := own_pushV hO2.own (x := .slice Ax ls[k].length cx) rfl (Nat.le_trans hb.size hb2.size) (by simp; omega)
          have hO3 := hO2.push (hx.mono hb.size) hkx (fun j h1 e => by
            have := (World.ownsRow.lt (hO.el j h1 (by have := hO.len; omega)) kx e).2
            omega) g3 ho3
          rw [show (ls.take n).take k ++ [ls[k]] = (ls.take n).take (k + 1) by
            rw [List.take_succ_eq_append_getElem (by simp; omega)]; simp] at hO3
          have hb3 : Below wu.heap.size wu W3' := ((hb.trans (hb2.mono hb.size)).grown g3 (Nat.le_trans hb.size hb2.size) (fun k e => (World.ownsRow.lt hO2.own k e).1))
          have HF3 := Lib.hid (show RmI1 w wu (ls.take n) (k + 1) v3 W3' from ⟨hb3, _, hO3⟩)
          have R2 := Lib.hid r2
          have R3 := Lib.hid r3
          have hem8 := Hem8.out
          clear r2 r3 hx g2 hkx hb2 hkb hO2 ho3 g3 hO3 hb3 hb1 hb hO hat h2 H
          generalize ls[k].length = mm at *
          go_wp2_with (at_builtin; go_must (first | refine wpList_append_run rfl (.tmp 68) (.tmp 72) 33 33 rfl rfl rfl (by exact R2.out) ?_ | refine wpList_append_run rfl (.tmp 67) (.tmp 74) 23 23 rfl rfl rfl (by exact R3.out) ?_))
          exact ⟨⟨k + 1, by omega, by go_num, HF3⟩, by simp [intOf]; omega⟩
        · obtain rfl : n = k := by omega
          rw [List.take_take, Nat.min_self] at hO
          have hDl : (ls.take n).length = n := HD.out
          obtain ⟨gv, cv, hv⟩ : ∃ gv cv, u9 = .slice (some ⟨gv, 0, none⟩) (ls.take n).length cv := by
            rcases hO.own.2 with ⟨_, h0⟩ | ⟨g, cap, cur, hv, _⟩
            · omega
            · exact ⟨g, cap, hv⟩
          subst hv
          have HDk := Lib.hid (fun (j : Nat) (hj : j < n) => take_drop ls n j hj (by omega))
          have H0 := Lib.hid (show RmI2 wu (outT fnd (ls.take n) 0) (4096 + 16 * 0) (.slice (some ⟨gv, 0, none⟩) (ls.take n).length cv) wr from ⟨hb, fun b hb => by have := Hs.out b (List.mem_of_mem_take hb); omega, vs, hO⟩)
          have HDl := Lib.hid hDl
          have Hfl2 := Lib.hid (show ∀ t, t < sz → emptyN (ls.take n) ≤ (fnd t).length from fun t ht => by rw [Hfl.out t ht]; exact Nat.le_refl _)
          rw [hDl]
          clear hb hO hDl H
          generalize hDD : ls.take n = D at *
          have HDD := Lib.hid hDD
          clear hDD
          go_wp2_with fail
          go_loopw [11] (fun i wr => ∃ t : Nat, t ≤ sz ∧ i = .int .i64 t ∧ Hid (RmI2 wu (outT fnd D t) (4096 + 16 * t) (.slice (some ⟨gv, 0, none⟩) D.length cv) wr)) (fun i _ => sz - (intOf i).toNat)
          case atStart => exact ⟨0, by omega, rfl, H0⟩
          case round =>
            clear H0
            rename World => wo
            obtain ⟨t, ht, rfl, H⟩ := hrel
            obtain ⟨hb, hbd, vs, hO⟩ := H.out
            by_cases hlt : t < sz
            · have HFt := Lib.hid (HF.out t hlt wo (some ⟨gu, 0, none⟩) cu (HU.out.2.2 wo (hb.block gu HU.out.2.1) (Hbw.out wo hb)) hcu)
              have HS := Lib.hid (And.intro hb (And.intro hbd hO))
              clear hb hbd hO H
              go_wp2_with fail
              refine (HFt.out).mono ?_
              rintro e W5 ⟨AF, cF, rfl, hF, hrF, hcF, hb5⟩
              obtain ⟨hb, hbd, hO⟩ := HS.out
              have H1 := Lib.hid (show RmI3 wu D (outT fnd D (t + 1)) (4096 + 16 * t) gv 0 (.slice AF (fnd t).length cF) (.slice (some ⟨gv, 0, none⟩) D.length cv) W5 from by
                refine ⟨outT fnd D t, fnd t, AF, cF, vs, rfl, fun hne => ?_, hrF, hcF, by simpa using Hfl2.out t hlt, hb.trans (hb5.mono hb.size), fun b hb => by have := hbd b hb; omega, hO.below hb5, outT_len fnd D t, by rw [outT_succ]; simp⟩
                obtain ⟨b, off, e1, e2, e3⟩ := hF hne
                refine ⟨b, off, e1, e3, ?_, fun i hi e => ?_⟩
                · have := (World.ownsRow.lt hO.own gv rfl).2
                  omega
                · have := (World.ownsRow.lt (hO.el i hi (by have := hO.len; omega)) b e).2
                  omega)
              clear hb hbd hO hF hrF hcF hb5 HS HFt
              go_wp2_with fail
              go_loopw [12, 13] (fun f i wr => ∃ j : Nat, j ≤ n ∧ i = .int .i64 j ∧ Hid (RmI3 wu D (outT fnd D (t + 1)) (4096 + 16 * t) gv j f (.slice (some ⟨gv, 0, none⟩) D.length cv) wr)) (fun _ i _ => n - (intOf i).toNat)
              case atStart => exact ⟨0, by omega, rfl, H1⟩
              case round =>
                clear H1
                rename World => w2
                obtain ⟨j, hj, rfl, H⟩ := hrel
                obtain ⟨L, fk, AF', cF', vs', e1, hF, hrF, hcF, hen2, hb, hbd, hO, hLl, heq⟩ := H.out
                subst e1
                by_cases hlt2 : j < n
                · have hjl : j < ls.length := by omega
                  obtain ⟨ad, Aj, cj, hA, hat⟩ := Hr.out.at j hjl
                  subst hA
                  have h1 := (hat w2 (Hbw.out w2 hb)).1
                  have hdr := HDk.out j hlt2
                  have hLj : j < L.length := by have := HDl.out; omega
                  have hLd : L.drop j = L[j] :: L.drop (j + 1) := List.drop_eq_getElem_cons hLj
                  rw [hdr] at hen2 heq
                  rw [hLd] at heq
                  simp only [emptyN, putL] at hen2 heq
                  by_cases c0 : ls[j].length = 0
                  · rw [if_pos c0] at hen2 heq
                    obtain ⟨f0, fr, rfl⟩ : ∃ f0 fr, fk = f0 :: fr := by
                      cases fk with
                      | nil => simp at hen2
                      | cons f0 fr => exact ⟨f0, fr, rfl⟩
                    obtain ⟨fb, fo, rfl, hfb, hgf, hvf⟩ := hF (by simp)
                    have hjv : j < vs'.length := by have := hO.len; omega
                    obtain ⟨kj, hkj⟩ := hO.sm j hjv
                    have hel := hO.el j hjv hLj
                    obtain ⟨co, hvo⟩ : ∃ co, vs'[j] = .slice (some ⟨kj, 0, none⟩) L[j].length co := by
                      rcases hel.2 with ⟨hv, _⟩ | ⟨g, cap, cur, hv, _⟩
                      · rw [hv] at hkj; cases hkj
                      · rw [hv] at hkj
                        cases hkj
                        exact ⟨cap, hv⟩
                    have hcf : ∀ W : World, W.heap[fb]? = w2.heap[fb]? → W.cell? ⟨fb, fo, none⟩ = some (.int .u8 (f0.toNat : Int)) := fun W e => by
                      obtain ⟨ad, e1, hcell⟩ := hrF 0 (by simp)
                      cases e1
                      rw [← show w2.cell? ⟨fb, fo, none⟩ = some (.int .u8 (f0.toNat : Int)) from hcell]
                      exact World.cell?_of_block e
                    have hba : Below w2.heap.size w2 (w2.drew.alloc (.cells #[.int .u8 (f0.toNat : Int)] 5)) := ((Below.refl _ _).drew).alloc (Nat.le_refl _) _
                    have hOa : OutW (w2.drew.alloc (.cells #[.int .u8 (f0.toNat : Int)] 5)) wu.heap.size (.slice (some ⟨gv, 0, none⟩) L.length cv) vs' L := by rw [hLl]; exact hO.below hba
                    have hela := hel.below hba
                    have hbj := hbd L[j] (List.getElem_mem hLj)
                    obtain ⟨g', cap', W6, r6, ho6, hg6, hat6, hlt6⟩ := run_append_lies (P := Tryd.prog) (w2.drew.alloc (.cells #[.int .u8 (f0.toNat : Int)] 5)) 33 33 wu.heap.size 5 i5 (.int .u8 0) 1 1 Tryd.underlying33 hi hz0 hz1 hz2 rfl (by omega) vs'[j] L[j].length (vbs L[j]) hela ⟨w2.heap.size, 0, none⟩ 1 1 [.int .u8 (f0.toNat : Int)] rfl
                      (World.news_of_block (cs := #[.int .u8 (f0.toNat : Int)]) (heap_alloc_new w2.drew _)) (by simp [Value.oneCell']) (by omega) (by unfold maxLen; omega) (by omega) (by rw [World.size_alloc]; show _ ≤ w2.heap.size + 1; have := hb.size; omega) (w2.heap.size + 1) (by rw [World.size_alloc]; rfl)
                    have hx6 : OwnB W6 wu.heap.size 5 (.slice (some ⟨g', 0, none⟩) (L[j].length + 1) cap') (L[j] ++ [f0]) := by
                      unfold OwnB
                      rw [vbs_append, List.length_append]
                      exact ho6
                    obtain ⟨hfz, ⟨u, hu⟩, hO7, hg7⟩ := hOa.put hjv hx6 ⟨g', rfl⟩ hg6 (by
                      rw [World.size_alloc]
                      rcases hat6 with h | h
                      · exact .inl (by rw [h]; rfl)
                      · exact .inr (by rw [h]; rfl))
                    have hown1 : w2.ownsRow wu.heap.size 33 1 (.slice (some ⟨gv, 0, none⟩) L.length cv) L.length vs' := by rw [hLl]; have := hO.own; rw [hLl] at this; exact this
                    have hc1 : ∀ W : World, W.heap[gv]? = w2.heap[gv]? → W.cell? ⟨gv, j, none⟩ = some (.slice (some ⟨kj, 0, none⟩) L[j].length co) := fun W e => by
                      rw [← hvo, ← show w2.cell? ⟨gv, j, none⟩ = some vs'[j] by rw [hown1.cellAt j (by omega)]; simp [hjv]]
                      exact World.cell?_of_block e
                    have hgvl := (World.ownsRow.lt hown1 gv rfl).2
                    have hc2 := hc1 w2 rfl
                    have hc3 := hc1 w2.drew rfl
                    have hc4 := hc1 (w2.drew.alloc (.cells #[.int .u8 (f0.toNat : Int)] 5)) (hba.block gv hgvl)
                    have hc5 := hcf w2 rfl
                    have hc6 := hcf w2.drew rfl
                    have hc7 := hcf (w2.drew.alloc (.cells #[.int .u8 (f0.toNat : Int)] 5)) (hba.block fb hfb)
                    have hc8 : (w2.alloc (.cells #[.int .u8 (f0.toNat : Int)] 5)).cell? ⟨gv, j, none⟩ = some (.slice (some ⟨kj, 0, none⟩) L[j].length co) := hc4
                    have hc9 : (w2.alloc (.cells #[.int .u8 (f0.toNat : Int)] 5)).cell? ⟨fb, fo, none⟩ = some (.int .u8 (f0.toNat : Int)) := hc7
                    have hft := rd_tail hrF (cap := cF') (by simpa using hcF)
                    have hrt := fun W => run_tail (P := Tryd.prog) W 33 5 i5 Tryd.underlying33 hi hz1 fb fo fr.length cF' (by simpa using hcF)
                    obtain ⟨AN, hAN⟩ : ∃ AN, (if cF' = 1 then some (⟨fb, fo, none⟩ : Addr) else some ⟨fb, fo + 1, none⟩) = AN := ⟨_, rfl⟩
                    have hANs : ∃ off, AN = some ⟨fb, off, none⟩ := by
                      rw [← hAN]; split
                      · exact ⟨_, rfl⟩
                      · exact ⟨_, rfl⟩
                    rw [hAN] at hft
                    simp only [hAN] at hrt
                    obtain ⟨offN, hANo⟩ := hANs
                    have hkne : kj ≠ fb := fun e => hvf j hjv (by rw [hkj, e])
                    have hbl : (W6.setCell ⟨gv, j, none⟩ (.slice (some ⟨g', 0, none⟩) (L[j].length + 1) cap')).heap[fb]? = w2.heap[fb]? := by
                      rw [hg7.block fb (by have := hg6.size; rw [World.size_alloc] at this; have h2 : w2.drew.heap.size = w2.heap.size := rfl; omega) (by intro e; cases e; exact hgf rfl), hg6.block fb (by rw [World.size_alloc]; show fb < w2.heap.size + 1; omega) (by rw [hkj]; intro e; cases e; exact hkne rfl)]
                      exact hba.block fb hfb
                    have hsz6 : w2.heap.size + 1 ≤ (W6.setCell ⟨gv, j, none⟩ (.slice (some ⟨g', 0, none⟩) (L[j].length + 1) cap')).heap.size := by
                      have h1 := hg6.size
                      have h2 := hg7.size
                      rw [World.size_alloc] at h1
                      have h3 : w2.drew.heap.size = w2.heap.size := rfl
                      omega
                    have hbB : Below wu.heap.size wu (W6.setCell ⟨gv, j, none⟩ (.slice (some ⟨g', 0, none⟩) (L[j].length + 1) cap')) :=
                      (((hb.trans (hba.mono hb.size)).grown hg6 (by rw [World.size_alloc]; show _ ≤ w2.heap.size + 1; have := hb.size; omega) (fun k e => (World.ownsRow.lt hela k e).1)).grown hg7 (by have := hg6.size; rw [World.size_alloc] at this; have h3 : w2.drew.heap.size = w2.heap.size := rfl; have := hb.size; omega) (fun k e => by cases e; exact (World.ownsRow.lt hown1 gv rfl).1))
                    have HN := Lib.hid (show RmI3 wu D (outT fnd D (t + 1)) (4096 + 16 * t) gv (j + 1) (.slice AN fr.length (cF' - 1)) (.slice (some ⟨gv, 0, none⟩) D.length cv) (W6.setCell ⟨gv, j, none⟩ (.slice (some ⟨g', 0, none⟩) (L[j].length + 1) cap')) from by
                      refine ⟨L.set j (L[j] ++ [f0]), fr, AN, cF' - 1, _, rfl, fun _ => ⟨fb, offN, hANo, by omega, hgf, fun i hi e => ?_⟩, ?_, by simp at hcF; omega, by simp at hen2; omega, hbB, fun b hb => ?_, by rw [← hLl]; exact hO7, by simp [hLl], ?_⟩
                      · by_cases hij : j = i
                        · subst hij
                          simp only [List.getElem_set_self] at e
                          rcases hat6 with h | h
                          · rw [hkj] at h
                            cases h
                            cases e
                            exact hkne rfl
                          · have e2 : some g' = some fb := e
                            injection e2 with e2
                            omega
                        · simp only [List.getElem_set_ne hij] at e
                          exact hvf i (by simpa using hi) e
                      · rw [hANo] at hft ⊢
                        exact hft.inBlock hbl
                      · rcases List.mem_or_eq_of_mem_set hb with hb | rfl
                        · have := hbd b hb; omega
                        · simp; omega
                      · rw [← heq]
                        have e1 : (L.set j (L[j] ++ [f0])).take (j + 1) = L.take j ++ [L[j] ++ [f0]] := by
                          rw [List.take_succ_eq_append_getElem (by simpa using hLj), List.take_set_of_le (Nat.le_refl _)]
                          simp
                        have e2 : (L.set j (L[j] ++ [f0])).drop (j + 1) = L.drop (j + 1) := by
                          rw [List.drop_set_of_lt (by omega)]
                        rw [e1, e2, List.append_assoc]
                        rfl)
                    rw [hvo] at r6
                    have R6 := Lib.hid r6
                    rw [c0] at h1
                    have hjn : (j : Int) < (n : Int) := by omega
                    clear hat hdr hLd hen2 heq hF hrF hcF hb hbd hO hLl H r6 ho6 hg6 hat6 hx6 hO7 hg7 hown1 hc1 hcf hft hAN hANo hkne hbl hsz6 hbB hba hOa hela hbj hvo hkj hel hjv hvf hgf c0 hgvl
                    generalize L[j].length = lo at *
                    go_wp2_with fail
                    go_region_law (refine step_append_run rfl (.tmp 101) (.tmp 105) 33 33 rfl (by rfl) (by rfl) (by exact R6.out) ?_)
                    all_goals
                      go_wp2_with fail
                      exact ⟨⟨j + 1, by omega, by go_num, HN⟩, by simp [intOf]; omega⟩
                  · rw [if_neg c0] at hen2 heq
                    have HN := Lib.hid (show RmI3 wu D (outT fnd D (t + 1)) (4096 + 16 * t) gv (j + 1) (.slice AF' fk.length cF') (.slice (some ⟨gv, 0, none⟩) D.length cv) w2 from
                      ⟨L, fk, AF', cF', vs', rfl, hF, hrF, hcF, by simpa using hen2, hb, fun b hb => by have := hbd b hb; omega, hO, hLl, by rw [List.take_succ_eq_append_getElem hLj, List.append_assoc]; exact heq⟩)
                    have b0 : ((ls[j].length : Int) == 0) = false := by simpa using (show ¬ (ls[j].length : Int) = 0 by omega)
                    clear hat hdr hLj hLd hen2 heq hF hrF hcF hb hbd hO hLl H
                    generalize ls[j].length = mm at *
                    go_wp2_with fail
                    exact ⟨⟨j + 1, by omega, by go_num, HN⟩, by simp [intOf]; omega⟩
                · obtain rfl : n = j := by omega
                  have hLl2 : L.length = n := by rw [hLl]; exact HDl.out
                  rw [List.take_of_length_le (by omega), List.drop_of_length_le (by omega), putL_nil, List.append_nil] at heq
                  have HN := Lib.hid (show RmI2 wu (outT fnd D (t + 1)) (4096 + 16 * (t + 1)) (.slice (some ⟨gv, 0, none⟩) D.length cv) w2 from ⟨hb, fun b hb => by rw [← heq] at hb; have := hbd b hb; omega, vs', by rw [← heq]; rw [← hLl] at hO ⊢; exact hO⟩)
                  clear hLl2 heq hF hrF hcF hen2 hb hbd hO hLl H
                  go_wp2_with fail
                  exact ⟨⟨t + 1, by omega, by go_num, HN⟩, by simp [intOf]; omega⟩
            · obtain rfl : sz = t := by omega
              have hol := outT_len fnd D sz
              obtain ⟨A', c', e1, e2⟩ := hO.rdl
              have HE := Lib.hid (And.intro e2 (Hbw.out wo hb))
              have Hol := Lib.hid (And.intro hol e1)
              clear hb hbd hO H hol e1 e2
              go_wp2_with fail
              go_ret2
              obtain ⟨hol, e1⟩ := Hol.out
              rw [hol] at e1
              injection e1 with a1 a2 a3
              refine ⟨some ⟨gv, 0, none⟩, cv, ?_, ?_, HE.out.2⟩
              · rw [HDD.out]
                show _ = Ending.returned (.tuple #[.slice (some ⟨gv, 0, none⟩) (outT fnd D sz).length cv, .int .i64 0])
                rw [hol, HDl.out]
                rfl
              · rw [HDD.out, a1]
                exact HE.out.1
end Go.Proofs.YtfajgnaphekdhaaDoor
