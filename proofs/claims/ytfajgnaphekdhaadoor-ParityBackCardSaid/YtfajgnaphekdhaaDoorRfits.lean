/- The walk of bedrockref.fits. Conditions: the pieces that are not empty have the byte; as many bytes to fill in as data are empty. -/
import Derived.Test.YtfajgnaphekdhaaDoorRmake
import Derived.Deep.RegionHeld3
namespace Go.Proofs.YtfajgnaphekdhaaDoor
open Go.RowKit
set_option linter.unusedSimpArgs false
set_option linter.unusedVariables false
/-- the bytes numbered a of the data, those of fl where a piece is empty -/
def fillC (a : Nat) : List UInt8 → List (List UInt8) → List (List UInt8)
  | _, [] => []
  | fl, b :: r => if b.length = 0 then [fl.headD 0] :: fillC a fl.tail r else [b.getD a 0] :: fillC a fl r
/-- the further pieces, the first of which is number k, fit -/
def ftL (a : Nat) (col : List (List UInt8)) : Nat → List (List UInt8) → Bool
  | _, [] => true
  | k, x :: r => if 0 < x.length ∧ (x.getD a 0).toNat ≠ exN col 0 ((k : Int) + 1) then false else ftL a col (k + 1) r
theorem fillC_len (a : Nat) : ∀ (D : List (List UInt8)) (fl : List UInt8), (fillC a fl D).length = D.length
  | [], fl => rfl
  | b :: r, fl => by
    simp only [fillC]
    split <;> simp [fillC_len a r]
theorem fillC_one (a : Nat) : ∀ (D : List (List UInt8)) (fl : List UInt8), ∀ b ∈ fillC a fl D, b.length = 1
  | [], fl, b, h => by simp [fillC] at h
  | x :: r, fl, b, h => by
    simp only [fillC] at h
    split at h
    · rcases List.mem_cons.1 h with rfl | h
      · rfl
      · exact fillC_one a r _ b h
    · rcases List.mem_cons.1 h with rfl | h
      · rfl
      · exact fillC_one a r _ b h
section
variable {P : Program} (w : World)
theorem run_tail (t e : TypeId) (i : TypeInfo) (ht : P.underlying t = some (.slice e)) (hi : P.info? e = some i) (hs : i.size = 1) (b off len cap : Nat) (h : len + 1 ≤ cap) :
    (Instr.sliceAt t (.slice (some ⟨b, off, none⟩) (len + 1) cap) (some (.int .i64 1)) none none).run P w = .ok (.slice (if cap = 1 then some ⟨b, off, none⟩ else some ⟨b, off + 1, none⟩) len (cap - 1)) w := by
  have b1 : (1 : Int) ≤ ((len + 1 : Nat) : Int) := by omega
  have b2 : ¬ (len + 1 < 1) := by omega
  have hadd : (⟨b, off, none⟩ : Addr).add 1 = ⟨b, off + 1, none⟩ := rfl
  simp [Instr.sliceAt, Instr.slice, run_underlying ht, Instr.sliceBounds, Instr.sliceBound, asIntOf, b1, b2, sizeOf, typeInfo, hi, hs, hadd]
  omega
end
theorem addr_lit2 (b o j : Nat) : (⟨b, o, none⟩ : Addr).add j = ⟨b, o + j, none⟩ := by
  unfold Addr.add; split <;> simp_all
theorem rd_tail {w : World} {b off cap : Nat} {f : UInt8} {fr : List UInt8} (h : Rd w (some ⟨b, off, none⟩) (f :: fr)) (hc : fr.length + 1 ≤ cap) : Rd w (if cap = 1 then some ⟨b, off, none⟩ else some ⟨b, off + 1, none⟩) fr := fun j hj => by
  have hne : ¬ cap = 1 := by omega
  rw [if_neg hne]
  refine ⟨_, rfl, ?_⟩
  obtain ⟨ad, e, hcell⟩ := h (j + 1) (by simp; omega)
  cases e
  rw [addr_lit2] at hcell ⊢
  rw [show off + 1 + j = off + (j + 1) by omega, hcell]
  simp
theorem el_one (w : World) (b : UInt8) : El (w.alloc (.cells #[.int .u8 (b.toNat : Int)] 5)) (.slice (some ⟨w.heap.size, 0, none⟩) 1 1) [b] :=
  ⟨w.heap.size, 1, _, _, rfl, heap_alloc_new w _, one_rd w b _, Nat.le_refl _⟩
def FtInv (w : World) (D : List (List UInt8)) (a : Nat) (fl : List UInt8) (k : Nat) (tv v : Value) (wr : World) : Prop :=
  ∃ done fk AF cF, tv = .slice AF fk.length cF ∧ (fk ≠ [] → ∃ b off, AF = some ⟨b, off, none⟩) ∧ Rd w AF fk ∧ fk.length ≤ cF ∧ emptyN (D.drop k) ≤ fk.length ∧ OwnLL wr w.heap.size v done ∧ done.length = k ∧ done ++ fillC a fk (D.drop k) = fillC a fl D ∧ Below w.heap.size w wr
theorem take_drop (ls : List (List UInt8)) (n k : Nat) (hk : k < n) (hn : n ≤ ls.length) : (ls.take n).drop k = ls[k]'(by omega) :: (ls.take n).drop (k + 1) := by
  rw [List.drop_eq_getElem_cons (by simp; omega)]; simp
set_option maxHeartbeats 4000000 in
set_option maxRecDepth 100000 in
theorem fits_calls (A : Option Addr) (c : Nat) (ls : List (List UInt8)) (n m a : Nat) (AF : Option Addr) (cF : Nat) (fl : List UInt8) (w : World) (hr : RdL w A ls) (hl : ls.length ≤ 1000) (hnm : n + m = ls.length) (hm : m ≤ 2) (ha : a ≤ 4096)
    (hall : ∀ b ∈ ls, 0 < b.length → a < b.length) (hf : Rd w AF fl) (hF : fl ≠ [] → ∃ b off, AF = some ⟨b, off, none⟩) (hfc : fl.length ≤ cF) (he : emptyN (ls.take n) ≤ fl.length) :
    Calls Tryd.prog 31 #[.slice A ls.length c, .int .i64 m, .int .i64 a, .slice AF fl.length cF] w fun e W' => e = .returned (.bool (ftL a (fillC a fl (ls.take n)) 0 (ls.drop n))) ∧ Below w.heap.size w W' := by
  obtain ⟨iS, hiS, hszS⟩ := infoS
  obtain ⟨i5, hi, hz0, hz1, hz2⟩ := info_parts info5
  have hD : (ls.take n).length = n := by simp; omega
  generalize hR : ftL a (fillC a fl (ls.take n)) 0 (ls.drop n) = R
  have H0 := Lib.hid (show FtInv w (ls.take n) a fl 0 (.slice AF fl.length cF) (.slice none 0 0) w from ⟨[], fl, AF, cF, rfl, hF, hf, hfc, by simpa using he, OwnLL.nil _ _, rfl, by simp, Below.refl _ _⟩)
  have HR := Lib.hid hR
  have Hr := Lib.hid hr
  have Hall := Lib.hid hall
  have HD := Lib.hid hD
  have hsub : (ls.length : Int) - (m : Int) = (n : Int) := by omega
  clear hR hr hall hf hF hfc he hD
  go_enter Tryd.func31, Tryd.ntmps31
  go_wp2_with fail
  go_loopw [3, 10, 11] (fun f v i wr => ∃ k : Nat, k ≤ n ∧ i = .int .i64 k ∧ Hid (FtInv w (ls.take n) a fl k f v wr)) (fun _ _ i _ => n - (intOf i).toNat)
  case atStart => exact ⟨0, by omega, rfl, H0⟩
  case round =>
    clear H0
    obtain ⟨k, hk, rfl, H⟩ := hrel
    obtain ⟨done, fk, AF', cF', e1, hF, hf, hfc, he, ho, hdl, heq, hb⟩ := H.out
    subst e1
    by_cases hlt : k < n
    · have hkl : k < ls.length := by omega
      obtain ⟨ad, Aj, cj, hA, h1, h2, _⟩ := (Hr.out.below hb) k hkl
      subst hA
      have hdr := take_drop ls n k hlt (by omega)
      rw [hdr] at he heq
      simp only [emptyN, fillC] at he heq
      have hml := Hall.out ls[k] (List.getElem_mem hkl)
      by_cases c0 : ls[k].length = 0
      · rw [if_pos c0] at he heq
        obtain ⟨f0, fr, rfl⟩ : ∃ f0 fr, fk = f0 :: fr := by
          cases fk with
          | nil => simp at he
          | cons f0 fr => exact ⟨f0, fr, rfl⟩
        obtain ⟨fb, fo, rfl⟩ := hF (by simp)
        have hcf : wr.cell? ⟨fb, fo, none⟩ = some (.int .u8 (f0.toNat : Int)) := by
          obtain ⟨ad, e, hcell⟩ := (hf.below hb) 0 (by simp)
          cases e
          exact hcell
        have hft := rd_tail hf (cap := cF') (by simpa using hfc)
        have hrt := fun W => run_tail (P := Tryd.prog) W 33 5 i5 Tryd.underlying33 hi hz1 fb fo fr.length cF' (by simpa using hfc)
        obtain ⟨AN, hAN⟩ : ∃ AN, (if cF' = 1 then some (⟨fb, fo, none⟩ : Addr) else some ⟨fb, fo + 1, none⟩) = AN := ⟨_, rfl⟩
        have hANs : fr ≠ [] → ∃ b off, AN = some ⟨b, off, none⟩ := fun _ => by
          rw [← hAN]; split
          · exact ⟨_, _, rfl⟩
          · exact ⟨_, _, rfl⟩
        rw [hAN] at hft
        simp only [hAN] at hrt
        have hb1 : Below wr.heap.size wr (wr.alloc (.cells #[.int .u8 (f0.toNat : Int)] 5)) := (Below.refl _ _).alloc (Nat.le_refl _) _
        obtain ⟨v', W4, r4, o4, b4, _⟩ := own_pushLL (ho.below hb1) (el_one wr f0) (Nat.le_trans hb.size hb1.size) (by omega)
        have hb5 : Below w.heap.size w W4 := (hb.trans (hb1.mono hb.size)).trans b4
        rw [World.size_alloc] at r4
        have HF := Lib.hid (show FtInv w (ls.take n) a fl (k + 1) (.slice AN fr.length (cF' - 1)) v' W4 from
          ⟨done ++ [[f0]], fr, AN, cF' - 1, rfl, hANs, hft, by simp at hfc; omega, by simp at he; omega, o4, by simp [hdl], by rw [← heq]; simp, hb5⟩)
        have R4 := Lib.hid r4
        rw [c0] at h1
        clear r4 o4 b4 hb5 hb1 hft hANs hAN he heq ho hdl hF hf hdr hml h2 H
        go_wp2_with (at_builtin; go_must (refine wpList_append_run rfl (.tmp 40) (.tmp 45) 23 23 rfl rfl rfl (by exact R4.out) ?_))
        exact ⟨⟨k + 1, by omega, by go_num, HF⟩, by simp [intOf]; omega⟩
      · rw [if_neg c0] at he heq
        have hal := hml (by omega)
        obtain ⟨ad2, hA2, hc2⟩ := h2 a hal
        subst hA2
        have hga : ls[k].getD a 0 = ls[k][a] := by simp [List.getD, hal]
        rw [hga] at heq
        simp only [vb] at hc2
        generalize ls[k][a] = x at *
        have hb1 : Below wr.heap.size wr (wr.alloc (.cells #[.int .u8 (x.toNat : Int)] 5)) := (Below.refl _ _).alloc (Nat.le_refl _) _
        obtain ⟨v', W4, r4, o4, b4, _⟩ := own_pushLL (ho.below hb1) (el_one wr x) (Nat.le_trans hb.size hb1.size) (by omega)
        have hb5 : Below w.heap.size w W4 := (hb.trans (hb1.mono hb.size)).trans b4
        rw [World.size_alloc] at r4
        have HF := Lib.hid (show FtInv w (ls.take n) a fl (k + 1) (.slice AF' fk.length cF') v' W4 from
          ⟨done ++ [[x]], fk, AF', cF', rfl, hF, hf, hfc, by simpa using he, o4, by simp [hdl], by rw [← heq]; simp, hb5⟩)
        have R4 := Lib.hid r4
        have hmi : (a : Int) < (ls[k].length : Int) := by omega
        have hm0 : 0 < ls[k].length := by omega
        clear r4 o4 b4 hb5 hb1 he heq ho hdl hF hf hdr hml h2 H hga
        generalize ls[k].length = mm at *
        go_wp2_with (at_builtin; go_must (refine wpList_append_run rfl (.tmp 29) (.tmp 38) 23 23 rfl rfl rfl (by exact R4.out) ?_))
        exact ⟨⟨k + 1, by omega, by go_num, HF⟩, by simp [intOf]; omega⟩
    · obtain rfl : k = n := by omega
      have hdn : (ls.take k).drop k = [] := List.drop_of_length_le (by rw [HD.out]; exact Nat.le_refl _)
      rw [hdn] at heq
      simp only [fillC, List.append_nil] at heq
      obtain ⟨A2, c2, hv2, hr2, _⟩ := ho.rdl
      subst hv2
      rw [heq] at hr2 hdl
      have hld : done.length = k := by rw [heq]; exact hdl
      rw [hld]
      have HC := Lib.hid (fun (W : World) (hr : RdL W A2 (fillC a fl (ls.take k))) (kk : Int) => extra_calls A2 c2 (fillC a fl (ls.take k)) 0 kk W hr (fun b hb => by rw [fillC_one a _ _ b hb]; omega) (by omega) (by omega))
      rw [hdl] at HC
      have HR2 := Lib.hid hr2
      generalize fillC a fl (ls.take k) = col at *
      generalize hwo : wr = wo at *
      have HB := Lib.hid hb
      have H1 := Lib.hid (show Below w.heap.size w wo ∧ Below wo.heap.size wo wo ∧ ftL a col 0 (ls.drop (k + 0)) = R from ⟨hb, Below.refl _ _, by rw [Nat.add_zero]; exact HR.out⟩)
      clear hdn heq ho hdl hr2 hld hF hf hfc he hb H hwo
      go_wp2_with fail
      go_loopw [12] (fun i wr => ∃ j : Nat, j ≤ m ∧ i = .int .i64 ((j : Int) + 1) ∧ Hid (Below w.heap.size w wr ∧ Below wo.heap.size wo wr ∧ ftL a col j (ls.drop (k + j)) = R)) (fun i _ => m + 1 - (intOf i).toNat)
      case atStart => exact ⟨0, by omega, rfl, H1⟩
      case round =>
        clear H1
        rename World => wr2
        obtain ⟨j, hj, rfl, H⟩ := hrel
        obtain ⟨hb1, hb2, heq⟩ := H.out
        by_cases hlt2 : j < m
        · obtain ⟨q, hq⟩ : ∃ q, k + j = q := ⟨_, rfl⟩
          have hq2 : q < ls.length := by omega
          have hi1 : (k : Int) + ((j : Int) + 1) - 1 = (q : Int) := by omega
          obtain ⟨ad, Aj, cj, hA, h1, h2, _⟩ := (Hr.out.below hb1) q hq2
          subst hA
          have hdr : ls.drop q = ls[q] :: ls.drop (k + (j + 1)) := by rw [List.drop_eq_getElem_cons hq2, show k + (j + 1) = q + 1 by omega]
          rw [hq, hdr] at heq
          simp only [ftL] at heq
          have hml := Hall.out ls[q] (List.getElem_mem hq2)
          by_cases c0 : ls[q].length = 0
          · rw [if_neg (by omega)] at heq
            have HF := Lib.hid (show Below w.heap.size w wr2.drew ∧ Below wo.heap.size wo wr2.drew ∧ ftL a col (j + 1) (ls.drop (k + (j + 1))) = R from ⟨hb1.drew, hb2.drew, heq⟩)
            rw [c0] at h1
            clear heq hb1 hb2 h2 hdr hml H hq
            go_wp2_with fail
            go_region
            all_goals
              go_wp2_with fail
              exact ⟨⟨j + 1, by omega, by go_num, HF⟩, by simp [intOf]; omega⟩
          · have hal := hml (by omega)
            obtain ⟨ad2, hA2, hc2⟩ := h2 a hal
            subst hA2
            have hga : ls[q].getD a 0 = ls[q][a] := by simp [List.getD, hal]
            rw [hga] at heq
            simp only [vb] at hc2
            have hel := exN_lt col 0 ((j : Int) + 1)
            have HCC := Lib.hid (HC.out wr2.drew (HR2.out.below hb2.drew) ((j : Int) + 1))
            have hmi : (a : Int) < (ls[q].length : Int) := by omega
            have hm0 : 0 < ls[q].length := by omega
            have hc2d : wr2.drew.cell? (ad2.add a) = some (.int .u8 ((ls[q][a]).toNat : Int)) := hc2
            have hxl := (ls[q][a]).toNat_lt
            generalize (ls[q][a]).toNat = x at *
            generalize exN col 0 ((j : Int) + 1) = y at *
            by_cases hxy : x = y
            · rw [if_neg (by intro h; exact h.2 hxy)] at heq
              have hbn : ((x : Int) != (y : Int)) = false := by simpa using (show (x : Int) = (y : Int) by omega)
              have HF := Lib.hid (fun (W3 : World) (h3 : Below wr2.drew.heap.size wr2.drew W3) => show Below w.heap.size w W3 ∧ Below wo.heap.size wo W3 ∧ ftL a col (j + 1) (ls.drop (k + (j + 1))) = R from ⟨hb1.drew.trans (h3.mono hb1.size), hb2.drew.trans (h3.mono hb2.size), heq⟩)
              clear heq hb1 hb2 h2 hdr hml H hq hxy hga hal c0
              generalize ls[q].length = mm at *
              go_wp2_with fail
              go_region_held3 (fun w' => w'.cell? (ad2.add a) = some (.int .u8 (x : Int))) (first | exact hc2d | exact hc2 | exact hc2e | go_keep)
                (first | (go_at_call 25; refine (HCC.out).mono ?_; rintro e W3 ⟨rfl, h3⟩; have HF3 := Lib.hid (HF.out W3 h3); have hc2e := (h3.cell (World.block_lt_of_cell? _ _ hc2d)).trans hc2d; clear h3))
              all_goals
                go_wp2_with fail
                exact ⟨⟨j + 1, by omega, by go_num, HF3⟩, by simp [intOf]; omega⟩
            · rw [if_pos ⟨by omega, hxy⟩] at heq
              have hbn : ((x : Int) != (y : Int)) = true := by simpa using (show ¬ (x : Int) = (y : Int) by omega)
              have HF := Lib.hid (fun (W3 : World) (h3 : Below wr2.drew.heap.size wr2.drew W3) => show Below w.heap.size w W3 from hb1.drew.trans (h3.mono hb1.size))
              subst heq
              clear hb1 hb2 h2 hdr hml H hq hxy hga hal c0
              generalize ls[q].length = mm at *
              go_wp2_with fail
              go_region_held3 (fun w' => w'.cell? (ad2.add a) = some (.int .u8 (x : Int))) (first | exact hc2d | exact hc2 | exact hc2e | go_keep)
                (first | (go_at_call 25; refine (HCC.out).mono ?_; rintro e W3 ⟨rfl, h3⟩; have HF3 := Lib.hid (HF.out W3 h3); have hc2e := (h3.cell (World.block_lt_of_cell? _ _ hc2d)).trans hc2d; clear h3))
              all_goals
                go_wp2_with fail
                go_ret
                exact ⟨rfl, HF3.out⟩
        · obtain rfl : j = m := by omega
          rw [List.drop_of_length_le (by omega)] at heq
          simp only [ftL] at heq
          subst heq
          have HB2 := Lib.hid hb1
          clear hb1 hb2 H
          go_wp2_with fail
          go_ret
          exact ⟨rfl, HB2.out⟩
end Go.Proofs.YtfajgnaphekdhaaDoor
