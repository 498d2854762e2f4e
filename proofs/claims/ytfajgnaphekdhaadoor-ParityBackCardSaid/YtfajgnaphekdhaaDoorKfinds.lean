/- The walk of bedrockkeep.finds: it returns true. Conditions: the slice reads as pieces of one length; what Find answers of them when one is turned. -/
import Derived.Test.YtfajgnaphekdhaaDoorKodd
import Derived.Test.YtfajgnaphekdhaaDoorPfinds
import Derived.BigRegion
namespace Go.Proofs.YtfajgnaphekdhaaDoor
open Go.RowKit
set_option linter.unusedSimpArgs false
set_option linter.unusedVariables false
theorem xorL_take_len (b s : List UInt8) (X : List UInt8) : (xorL b (s.take b.length)).length = b.length := xorL_len _ _ (by simp; omega)
theorem eql_str (a b : List UInt8) : ((⟨a.toArray⟩ : ByteArray).toList == (⟨b.toArray⟩ : ByteArray).toList) = decide (a = b) := by
  have h : ∀ x : List UInt8, (⟨x.toArray⟩ : ByteArray).toList = x := fun x => by rw [ByteArray.toList_eq]
  rw [h, h]
  by_cases e : a = b
  · rw [decide_eq_true e, e]; simp
  · rw [decide_eq_false e]; simpa using e
set_option maxHeartbeats 4000000 in
set_option maxRecDepth 100000 in
theorem finds_calls (A : Option Addr) (c : Nat) (Y : List (List UInt8)) (i : Nat) (st : ByteArray) (w : World) (hr : RdL w A Y) (hc : Y.length ≤ c) (hi : i < Y.length) (hl : Y.length ≤ 1000) (hs : ∀ b ∈ Y, b.length ≤ 4096) (hst : st.size ≤ 140737488351232) (hg : ErrH w)
    (hfind : ∀ b : List UInt8, b.length = Y[i].length → findR (Y.set i b) 2 = (0, if b = Y[i] then -1 else (i : Int))) :
    Calls Tryd.prog 18 #[.slice A Y.length c, .int .i64 i, .string st] w fun e W' => e = .returned (.bool true) ∧ Below w.heap.size w W' := by
  obtain ⟨iS, hiS, hzS, hszS, hbS⟩ := info_parts infoS3
  obtain ⟨i5, hi5, hz0, hz1, hz2⟩ := info_parts info5
  obtain ⟨ad, Ai, ci, hA, hat⟩ := hr.at i hi
  subst hA
  have hem := fun W => run_emptySlice (P := Tryd.prog) W 33 5 i5 Tryd.underlying33 hi5
  have hem2 := fun W => run_emptySlice (P := Tryd.prog) W 23 33 iS Tryd.underlying23 hiS
  have hba : Below w.heap.size w (w.alloc (.cells #[] 5)) := (Below.refl _ _).alloc (Nat.le_refl _) _
  have hbl := hs Y[i] (List.getElem_mem hi)
  obtain ⟨g, Z, W2, r1, r2, r3, r4⟩ := run_append_lit (P := Tryd.prog) (w.alloc (.cells #[] 5)) 33 33 5 i5 Tryd.underlying33 hi5 hz0 hz1 hz2 w.heap.size (heap_alloc_new w _) Ai ci Y[i] ((hat _ hba).2) (by omega)
  have hb2 : Below w.heap.size w W2 := hba.trans (r3.mono (by simp))
  have h1 := (hat (w.alloc (.cells #[] 5)) hba).1
  have R1 := Lib.hid r1
  have Hat := Lib.hid hat
  have Hg := Lib.hid hg
  have Hfind := Lib.hid hfind
  have Hr := Lib.hid hr
  have Hgw := Lib.hid r4
  have Hs := Lib.hid hs
  obtain ⟨bi, hbi⟩ : ∃ bi, Y[i] = bi := ⟨_, rfl⟩
  have Hbi := Lib.hid hbi
  rw [hbi] at r1 r2 h1 hbl R1 Hat Hfind
  have H0 := Lib.hid (show Below w.heap.size w W2 ∧ W2.heap[g]? = some (.cells (bArr (xorL (bi ++ List.replicate Z 0) ((st.data.toList.take bi.length).take 0))) 5 (0, 0)) by
    rw [List.take_zero, xorL_nil]; exact ⟨hb2, r2⟩)
  have hss : st.data.toList.length = st.size := by simp
  have Hss := Lib.hid hss
  obtain ⟨n, hn⟩ : ∃ n, bi.length = n := ⟨_, rfl⟩
  have Hn := Lib.hid hn
  rw [hn] at h1 hbl R1
  have hii : (i : Int) < (Y.length : Int) := by omega
  clear r1 r2 r3 r4 hat hg hfind hr hba hb2 hs hbi hss hn
  go_enter Tryd.func18, Tryd.ntmps18
  go_wp2_with (at_builtin; go_must (refine wpList_append_run rfl (.tmp 12) (.tmp 16) 33 33 rfl rfl rfl (by exact R1.out) ?_))
  go_loopw [8] (fun j wr => ∃ k : Nat, k ≤ n ∧ k ≤ st.size ∧ j = .int .i64 k ∧ Hid (Below w.heap.size w wr ∧ wr.heap[g]? = some (.cells (bArr (xorL (bi ++ List.replicate Z 0) ((st.data.toList.take bi.length).take k))) 5 (0, 0)))) (fun j _ => n - (intOf j).toNat)
  case atStart => exact ⟨0, by omega, by omega, rfl, H0⟩
  case round =>
    clear H0
    rename World => wr
    obtain ⟨k, hk, hks, rfl, H⟩ := hrel
    have hLl : n ≤ (bi ++ List.replicate Z 0).length := by have := Hn.out; simp; omega
    have hsl : (st.data.toList.take bi.length).length = min n st.size := by have := Hn.out; have := Hss.out; simp; omega
    by_cases hboth : k < n ∧ k < st.size
    · obtain ⟨hlt, hlt2⟩ := hboth
      obtain ⟨e1, e2⟩ := xorL_step (bi ++ List.replicate Z 0) (st.data.toList.take bi.length) k (by omega) (by omega)
      have hy : (st.data.toList.take bi.length).getD k 0 = st[k] := by
        have hkk : k < (st.data.toList.take bi.length).length := by omega
        rw [List.getD, List.getElem?_eq_getElem hkk, Option.getD_some, List.getElem_take]
        rfl
      rw [hy] at e2
      have hlen : (xorL (bi ++ List.replicate Z 0) ((st.data.toList.take bi.length).take k)).length = (bi ++ List.replicate Z 0).length := xorL_len _ _ (by simp; omega)
      have hc1 : wr.cell? ⟨g, k, none⟩ = some (.int .u8 (((bi ++ List.replicate Z 0).getD k 0).toNat : Int)) := by
        rw [cell_of_row _ _ _ _ _ _ H.out.2, bArr_getD _ _ (by omega), e1]
      have hf1 : wr.frozen? ⟨g, k, none⟩ = false := frozen_of_row _ _ _ _ _ H.out.2
      have hc2 : wr.drew.cell? ⟨g, k, none⟩ = some (.int .u8 (((bi ++ List.replicate Z 0).getD k 0).toNat : Int)) := hc1
      have hf2 : wr.drew.frozen? ⟨g, k, none⟩ = false := hf1
      have hx := u8_xor_cast ((bi ++ List.replicate Z 0).getD k 0) st[k]
      have hyy : st[k] = st[k] := rfl
      obtain ⟨y, hyy⟩ : ∃ y, st[k] = y := ⟨_, rfl⟩
      rw [hyy] at hx e2
      generalize (bi ++ List.replicate Z 0).getD k 0 = x at *
      have hset : wr.drew.setCell ⟨g, k, none⟩ (.int .u8 (((x ^^^ y).toNat : Nat) : Int)) = wr.drew.setRow g (bArr (xorL (bi ++ List.replicate Z 0) ((st.data.toList.take bi.length).take (k + 1)))) := by
        rw [setCell_eq_setRow _ g k _ _ _ _ (show wr.drew.heap[g]? = _ from H.out.2), bArr_set, e2]
      have HN := Lib.hid (show Below w.heap.size w (wr.drew.setCell ⟨g, k, none⟩ (.int .u8 (((x ^^^ y).toNat : Nat) : Int))) ∧ (wr.drew.setCell ⟨g, k, none⟩ (.int .u8 (((x ^^^ y).toNat : Nat) : Int))).heap[g]? = some (.cells (bArr (xorL (bi ++ List.replicate Z 0) ((st.data.toList.take bi.length).take (k + 1)))) 5 (0, 0)) by
        rw [hset]
        exact ⟨below_setRow H.out.1.drew Hgw.out _, setRow_heap _ _ _ _ _ _ (show wr.drew.heap[g]? = _ from H.out.2)⟩)
      rw [← hx] at HN
      have hkn : (k : Int) < (n : Int) := by omega
      have hks2 : (k : Int) < (st.size : Int) := by omega
      clear hset e1 e2 hy hlen hsl hLl H hx
      go_wp2_with fail
      go_region
      all_goals
        go_wp2_with fail
        exact ⟨⟨k + 1, by omega, by omega, by go_num, HN⟩, by simp [intOf]; omega⟩
    · have htk : (st.data.toList.take bi.length).take k = st.data.toList.take bi.length := List.take_of_length_le (by omega)
      have hrow := H.out.2
      rw [htk, xorL_append _ _ _ (by rw [List.length_take]; omega)] at hrow
      have hbxl : (xorL bi (st.data.toList.take bi.length)).length = n := by rw [xorL_len _ _ (by rw [List.length_take]; omega)]; exact Hn.out
      generalize xorL bi (st.data.toList.take bi.length) = bx at *
      have hgl := (Array.getElem?_eq_some_iff.1 hrow).1
      obtain ⟨v', W3, xs, r3, hup, hb3⟩ := use_run (c := c) (Below.refl wr.heap.size wr) (Hr.out.below H.out.1) (by omega) hl
      obtain ⟨gu, cu, rfl, hcu, hgu, hwu, hru⟩ := hup.rdl (by omega)
      have hfz := hup.own.frozenAt i
      have hxsl := hup.own.1
      obtain ⟨u0, hcz⟩ : ∃ u, W3.cell? ⟨gu, i, none⟩ = some u := ⟨xs[i]'(by omega), by rw [hup.own.cellAt i (by omega)]; simp [show i < xs.length by omega]⟩
      obtain ⟨s1, s2⟩ := hup.own.stored i (.slice (some ⟨g, 0, none⟩) n (n + Z))
      have hbel : Below wr.heap.size wr (W3.setCell ⟨gu, i, none⟩ (.slice (some ⟨g, 0, none⟩) n (n + Z))) := hb3.grown s2 hb3.size (fun k e => by cases e; exact hwu)
      have hrd4 : RdL (W3.setCell ⟨gu, i, none⟩ (.slice (some ⟨g, 0, none⟩) n (n + Z))) (some ⟨gu, 0, none⟩) (Y.set i bx) := fun j hj => by
        have hjY : j < Y.length := by simpa using hj
        have hcj : ∀ u, (xs.set i (.slice (some ⟨g, 0, none⟩) n (n + Z)))[j]? = some u → (W3.setCell ⟨gu, i, none⟩ (.slice (some ⟨g, 0, none⟩) n (n + Z))).cell? ((⟨gu, 0, none⟩ : Addr).add j) = some u := fun u hu => by
          rw [addr_add0, s1.cellAt j (by omega), hu]
        by_cases hij : i = j
        · subst hij
          refine ⟨_, some ⟨g, 0, none⟩, n + Z, rfl, ?_, ?_, ?_⟩
          · rw [hcj _ (by simp [show i < xs.length by omega]; rfl)]
            simp [hbxl]
          · simp only [List.getElem_set_self]
            exact Rd.block ((hbel.block g hgl).trans hrow) ⟨_, rfl⟩
          · simp [hbxl]
        · obtain ⟨Aj, cj, e1, e2, e3⟩ := hup.el j (by omega) hjY
          refine ⟨_, Aj, cj, rfl, ?_, ?_, ?_⟩
          · rw [hcj xs[j] (by rw [List.getElem?_set_ne hij]; simp [show j < xs.length by omega]), e1]
            simp [List.getElem_set_ne hij]
          · simp only [List.getElem_set_ne hij]
            exact e2.below hbel
          · simp only [List.getElem_set_ne hij]
            exact e3
      have hPF := parityFind_calls (some ⟨gu, 0, none⟩) cu (Y.set i bx) 2 (W3.setCell ⟨gu, i, none⟩ (.slice (some ⟨g, 0, none⟩) n (n + Z))) hrd4 (fun _ => ⟨_, _, rfl⟩) (by simpa using hcu) (by simpa using hl) (fun b hb => by
        rcases List.mem_or_eq_of_mem_set hb with hb | rfl
        · have := Hs.out b hb; omega
        · omega) (Hg.out.below Hg.out.lt (H.out.1.trans (hbel.mono H.out.1.size)))
      rw [Hfind.out bx (by rw [hbxl]; exact Hn.out.symm), List.length_set] at hPF
      have HPF := Lib.hid hPF
      have HB4 := Lib.hid (H.out.1.trans (hbel.mono H.out.1.size))
      have R3 := Lib.hid r3
      have Hrow4 := Lib.hid (show (W3.setCell ⟨gu, i, none⟩ (.slice (some ⟨g, 0, none⟩) n (n + Z))).heap[g]? = some (.cells (bArr (bx ++ List.replicate Z 0)) 5 (0, 0)) from (hbel.block g hgl).trans hrow)
      have Hgl4 := Lib.hid (show g < (W3.setCell ⟨gu, i, none⟩ (.slice (some ⟨g, 0, none⟩) n (n + Z))).heap.size from Nat.lt_of_lt_of_le hgl hbel.size)
      have Hbxl := Lib.hid hbxl
      clear hPF hbel hrd4 s1 s2 r3 hup hb3 hru hrow htk hsl hLl H hgl hxsl hcu hgu hwu hbxl
      rcases (show (k < n ∧ ¬ k < st.size) ∨ ¬ k < n by omega) with ⟨hlt, hlt2⟩ | hlt
      all_goals
        clear hboth
        go_wp2_with (at_builtin; go_must (refine wpList_append_run rfl (.tmp 41) (.tmp 42) 23 23 rfl rfl rfl (by exact R3.out) ?_))
        refine (HPF.out).mono ?_
        rintro e W5 ⟨rfl, hb5⟩
        have hs1 := run_string_of (P := Tryd.prog) W5.drew 33 9 5 Tryd.underlying33 Tryd.underlying5 Tryd.underlying9 (some ⟨g, 0, none⟩) (n + Z) bx (Rd.block (show W5.drew.heap[g]? = _ from (hb5.block g Hgl4.out).trans Hrow4.out) ⟨_, rfl⟩)
        have hBW5 := HB4.out.trans (hb5.mono HB4.out.size)
        have hat5 := Hat.out W5.drew hBW5.drew
        have hs2 := run_string_of (P := Tryd.prog) W5.drew 33 9 5 Tryd.underlying33 Tryd.underlying5 Tryd.underlying9 Ai ci bi hat5.2
        have hc5 := hat5.1
        have hc6 : W5.cell? (ad.add i) = some (.slice Ai bi.length ci) := hc5
        rw [Hbxl.out] at hs1
        rw [Hn.out] at hs2 hc5 hc6
        have HB5 := Lib.hid hBW5
        clear hb5 hat5 hBW5
        by_cases hbe : bx = bi
        · have hbb : (bx == bi) = true := by simpa using hbe
          go_wp2_with fail
          go_region
          all_goals
            go_wp2_with fail
            go_ret
            exact ⟨rfl, by first | exact HB5.out.drew | exact HB5.out⟩
        · have hbb : (bx == bi) = false := by simpa using hbe
          go_wp2_with fail
          go_region
          all_goals
            go_wp2_with fail
            go_ret
            exact ⟨rfl, by first | exact HB5.out.drew | exact HB5.out⟩
end Go.Proofs.YtfajgnaphekdhaaDoor
