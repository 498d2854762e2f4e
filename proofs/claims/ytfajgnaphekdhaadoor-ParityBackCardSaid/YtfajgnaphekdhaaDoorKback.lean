/- The walk of the law ParityBack: it returns true and leaves what was there. Conditions: the library's variable errors.errorType holds its handle; the slice of strings reads as texts of at most 2^47 bytes each, and so does the string. -/
import Derived.Test.YtfajgnaphekdhaaDoorKapp
import Derived.Deep.Cut
namespace Go.Proofs.YtfajgnaphekdhaaDoor
open Go.RowKit
set_option linter.unusedSimpArgs false
set_option linter.unusedVariables false
def KbIn (w : World) (ls : List (List UInt8)) (k : Nat) (v : Value) (wr : World) : Prop := OwnLL wr w.heap.size v (ls.take k) ∧ Below w.heap.size w wr
def MmPost (w : World) (R : Int × List (List UInt8)) (e : Ending) (W' : World) : Prop := ∃ A' c', e = .returned (.tuple #[.slice A' R.2.length c', .int .i64 R.1]) ∧ RdLB w.heap.size W' A' R.2 ∧ Below w.heap.size w W'
/-- some of the pieces are gone -/
structure XOk (AL X : List (List UInt8)) (e : Nat) : Prop where
  len : X.length = AL.length
  el : ∀ i (h : i < X.length) (h2 : i < AL.length), X[i] = AL[i] ∨ X[i] = []
  em : emptyN X ≤ e
theorem XOk.set {AL X : List (List UInt8)} {e : Nat} (h : XOk AL X e) (k : Nat) : XOk AL (X.set k []) (e + 1) := by
  refine ⟨by simp [h.len], fun i h1 h2 => ?_, by have := emptyN_set_le X k; have := h.em; omega⟩
  by_cases hk : k = i
  · subst hk; right; simp
  · simp only [List.getElem_set_ne hk]
    exact h.el i (by simpa using h1) h2
/-- the copy, some of whose pieces are gone -/
def KbCopy (W4 : World) (AL : List (List UInt8)) (gl cl e : Nat) (wc : World) : Prop := Below W4.heap.size W4 wc ∧ ∃ xs X, UseP W4 wc (.slice (some ⟨gl, 0, none⟩) AL.length cl) xs X ∧ XOk AL X e
theorem KbCopy.set {W4 wc : World} {AL : List (List UInt8)} {gl cl e : Nat} (h : KbCopy W4 AL gl cl e wc) (k : Nat) (hk : k < AL.length) (hgl : W4.heap.size ≤ gl) : wc.frozen? ⟨gl, k, none⟩ = false ∧ (∃ u, wc.cell? ⟨gl, k, none⟩ = some u) ∧ KbCopy W4 AL gl cl (e + 1) (wc.setCell ⟨gl, k, none⟩ (.slice none 0 0)) := by
  obtain ⟨hb, xs, X, hu, hx⟩ := h
  rw [← hx.len] at hu
  obtain ⟨f1, f2, f3, f4⟩ := hu.set k (by rw [hx.len]; exact hk)
  have f5 : UseP W4 (wc.setCell ⟨gl, k, none⟩ (.slice none 0 0)) (.slice (some ⟨gl, 0, none⟩) AL.length cl) (xs.set k (.slice none 0 0)) (X.set k []) := by rw [← hx.len]; exact f3
  exact ⟨f1, f2, hb.grown f4 hb.size (fun k e => by cases e; exact hgl), _, _, f5, hx.set k⟩
theorem KbCopy.rdl {W4 wc : World} {AL : List (List UInt8)} {gl cl e : Nat} (h : KbCopy W4 AL gl cl e wc) (h0 : 0 < AL.length) : ∃ X, XOk AL X e ∧ RdL wc (some ⟨gl, 0, none⟩) X ∧ X.length ≤ cl := by
  obtain ⟨hb, xs, X, hu, hx⟩ := h
  obtain ⟨gu, cu, e1, e2, e3, e4, e5⟩ := hu.rdl (by rw [hx.len]; exact h0)
  injection e1 with a1 a2 a3
  cases a1
  exact ⟨X, hx, e5 wc rfl hb, by omega⟩
set_option maxHeartbeats 8000000 in
set_option maxRecDepth 100000 in
theorem parityBack_calls (A : Option Addr) (c : Nat) (ls : List (List UInt8)) (lv one two : Int) (st : ByteArray) (w : World) (hg : ErrH w) (hr : RdS w A ls) (hs : ∀ b ∈ ls, b.length ≤ 140737488351232) (hl : ls.length ≤ 9223372036854775807) (hst : st.size ≤ 140737488351232)
    (b1 : -9223372036854775808 ≤ lv ∧ lv ≤ 9223372036854775807) (b2 : -9223372036854775808 ≤ one ∧ one ≤ 9223372036854775807) (b3 : -9223372036854775808 ≤ two ∧ two ≤ 9223372036854775807) :
    Calls Tryd.prog 6 #[.slice A ls.length c, .int .i64 lv, .int .i64 one, .int .i64 two, .string st] w fun e w' => e = .returned (.bool true) ∧ Below w.heap.size w w' := by
  obtain ⟨iS, hiS, hzS, hszS, hbS⟩ := info_parts infoS3
  have hem2 := fun W => run_emptySlice (P := Tryd.prog) W 23 33 iS Tryd.underlying23 hiS
  have Hr := Lib.hid hr
  have Hs := Lib.hid hs
  have Hg := Lib.hid hg
  have Hpl := Lib.hid (fun W => pick_calls lv 3 W b1.1 b1.2 (by omega) (by omega))
  have Hp1 := Lib.hid (fun (N : Int) (h0 : 0 < N) (h1 : N ≤ 9223372036854775807) W => pick_calls one N W b2.1 b2.2 h0 h1)
  have Hp2 := Lib.hid (fun (N : Int) (h0 : 0 < N) (h1 : N ≤ 9223372036854775807) W => pick_calls two N W b3.1 b3.2 h0 h1)
  have hq0 := Lib.hid (show KbIn w ls 0 (.slice none 0 0) w from ⟨by simpa using OwnLL.nil w w.heap.size, Below.refl _ _⟩)
  have Hst := Lib.hid hst
  obtain ⟨m, hm⟩ : ∃ m : Nat, lv % 3 = (m : Int) := ⟨(lv % 3).toNat, by omega⟩
  have hm2 : m ≤ 2 := by omega
  rw [hm] at Hpl
  clear hr hs hg b1 b2 b3 hst hm
  go_enter Tryd.func6, Tryd.ntmps6
  go_wp2_with fail
  go_loopw [11, 12] (fun v i wr => ∃ k : Nat, k ≤ ls.length ∧ k ≤ 16 ∧ i = .int .i64 k ∧ Hid (KbIn w ls k v wr)) (fun _ i _ => ls.length - (intOf i).toNat)
  case atStart => exact ⟨0, by omega, by omega, rfl, hq0⟩
  case round =>
    clear hq0
    rename World => wr
    obtain ⟨k, hk, hk2, rfl, H⟩ := hrel
    by_cases hboth : k < ls.length ∧ k < 16
    · obtain ⟨hlt, h16⟩ := hboth
      obtain ⟨ho, hb⟩ := H.out
      obtain ⟨ad, hA, hcell⟩ := (Hr.out.below hb) k hlt
      subst hA
      have hbl := Hs.out ls[k] (List.getElem_mem hlt)
      have htk : ls.take (k + 1) = ls.take k ++ [ls[k]] := List.take_succ_eq_append_getElem hlt
      generalize ls[k] = b at *
      have hc1 := fun W => run_bytes_of (P := Tryd.prog) W 9 33 5 b Tryd.underlying9 Tryd.underlying33 Tryd.underlying5
      have hsz1 := convW_size wr b 5
      have hbc : Below wr.heap.size wr (convW wr b 5) := convW_below wr (Below.refl _ _) (Nat.le_refl _) b 5
      have hel : El (convW wr b 5) (.slice (some ⟨wr.heap.size, 0, none⟩) b.length (b.length + spare wr b 5)) b := ⟨wr.heap.size, _, _, _, rfl, convW_block wr b 5, convW_rd wr b 5, by omega⟩
      obtain ⟨v', W2, r1, o1, g1, _⟩ := own_pushLL (ho.below hbc) hel (Nat.le_trans hb.size hbc.size) (by simp; omega)
      have HF := Lib.hid (show KbIn w ls (k + 1) v' W2 from ⟨by rw [htk]; exact o1, (hb.trans (hbc.mono hb.size)).trans g1⟩)
      rw [hsz1] at r1
      have R1 := Lib.hid r1
      clear r1 o1 g1 hel hbc htk ho hb H
      go_wp2_with (at_builtin; go_must (refine wpList_append_run rfl (.tmp 30) (.tmp 36) 23 23 rfl rfl rfl (by exact R1.out) ?_))
      exact ⟨⟨k + 1, by omega, by omega, by go_num, HF⟩, by simp [intOf]; omega⟩
    · have hL : ls.take k = ls.take 16 := by
        rcases Nat.lt_or_ge k ls.length with h | h
        · have : k = 16 := by omega
          rw [this]
        · rw [List.take_of_length_le (by omega), List.take_of_length_le (by omega)]
      obtain ⟨ho, hb⟩ := H.out
      rw [hL] at ho
      have hL16 : (ls.take 16).length ≤ 16 := by simp; omega
      have hLs : ∀ b ∈ ls.take 16, b.length ≤ 140737488351232 := fun b hb => Hs.out b (List.mem_of_mem_take hb)
      generalize ls.take 16 = L at *
      obtain ⟨Ai, ci, hv, hri, hAi⟩ := ho.rdl
      subst hv
      have Hri := Lib.hid hri
      have Hbi := Lib.hid hb
      have HLs := Lib.hid hLs
      have hmk : Calls Tryd.prog 8 #[.slice Ai L.length ci, .int .i64 m] wr fun e W' => MmPost wr (makeR L m) e W' := parityMake_calls Ai ci L m wr hri hAi (by omega) (fun b hb => by have := hLs b hb; omega) (Hg.out.below Hg.out.lt hb)
      have Hmk := Lib.hid hmk
      have Hmo := Lib.hid (makeR_odd L m hm2 hL16)
      have Hodd := Lib.hid (fun (W : World) (hr : RdL W Ai L) => odd_calls Ai ci L W hr (by omega))
      clear ho hb hri hAi hmk hLs hL H
      generalize makeR L (m : Int) = R at *
      rcases (show (k < ls.length ∧ ¬ k < 16) ∨ ¬ k < ls.length by omega) with ⟨hlt, hlt2⟩ | hlt
      all_goals
        clear hboth
        go_wp2_with fail
        refine (Hpl.out _).mono ?_
        rintro e w' ⟨rfl, rfl⟩
        go_wp2_with fail
        refine (Hmk.out).mono ?_
        rintro e W1 ⟨Am, cm, rfl, hrm, hbm⟩
        have Hrm := Lib.hid hrm
        have Hbm := Lib.hid hbm
        clear hrm hbm Hmk
        have Hw1 := Lib.hid (show Below w.heap.size w W1 from Hbi.out.trans (Hbm.out.mono Hbi.out.size))
        cases ho : oddB L
        · have hmo := Hmo.out
          obtain ⟨sz, h0, hsz4, hn, hLall⟩ := odd_false L ho
          have e0 : (L.getD 0 []).length = sz := by rw [getD_at (by omega)]; exact hLall _ (List.getElem_mem _)
          rw [ho, if_neg (by decide), e0] at hmo
          subst hmo
          have HoD := Lib.hid ho
          have HLall := Lib.hid hLall
          have hMl : (pq L sz m).length = m := by simp [pq]; omega
          have HMl := Lib.hid hMl
          have hrm := Hrm.out
          simp only at hrm
          have hMle : ∀ b ∈ L ++ pq L sz m, b.length = sz := pq_len L sz hLall m
          have HMle := Lib.hid hMle
          have HMB := Lib.hid (fun X h1 h2 h3 => mend_back L sz hLall h0 hsz4 hn hL16 m hm2 X h1 h2 h3)
          have HFB := Lib.hid (fun (h : m = 2) i b hi hb => find_back L sz hLall h0 hsz4 hn hL16 i b hi hb _ rfl)
          obtain ⟨M, hM⟩ : ∃ M, pq L sz m = M := ⟨_, rfl⟩
          have HM := Lib.hid hM
          rw [hM] at hMl hrm HMB
          rw [hM] at HMle
          have Hrm2 := Lib.hid hrm
          clear hMle ho hLall hrm Hrm Hmo e0
          rw [hM]
          clear hM
          go_wp2_with fail
          refine (Hodd.out W1 (Hri.out.below Hbm.out)).mono ?_
          rintro e W2 ⟨rfl, b2⟩
          rw [HoD.out]
          have Hb2 := Lib.hid (Hbm.out.trans (b2.mono Hbm.out.size))
          have Hw2 := Lib.hid (Hw1.out.trans (b2.mono Hw1.out.size))
          obtain ⟨v3, W3, xs3, r3, hup3, hb3⟩ := use_run (c := ci) (Below.refl W2.heap.size W2) (Hri.out.below Hb2.out) (by omega) (by omega)
          obtain ⟨v4, W4, xs4, r4, hup4, hb4⟩ := use_app (c := cm) hup3 hb3 (Hrm2.out.rd.below b2) (by omega) (by omega)
          obtain ⟨g3, c3, rfl, _⟩ := hup3.rdl (by omega)
          obtain ⟨AL, hAL⟩ : ∃ AL, L ++ M = AL := ⟨_, rfl⟩
          have hALl : AL.length = L.length + m := by rw [← hAL]; simp [hMl]
          rw [hAL] at hup4
          obtain ⟨gA, cA, rfl, hcA, hgA, hwA, hrA⟩ := hup4.rdl (by omega)
          obtain ⟨v5, W5, xs5, r5, hup5, hb5⟩ := use_run (c := cA) (Below.refl W4.heap.size W4) (hrA W4 rfl hb4) (by omega) (by omega)
          obtain ⟨gl, cl, rfl, hcl, hgl, hwl, hrl⟩ := hup5.rdl (by omega)
          rw [hMl] at r4
          have R3 := Lib.hid r3
          have R4 := Lib.hid r4
          have R5 := Lib.hid r5
          have HrA := Lib.hid (hrA W4 rfl hb4)
          have Hb4 := Lib.hid (Hb2.out.trans (hb4.mono Hb2.out.size))
          have Hw4 := Lib.hid (Hw2.out.trans (hb4.mono Hw2.out.size))
          have HcA := Lib.hid hcA
          have Hwl := Lib.hid hwl
          rw [hAL] at HMle HMB
          have hem0 : emptyN AL = 0 := (emptyN_zero AL).2 fun b hb => by rw [HMle.out b hb]; omega
          have HK0 := Lib.hid (show KbCopy W4 AL gl cl 0 W5 from ⟨hb5, xs5, AL, hup5, ⟨rfl, fun _ _ _ => .inl rfl, by omega⟩⟩)
          have HALd := Lib.hid hAL
          have HALl := Lib.hid hALl
          clear r3 r4 r5 hup3 hb3 hup4 hb4 hup5 hb5 hrA hrl hgl hgA hwA hcA hcl hwl hem0 b2 hAL hALl
          go_upto_if 72 with (at_builtin; go_must (first | refine wpList_append_run rfl (.tmp 63) (.tmp 64) 23 23 rfl rfl rfl (by exact R3.out) ?_ | refine wpList_append_run rfl (.tmp 65) (.tmp 66) 23 23 rfl rfl rfl (by exact R4.out) ?_ | refine wpList_append_run rfl (.tmp 68) (.tmp 69) 23 23 rfl rfl rfl (by exact R5.out) ?_))
          obtain ⟨k1, hk1, hk1l⟩ : ∃ k1 : Nat, one % (AL.length : Int) = (k1 : Int) ∧ k1 < AL.length := by
            have hN : (0 : Int) < (AL.length : Int) := by have := HALl.out; omega
            have h1 := Int.emod_nonneg one (show (AL.length : Int) ≠ 0 by omega)
            have h2 := Int.emod_lt_of_pos one hN
            exact ⟨(one % (AL.length : Int)).toNat, by omega, by omega⟩
          obtain ⟨k2, hk2', hk2l⟩ : ∃ k2 : Nat, two % (AL.length : Int) = (k2 : Int) ∧ k2 < AL.length := by
            have hN : (0 : Int) < (AL.length : Int) := by have := HALl.out; omega
            have h1 := Int.emod_nonneg two (show (AL.length : Int) ≠ 0 by omega)
            have h2 := Int.emod_lt_of_pos two hN
            exact ⟨(two % (AL.length : Int)).toNat, by omega, by omega⟩
          have HP1 := Lib.hid (fun W => show Calls Tryd.prog 16 #[.int .i64 one, .int .i64 (AL.length : Int)] W fun e w' => e = .returned (.int .i64 (k1 : Int)) ∧ W = w' by
            rw [← hk1]; exact Hp1.out (AL.length : Int) (by have := HALl.out; omega) (by have := HALl.out; omega) W)
          have HP2 := Lib.hid (fun W => show Calls Tryd.prog 16 #[.int .i64 two, .int .i64 (AL.length : Int)] W fun e w' => e = .returned (.int .i64 (k2 : Int)) ∧ W = w' by
            rw [← hk2']; exact Hp2.out (AL.length : Int) (by have := HALl.out; omega) (by have := HALl.out; omega) W)
          clear hk1 hk2'
          have hk1i : (k1 : Int) < (AL.length : Int) := by omega
          have hk2i : (k2 : Int) < (AL.length : Int) := by omega
          go_cut [16] from 20 (fun l wc => l = .slice (some ⟨gl, 0, none⟩) AL.length cl ∧ Hid (∃ e, e ≤ 1 ∧ e ≤ m ∧ KbCopy W4 AL gl cl e wc))
          case first =>
            by_cases hm0 : 0 < m
            · obtain ⟨hf, ⟨u, hu⟩, hk⟩ := HK0.out.set k1 hk1l Hwl.out
              have HF := Lib.hid (show ∃ e, e ≤ 1 ∧ e ≤ m ∧ KbCopy W4 AL gl cl e (W5.setCell ⟨gl, k1, none⟩ (.slice none 0 0)) from ⟨1, by omega, by omega, hk⟩)
              clear hk
              go_wp2_with fail
              refine (HP1.out _).mono ?_
              rintro e w' ⟨rfl, rfl⟩
              go_wp2_with fail
              go_meet
              case rel => exact ⟨rfl, HF⟩
            · have hm00 : m = 0 := by omega
              subst hm00
              have HF := Lib.hid (show ∃ e, e ≤ 1 ∧ e ≤ 0 ∧ KbCopy W4 AL gl cl e W5 from ⟨0, by omega, by omega, HK0.out⟩)
              go_wp2_with fail
              go_meet
              case rel => exact ⟨rfl, HF⟩
          case rest =>
            obtain ⟨rfl, HK1⟩ := hcut
            rename World => wc1
            clear HK0
            go_upto_if 80 with fail
            go_cut [16] from 20 (fun l wc => l = .slice (some ⟨gl, 0, none⟩) AL.length cl ∧ Hid (KbCopy W4 AL gl cl m wc))
            case first =>
              obtain ⟨e, he1, he2, hk⟩ := HK1.out
              by_cases hm1 : 1 < m
              · have hm22 : m = 2 := by omega
                obtain ⟨hf, ⟨u, hu⟩, hk'⟩ := hk.set k2 hk2l Hwl.out
                have HF := Lib.hid (show KbCopy W4 AL gl cl m (wc1.setCell ⟨gl, k2, none⟩ (.slice none 0 0)) from by
                  obtain ⟨x1, xs, X, x2, x3⟩ := hk'
                  exact ⟨x1, xs, X, x2, x3.len, x3.el, by have := x3.em; omega⟩)
                clear hk hk' HK1 hm22
                go_wp2_with fail
                refine (HP2.out _).mono ?_
                rintro e w' ⟨rfl, rfl⟩
                go_wp2_with fail
                go_meet
                case rel => exact ⟨rfl, HF⟩
              · have HF := Lib.hid (show KbCopy W4 AL gl cl m wc1 from by
                  obtain ⟨x1, xs, X, x2, x3⟩ := hk
                  exact ⟨x1, xs, X, x2, x3.len, x3.el, by have := x3.em; omega⟩)
                have hm1' : ¬ (1 : Int) < (m : Int) := by omega
                clear hk HK1
                go_wp2_with fail
                go_meet
                case rel => exact ⟨rfl, HF⟩
            case rest =>
              obtain ⟨rfl, HK2⟩ := hcut
              rename World => wc2
              clear HK1
              obtain ⟨X, hX, hrX, hXc⟩ := HK2.out.rdl (by have := HALl.out; omega)
              have hXb : ∀ b ∈ X, b.length ≤ 4096 := fun b hb => by
                obtain ⟨i, hi, rfl⟩ := List.getElem_of_mem hb
                rcases hX.el i hi (by rw [← hX.len]; exact hi) with h | h
                · rw [h, HMle.out _ (List.getElem_mem _)]; exact hsz4
                · rw [h]; simp
              have hBc := HK2.out.1
              have hmn : Calls Tryd.prog 12 #[.slice (some ⟨gl, 0, none⟩) AL.length cl, .int .i64 (m : Int)] wc2 fun e W' => MmPost wc2 (0, L) e W' := by
                have h := parityMend_calls (some ⟨gl, 0, none⟩) cl X (m : Int) wc2 hrX (fun _ => ⟨_, _, rfl⟩) hXc (by have := HALl.out; have := hX.len; omega) (fun b hb => by have := hXb b hb; omega) (Hg.out.below Hg.out.lt (Hw4.out.trans (hBc.mono Hw4.out.size)))
                rw [HMB.out X (by rw [hX.len]; exact HALl.out) hX.el hX.em, hX.len] at h
                exact h
              have Hmn := Lib.hid hmn
              have HBc := Lib.hid hBc
              clear hX hrX hXc hXb hBc hmn HMB
              go_wp2_with fail
              refine (Hmn.out).mono ?_
              rintro e W6 ⟨Ag, cg, rfl, hrg, hbg⟩
              have Hrg := Lib.hid hrg.rd
              have Hb6 := Lib.hid (HBc.out.trans (hbg.mono HBc.out.size))
              clear hrg hbg Hmn
              have HriW := Lib.hid (show RdL W6 Ai L from Hri.out.below (Hb4.out.trans (Hb6.out.mono Hb4.out.size)))
              have Hw6 := Lib.hid (show Below w.heap.size w W6 from Hw4.out.trans (Hb6.out.mono Hw4.out.size))
              have HrA6 := Lib.hid (show RdL W6 (some ⟨gA, 0, none⟩) AL from HrA.out.below Hb6.out)
              have H7 := Lib.hid (Below.refl W6.heap.size W6)
              have HALk := Lib.hid (HMle.out AL[k1] (List.getElem_mem hk1l))
              have HMle4 := Lib.hid (show ∀ b ∈ AL, b.length ≤ 4096 from fun b hb => by rw [HMle.out b hb]; exact hsz4)
              clear Hri Hb4 Hw4 HrA
              go_wp2_with fail
              go_loopw [19] (fun i wr => ∃ j : Nat, j ≤ L.length ∧ i = .int .i64 j ∧ Hid (Below W6.heap.size W6 wr)) (fun i _ => L.length - (intOf i).toNat)
              case atStart => exact ⟨0, by omega, rfl, H7⟩
              case round =>
                clear H7
                rename World => w7
                obtain ⟨j, hj, rfl, H⟩ := hrel
                by_cases hlt7 : j < L.length
                · obtain ⟨ad1, A1, c1, hA1, hat1⟩ := Hrg.out.at j hlt7
                  obtain ⟨ad2, A2, c2, hA2, hat2⟩ := HriW.out.at j hlt7
                  subst hA1 hA2
                  obtain ⟨x1, x2⟩ := hat1 w7.drew H.out.drew
                  obtain ⟨y1, y2⟩ := hat2 w7.drew H.out.drew
                  have x3 := (hat1 w7 H.out).1
                  have y3 := (hat2 w7 H.out).1
                  have hs1 := run_string_of (P := Tryd.prog) w7.drew 33 9 5 Tryd.underlying33 Tryd.underlying5 Tryd.underlying9 A1 c1 L[j] x2
                  have hs2 := run_string_of (P := Tryd.prog) w7.drew 33 9 5 Tryd.underlying33 Tryd.underlying5 Tryd.underlying9 A2 c2 L[j] y2
                  clear hat1 hat2 x2 y2
                  generalize L[j] = b at *
                  go_wp2_with fail
                  go_region
                  all_goals
                    go_wp2_with fail
                    exact ⟨⟨j + 1, by omega, by go_num, Lib.hid (by first | exact H.out.drew | exact H.out)⟩, by simp [intOf]; omega⟩
                · obtain rfl : j = L.length := by omega
                  have HBe := Lib.hid (Hw6.out.trans (H.out.mono Hw6.out.size))
                  by_cases hm22 : m < 2
                  · have hm23 : (m : Int) < 2 := by omega
                    go_wp2_with fail
                    go_ret
                    exact ⟨rfl, HBe.out⟩
                  · have hm23 : ¬ (m : Int) < 2 := by omega
                    have hm24 : m = 2 := by omega
                    have HFi := Lib.hid (finds_calls (some ⟨gA, 0, none⟩) cA AL k1 st w7 (HrA6.out.below H.out) HcA.out hk1l (by have := HALl.out; omega) HMle4.out Hst.out (Hg.out.below Hg.out.lt HBe.out) (fun b hb => by
                      have h := HFB.out hm24 k1 b (by have := HALl.out; omega) (hb.trans HALk.out)
                      have e1 : L ++ pq L sz 2 = AL := by rw [← HALd.out, ← HM.out, hm24]
                      rw [e1, getD_at hk1l] at h
                      exact h))
                    clear hm24
                    go_wp2_with fail
                    refine (HP1.out _).mono ?_
                    rintro e w' ⟨rfl, rfl⟩
                    go_wp2_with fail
                    refine (HFi.out).mono ?_
                    rintro e W8 ⟨rfl, b8⟩
                    have HB8 := Lib.hid (HBe.out.trans (b8.mono HBe.out.size))
                    clear b8
                    go_wp2_with fail
                    go_ret
                    exact ⟨rfl, HB8.out⟩
        · have hmo := Hmo.out
          rw [ho, if_pos rfl] at hmo
          subst hmo
          have HoD := Lib.hid ho
          clear ho
          go_wp2_with fail
          refine (Hodd.out W1 (Hri.out.below Hbm.out)).mono ?_
          rintro e W2 ⟨rfl, b2⟩
          have HB2 := Lib.hid (Hw1.out.trans (b2.mono Hw1.out.size))
          clear b2
          go_wp2_with fail
          go_ret
          rw [HoD.out]
          exact ⟨rfl, HB2.out⟩
end Go.Proofs.YtfajgnaphekdhaaDoor
