/- The walk of bedrockref.Make. -/
import Derived.Test.YtfajgnaphekdhaaDoorPmath
import Derived.Test.YtfajgnaphekdhaaDoorPowl
namespace Go.Proofs.YtfajgnaphekdhaaDoor
open Go.RowKit
set_option linter.unusedSimpArgs false
set_option linter.unusedVariables false
theorem szL_eq : ∀ (ls : List (List UInt8)) (n m : Nat), szL n ls = some m → ∀ b ∈ ls, 0 < b.length → b.length = m
  | [], _, _, _, _, h => by cases h
  | b :: r, n, m, h, x, hx => by
    intro h0
    simp only [szL] at h
    split at h
    · cases h
    · rename_i hc
      rcases List.mem_cons.1 hx with rfl | hx
      · have := (szL_all r _ _ h).2.2 (by omega)
        by_cases hn : n = 0
        · omega
        · have : x.length = n := by
            rcases Nat.lt_or_ge 0 n with h1 | h1
            · exact Classical.byContradiction fun e => hc ⟨h1, h0, e⟩
            · omega
          omega
      · exact szL_eq r _ _ h x hx h0
theorem OwnB.el {w : World} {B : Nat} {v : Value} {bs : List UInt8} (h : OwnB w B 5 v bs) (hn : bs ≠ []) : El w v bs := by
  rcases h.2 with ⟨rfl, h0⟩ | ⟨g, cap, cur, rfl, hb, hg, hc, hm, hs, ht⟩
  · exact absurd (List.length_eq_zero_iff.1 h0) hn
  · obtain ⟨A, c, hv, hr, hc2, _, _⟩ := h.form
    cases hv
    exact ⟨g, cap, cur, _, rfl, hg, hr, hc⟩
theorem own_push1 {w : World} {B : Nat} {v : Value} {bs : List UInt8} (h : OwnB w B 5 v bs) (hB : B ≤ w.heap.size) (x : Nat) (hx : x < 256) (hl : bs.length ≤ 1000000) :
    ∃ v' W', (Builtin.append_ #[33, 33] 33 #[v, .slice (some ⟨w.heap.size, 0, none⟩) 1 1]).run Tryd.prog (w.alloc (.cells #[.int .u8 (x : Int)] 5)) = .ok v' W' ∧ OwnB W' B 5 v' (bs ++ [UInt8.ofNat x]) ∧ Below B w W' := by
  obtain ⟨i5, hi, hz0, hz1, hz2⟩ := info_parts info5
  have hr := one_rd w (UInt8.ofNat x) 5
  rw [ofN x hx] at hr
  obtain ⟨v', W', r1, r2, r3, r4⟩ := own_append (P := Tryd.prog) (w.alloc (.cells #[.int .u8 (x : Int)] 5)) 33 33 5 i5 Tryd.underlying33 hi hz0 hz1 hz2 B v bs (h.alloc _) (by simp; omega) _ 1 [UInt8.ofNat x] hr (by simp; omega)
  exact ⟨v', W', r1, r2, ((Below.refl B w).alloc hB _).trans r3⟩
def RmPost (w : World) (R : Int × List (List UInt8)) (e : Ending) (W' : World) : Prop := ∃ A' c', e = .returned (.tuple #[.slice A' R.2.length c', .int .i64 R.1]) ∧ RdL W' A' R.2 ∧ Below w.heap.size w W'
def RmInv (w : World) (n : Nat) (ls : List (List UInt8)) (m : Nat) (v : Value) (wr : World) : Prop := OwnLL wr w.heap.size v ((List.range m).map fun (k : Nat) => rowB n ((k : Int) + 1) ls) ∧ Below w.heap.size w wr
def RmIn (wo : World) (n : Nat) (ls : List (List UInt8)) (k : Int) (a : Nat) (v : Value) (wr : World) : Prop := OwnB wr wo.heap.size 5 v (rowB a k ls) ∧ Below wo.heap.size wo wr
theorem rowB_succ (n : Nat) (k : Int) (ls : List (List UInt8)) : rowB (n + 1) k ls = rowB n k ls ++ [UInt8.ofNat (exN ls n k)] := by
  simp [rowB, List.range_succ]
theorem rowB_len (n : Nat) (k : Int) (ls : List (List UInt8)) : (rowB n k ls).length = n := by simp [rowB]
theorem exN_lt (ls : List (List UInt8)) (a : Nat) (k : Int) : exN ls a k < 256 := by
  have hP : ∀ l : List (List UInt8), colP (colAt a l) < 256 := by
    intro l
    induction l with
    | nil => exact Nat.zero_lt_succ _
    | cons b r ih => simp only [colAt, List.map_cons, colP]; exact Nat.xor_lt_two_pow (n := 8) (UInt8.toNat_lt _) ih
  have hQ : ∀ (l : List (List UInt8)) (i : Nat), colQ i (colAt a l) < 256 := by
    intro l
    induction l with
    | nil => intro i; exact Nat.zero_lt_succ _
    | cons b r ih => intro i; simp only [colAt, List.map_cons, colQ]; exact Nat.xor_lt_two_pow (n := 8) (dblN_lt _ _ (UInt8.toNat_lt _)) (ih _)
  unfold exN
  split
  · exact hP ls
  · exact hQ ls 0
set_option maxHeartbeats 2000000 in
set_option maxRecDepth 100000 in
theorem rmake_calls (A : Option Addr) (c : Nat) (ls : List (List UInt8)) (lv : Int) (w : World) (hr : RdL w A ls) (hl : ls.length ≤ 1000) (hs : ∀ b ∈ ls, b.length ≤ 140737488355328) :
    Calls Tryd.prog 10 #[.slice A ls.length c, .int .i64 lv] w fun e W' => RmPost w (refMakeR ls lv) e W' := by
  obtain ⟨iS, hiS, hsz⟩ := infoS
  obtain ⟨i5, hi, hz0, hz1, hz2⟩ := info_parts info5
  unfold refMakeR
  by_cases hlv : lv < 0 ∨ 2 < lv
  · rw [if_pos hlv]
    go_enter Tryd.func10, Tryd.ntmps10
    rcases hlv with h | h
    · go_wp2_with fail
      go_ret2
      exact ⟨none, 0, rfl, RdL.nil _ _, Below.refl _ _⟩
    · have h2 : ¬ lv < 0 := by omega
      go_wp2_with fail
      go_ret2
      exact ⟨none, 0, rfl, RdL.nil _ _, Below.refl _ _⟩
  · rw [if_neg hlv]
    have h1 : ¬ lv < 0 := by omega
    have h2 : ¬ 2 < lv := by omega
    have HS := Lib.hid (refSize_calls A c ls (ls.length : Int) w hr hs hl)
    have HE := Lib.hid (fun W hr => empty_calls A c ls W hr hl)
    have Hr := Lib.hid hr
    by_cases hn : refSize ls (ls.length : Int) < 0
    · rw [if_pos (.inl hn)]
      generalize refSize ls (ls.length : Int) = z at *
      clear hr hlv
      go_enter Tryd.func10, Tryd.ntmps10
      go_wp2_with fail
      refine (HS.out).mono ?_
      rintro e W1 ⟨rfl, b1⟩
      have Hb1 := Lib.hid b1
      clear b1
      go_wp2_with fail
      go_ret2
      exact ⟨none, 0, rfl, RdL.nil _ _, Hb1.out⟩
    · by_cases he : 0 < emptyN ls
      · rw [if_pos (.inr he)]
        have hele := emptyN_le ls
        generalize refSize ls (ls.length : Int) = z at *
        generalize emptyN ls = en at *
        clear hr hlv
        go_enter Tryd.func10, Tryd.ntmps10
        go_wp2_with fail
        refine (HS.out).mono ?_
        rintro e W1 ⟨rfl, b1⟩
        have Hb1 := Lib.hid b1
        clear b1
        go_wp2_with fail
        refine (HE.out W1 (Hr.out.below Hb1.out)).mono ?_
        rintro e W2 ⟨rfl, b2⟩
        have Hb2 := Lib.hid (Hb1.out.trans (b2.mono Hb1.out.size))
        clear b2
        go_wp2_with fail
        go_ret2
        exact ⟨none, 0, rfl, RdL.nil _ _, Hb2.out⟩
      · rw [if_neg (by rintro (h | h); exact hn h; exact he h)]
        obtain ⟨m, hm⟩ : ∃ m : Nat, lv = (m : Int) := ⟨lv.toNat, by omega⟩
        obtain ⟨n, hnn⟩ : ∃ n : Nat, refSize ls (ls.length : Int) = (n : Int) := ⟨(refSize ls (ls.length : Int)).toNat, by omega⟩
        have hall : (∀ b ∈ ls, b.length = n) ∧ 0 < n ∧ n ≤ 4096 := by
          unfold refSize at hnn
          cases h : (sizedR ls (ls.length : Int)).2 with
          | false => rw [h] at hnn; simp at hnn
          | true =>
            rw [h, if_pos rfl] at hnn
            unfold sizedR at h hnn
            cases hz : szL 0 ls with
            | none => rw [hz] at h; cases h
            | some n' =>
              rw [hz] at h hnn
              simp only at h hnn
              obtain rfl : n' = n := by omega
              obtain ⟨k1, k2, _, _⟩ := szOk_true h
              have h0 := (emptyN_zero ls).1 (by omega)
              exact ⟨fun b hb => szL_eq ls 0 n' hz b hb (by have := h0 b hb; omega), k1, k2⟩
        have HX := Lib.hid (fun (a : Nat) (ha : a < n) (k : Int) W hr => extra_calls A c ls a k W hr (fun b hb => by rw [hall.1 b hb]; exact ha) hl (by omega))
        have hn0 := hall.2.1
        have hn4 := hall.2.2
        have he0 : emptyN ls = 0 := by omega
        subst hm
        rw [hnn] at HS ⊢
        rw [he0] at HE
        rw [Int.toNat_natCast, Int.toNat_natCast]
        have hm2 : m ≤ 2 := by omega
        clear hr hlv hn he hall hnn he0
        go_enter Tryd.func10, Tryd.ntmps10
        go_wp2_with fail
        refine (HS.out).mono ?_
        rintro e W1 ⟨rfl, b1⟩
        have Hb1 := Lib.hid b1
        clear b1
        go_wp2_with fail
        refine (HE.out W1 (Hr.out.below Hb1.out)).mono ?_
        rintro e W2 ⟨rfl, b2⟩
        have hq0 := Lib.hid (show RmInv w n ls 0 (.slice none 0 0) W2 from ⟨OwnLL.nil _ _, Hb1.out.trans (b2.mono Hb1.out.size)⟩)
        clear b2
        go_wp2_with fail
        go_loopw [7, 8] (fun v i wr => ∃ k : Nat, k ≤ m ∧ i = .int .i64 ((k : Int) + 1) ∧ Hid (RmInv w n ls k v wr)) (fun _ i _ => m + 1 - (intOf i).toNat)
        case atStart => exact ⟨0, by omega, rfl, hq0⟩
        case round =>
          rename World => wo
          rename Value => va
          obtain ⟨k, hk, rfl, H⟩ := hrel
          by_cases hlt : k < m
          · go_wp2_with fail
            rw [show decide ((k : Int) + 1 ≤ (m : Int)) = true by simp only [decide_eq_true_eq]; omega]
            have hq1 := Lib.hid (show RmIn wo n ls ((k : Int) + 1) 0 (.slice none 0 0) wo from ⟨OwnB.nil _ _ _, Below.refl _ _⟩)
            go_loopw [9, 10] (fun v i wr => ∃ a : Nat, a ≤ n ∧ i = .int .i64 a ∧ Hid (RmIn wo n ls ((k : Int) + 1) a v wr)) (fun _ i _ => n - (intOf i).toNat)
            case atStart => exact ⟨0, by omega, rfl, hq1⟩
            case round =>
              rename Value => vb
              obtain ⟨a, ha, rfl, H2⟩ := hrel
              by_cases hlt2 : a < n
              · obtain ⟨HO, HB⟩ := H2.out
                have hxl := exN_lt ls a ((k : Int) + 1)
                have hx := Lib.hid (HX.out a hlt2 ((k : Int) + 1) wr (((Hr.out.below H.out.2).below HB)))
                have hsu := Lib.hid (rowB_succ a ((k : Int) + 1) ls)
                have hrl := rowB_len a ((k : Int) + 1) ls
                generalize rowB a ((k : Int) + 1) ls = R at *
                generalize exN ls a ((k : Int) + 1) = x at *
                go_wp2_with fail
                refine (hx.out).mono ?_
                rintro e W3 ⟨rfl, b3⟩
                obtain ⟨v', W4, r4, o4, b4⟩ := own_push1 (HO.below b3) (Nat.le_trans HB.size b3.size) x hxl (by omega)
                have HF := Lib.hid (show RmIn wo n ls ((k : Int) + 1) (a + 1) v' W4 from ⟨by rw [hsu.out]; exact o4, (HB.trans (b3.mono HB.size)).trans b4⟩)
                have R4 := Lib.hid r4
                clear r4 o4 b4 HO HB b3
                go_wp2_with (at_builtin; go_must (refine wpList_append_run rfl (.tmp 38) (.tmp 43) 33 33 rfl rfl rfl (by exact R4.out) ?_))
                exact ⟨⟨a + 1, by omega, by go_num, HF⟩, by simp [intOf]; omega⟩
              · obtain rfl : a = n := by omega
                obtain ⟨HO, HB⟩ := H2.out
                obtain ⟨ho, hb⟩ := H.out
                have hel := HO.el (by intro e; have := rowB_len a ((k : Int) + 1) ls; rw [e] at this; simp at this; omega)
                obtain ⟨v', W4, r4, o4, b4, _⟩ := own_pushLL (ho.below HB) hel (Nat.le_trans hb.size HB.size) (by simp; omega)
                obtain ⟨A2, c2, hv2, _⟩ := HO.form
                subst hv2
                have HF := Lib.hid (show RmInv w a ls (k + 1) v' W4 from ⟨by rw [List.range_succ, List.map_append]; exact o4, (hb.trans (HB.mono hb.size)).trans b4⟩)
                have R4 := Lib.hid r4
                clear r4 o4 b4 HO HB ho hb hel
                go_wp2_with (at_builtin; go_must (refine wpList_append_run rfl (.tmp 45) (.tmp 47) 23 23 rfl rfl rfl (by exact R4.out) ?_))
                exact ⟨⟨k + 1, by omega, by go_num, HF⟩, by simp [intOf]; omega⟩
          · obtain rfl : k = m := by omega
            obtain ⟨ho, hb⟩ := H.out
            obtain ⟨A', c', e1, e2, e3⟩ := ho.rdl
            subst e1
            have HF := Lib.hid (And.intro e2 hb)
            clear ho hb e2 e3 H
            go_wp2_with fail
            go_ret2
            exact ⟨A', c', rfl, HF.out.1, HF.out.2⟩
end Go.Proofs.YtfajgnaphekdhaaDoor
