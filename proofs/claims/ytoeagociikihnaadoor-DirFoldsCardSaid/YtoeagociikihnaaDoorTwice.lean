/- The walk of the law DirTwice. Conditions: the two tables of unicode/utf8 lie as Go lays them; the two texts together have fewer than 2^47 bytes. -/
import Derived.Test.YtoeagociikihnaaDoorFoldw
namespace Go.Proofs.YtoeagociikihnaaDoor
open Go.RowKit
set_option linter.unusedSimpArgs false
set_option linter.unusedVariables false
def okS (s : ByteArray) : Bool := okL s.size s.data.toList
def okUp (a b : ByteArray) : Nat → Bool
  | 0 => true
  | 1 => okS a
  | _ => okS a && okS b
theorem dec_le (x : UInt8) (t : List UInt8) : (decL (x :: t)).2 ≤ (x :: t).length := by
  rcases dec_cases x t with h | ⟨_, h2, h3⟩
  · rw [h]; simp
  · have h4 := congrArg List.length h3
    rw [List.length_append, h2] at h4
    omega
theorem ba_refl (F : ByteArray) : (F == F) = true := by
  show (F.data == F.data) = true
  simp
theorem okL_nil (f : Nat) : okL f [] = true := by cases f <;> rfl
structure ScI (wr wx : World) (s : ByteArray) (v0 v1 : Bool) (pos f : Nat) : Prop where
  it : wx.heap[wr.heap.size]? = some (.stringIter s pos)
  below : Below wr.heap.size wr wx
  ok : (v1 && okL f (s.data.toList.drop pos)) = (v0 && okS s)
  fuel : s.size - pos ≤ f
  le : pos ≤ s.size
set_option maxHeartbeats 4000000 in
set_option maxRecDepth 1000000 in
theorem twice_calls (a b : ByteArray) (w : World) (hs : a.size + b.size ≤ 140737488355320) (hT : Lib.Utf8Tabs 0 1 w) (hg : 1 < w.heap.size) :
    Calls Tryd.prog 3 #[.string a, .string b] w fun e w' => e = .returned (.bool true) ∧ Below w.heap.size w w' := by
  have HT := Lib.hid hT
  clear hT
  go_enter Tryd.func3, Tryd.ntmps3
  go_wp2_with fail
  refine (fold_calls a w (by omega) HT.out hg).mono ?_
  rintro e W1 ⟨rfl, b1⟩
  have Hb1 := Lib.hid b1
  clear b1
  have hfl : (⟨(fold a.data.toList).toArray⟩ : ByteArray).size = a.size := by
    show (fold a.data.toList).length = a.data.toList.length
    rw [fold_len]
  generalize hF : (⟨(fold a.data.toList).toArray⟩ : ByteArray) = F at *
  have HF := Lib.hid hF
  clear hF
  go_wp2_with fail
  go_loopw [6, 17] (fun v i wr => ∃ k : Nat, k ≤ 2 ∧ v = .bool (okUp a b k) ∧ i = .int .i64 k ∧ Hid (Below (W1.heap.size + 1) (W1.alloc (.cells #[.string a, .string b] 9)) wr)) (fun _ i _ => 2 - (intOf i).toNat)
  case atStart => exact ⟨0, by omega, rfl, rfl, Lib.hid (Below.refl _ _)⟩
  case round =>
    obtain ⟨k, hk, rfl, rfl, H⟩ := hrel
    rename World => wo
    by_cases hk2 : k < 2
    · obtain ⟨s, hsc, hst, hss⟩ : ∃ s, wo.cell? ⟨W1.heap.size, k, none⟩ = some (.string s) ∧ okUp a b (k + 1) = (okUp a b k && okS s) ∧ s.size ≤ 140737488355320 := by
        have hrow : wo.heap[W1.heap.size]? = some (.cells #[.string a, .string b] 9 (0, 0)) := by
          rw [H.out.block _ (by omega)]
          exact heap_alloc_new W1 _
        rcases (show k = 0 ∨ k = 1 by omega) with rfl | rfl
        · exact ⟨a, by rw [cell_of_row _ _ _ _ _ _ hrow]; rfl, by simp [okUp], by omega⟩
        · exact ⟨b, by rw [cell_of_row _ _ _ _ _ _ hrow]; rfl, by simp [okUp], by omega⟩
      have Hst := Lib.hid hst
      clear hst
      generalize okUp a b k = v0 at *
      have hwsz := H.out.size
      have hwsz' := Lib.hid (show W1.heap.size + 1 ≤ wo.heap.size by simpa using H.out.size)
      go_wp2_with fail
      go_loopw [6] (fun v wx => ∃ (pos f : Nat) (v1 : Bool), v = .bool v1 ∧ Hid (ScI wo wx s v0 v1 pos f)) (fun _ wx => s.size - wx.iterPos wo.heap.size)
      case atStart =>
        refine ⟨0, s.size, v0, rfl, Lib.hid ⟨?_, (Below.refl _ _).alloc (Nat.le_refl _) _, rfl, by omega, by omega⟩⟩
        have := World.iter_heap wo s 0
        simpa using this
      case round =>
        obtain ⟨pos, f, v1, rfl, G⟩ := hrel
        have hle := G.out.le
        by_cases hp : pos < s.size
        · have hnx : ∀ ty, (Instr.next (.pointer (some ⟨wo.heap.size, 0, none⟩)) true ty).run Tryd.prog wr = _ := fun ty => Lib.run_next_any_at wr wo.heap.size s pos ty G.out.it hp
          have hd0 := dec_list s pos
          have hfu := G.out.fuel
          obtain ⟨f, rfl⟩ : ∃ j, f = j + 1 := ⟨f - 1, by omega⟩
          have hok := G.out.ok
          obtain ⟨x, t, hxt⟩ : ∃ x t, s.data.toList.drop pos = x :: t := ⟨_, _, List.drop_eq_getElem_cons (show pos < s.data.toList.length from hp)⟩
          have hk := dec_le x t
          have hlx : (x :: t).length = s.size - pos := by rw [← hxt, List.length_drop]; rfl
          rw [hlx] at hk
          have hpos := decL_pos (x :: t)
          rw [hxt] at hd0 hok
          simp only [okL] at hok
          rw [← hxt, List.drop_drop, hxt] at hok
          rw [hd0] at hnx
          clear hd0 hlx hxt
          generalize decL (x :: t) = d at *
          obtain ⟨r, q⟩ := d
          simp only at hk hpos hok hnx
          have hit2 := Lib.hid (Lib.iterAt_heap wr wo.heap.size s pos (pos + q) G.out.it)
          have hbw2 := Lib.hid (Lib.below_iterAt G.out.below (k := wo.heap.size) (Nat.le_refl _) s (pos + q))
          have hm1 : wr.iterPos wo.heap.size = pos := by simp only [World.iterPos, G.out.it]
          have Hok := Lib.hid hok
          have Hm1 := Lib.hid hm1
          clear G hok hm1
          generalize hW0 : wr.iterAt wo.heap.size s (pos + q) = W0 at *
          clear hW0
          by_cases hrE : r = 65533
          · subst hrE
            have HG := Lib.hid (show ScI wo W0 s v0 false (pos + q) f from ⟨hit2.out, hbw2.out, by rw [← Hok.out]; simp, by omega, by omega⟩)
            go_wp2_with fail
            exact ⟨⟨_, _, _, rfl, HG⟩, by rw [Hm1.out]; simp only [World.iterPos, HG.out.it]; omega⟩
          · have hrI : ¬ (r : Int) = 65533 := by omega
            have hrB : ((r : Int) == 65533) = false := by simpa using hrI
            have HG := Lib.hid (show ScI wo W0 s v0 v1 (pos + q) f from ⟨hit2.out, hbw2.out, by rw [← Hok.out]; simp [hrE], by omega, by omega⟩)
            go_wp2_with fail
            exact ⟨⟨_, _, _, rfl, HG⟩, by rw [Hm1.out]; simp only [World.iterPos, HG.out.it]; omega⟩
        · obtain rfl : pos = s.size := by omega
          have hnx : ∀ ty, (Instr.next (.pointer (some ⟨wo.heap.size, 0, none⟩)) true ty).run Tryd.prog wr = _ := fun ty => Lib.run_next_end_at wr wo.heap.size s s.size ty G.out.it hp
          have hok := G.out.ok
          rw [List.drop_of_length_le (show s.data.toList.length ≤ s.size from Nat.le_refl _), okL_nil, Bool.and_true] at hok
          have Hv := Lib.hid (show v1 = okUp a b (k + 1) by rw [Hst.out]; exact hok)
          have HB := Lib.hid (H.out.trans (G.out.below.mono hwsz'.out))
          clear G hok
          go_wp2_with fail
          exact ⟨⟨k + 1, by omega, by rw [Hv.out], by go_num, HB⟩, by simp [intOf]; omega⟩
    · obtain rfl : k = 2 := by omega
      have HTw := Lib.hid (tabs_below HT.out (Hb1.out.trans (((Below.refl _ _).alloc (Nat.le_refl _) (.cells #[.string a, .string b] 9)).mono Hb1.out.size)) hg)
      have hbw : Below w.heap.size w wo := Hb1.out.trans ((((Below.refl _ _).alloc (Nat.le_refl _) (.cells #[.string a, .string b] 9)).trans (H.out.mono (Nat.le_succ _))).mono Hb1.out.size)
      have HBw := Lib.hid hbw
      have HTr := Lib.hid (tabs_below HT.out hbw hg)
      have hFl : F.data.toList = fold a.data.toList := by rw [← HF.out]
      have h1 := fold_calls F wo (by omega) HTr.out (by have := hbw.size; omega)
      rw [hFl, fold_fold, HF.out] at h1
      have H1 := Lib.hid h1
      clear h1 hbw
      have hFF : (F == F) = true := ba_refl F
      have hfi : (F.size : Int) = (a.size : Int) := by omega
      have hAB := fun W hT hg => fold_calls (a ++ b) W (by simp [ByteArray.size_append]; omega) hT hg
      have hB := fun W hT hg => fold_calls b W (by omega) hT hg
      obtain ⟨G, hG⟩ : ∃ G : ByteArray, (⟨(fold b.data.toList).toArray⟩ : ByteArray) = G := ⟨_, rfl⟩
      rw [hG] at hB
      have hgl : G.size = b.size := by
        rw [← hG]
        show (fold b.data.toList).length = b.data.toList.length
        rw [fold_len]
      have hsum : ¬ 9223372036854775807 < a.size + G.size := by omega
      have hsum2 : a.size + G.size ≤ 9223372036854775807 := by omega
      clear hgl
      by_cases hv : okUp a b 2 = true
      · have hoa : okL a.data.toList.length a.data.toList = true := by
          have h : okS a = true := by
            simp only [okUp, Bool.and_eq_true] at hv
            exact hv.1
          exact h
        have hcat : (⟨(fold (a ++ b).data.toList).toArray⟩ : ByteArray) = F ++ G := by
          have e1 : (a ++ b).data.toList = a.data.toList ++ b.data.toList := by
            rw [ByteArray.data_append]; simp
          rw [e1, fold_append _ _ _ (Nat.le_refl _) hoa, ← HF.out, ← hG]
          apply ByteArray.ext
          rw [ByteArray.data_append]
          simp
        rw [hcat] at hAB
        have hcb : (F ++ G == F ++ G) = true := ba_refl _
        have HAB := Lib.hid hAB
        have HBB := Lib.hid hB
        clear hAB hB hcat hoa hG hFl
        rw [hv]
        clear hv
        go_wp2_with fail
        refine (H1.out).mono ?_
        rintro e W3 ⟨rfl, b3⟩
        have Hb3 := Lib.hid (HBw.out.trans (b3.mono HBw.out.size))
        clear b3
        go_wp2_with fail
        refine (HAB.out W3 (tabs_below HT.out Hb3.out hg) (by have := Hb3.out.size; omega)).mono ?_
        rintro e W4 ⟨rfl, b4⟩
        have Hb4 := Lib.hid (Hb3.out.trans (b4.mono Hb3.out.size))
        clear b4
        go_wp2_with fail
        refine (HBB.out W4 (tabs_below HT.out Hb4.out hg) (by have := Hb4.out.size; omega)).mono ?_
        rintro e W5 ⟨rfl, b5⟩
        have Hb5 := Lib.hid (Hb4.out.trans (b5.mono Hb4.out.size))
        clear b5
        go_wp2_with fail
        go_ret
        exact ⟨rfl, Hb5.out⟩
      · have hv2 : okUp a b 2 = false := by simpa using hv
        clear hAB hB hG hFl hv
        rw [hv2]
        clear hv2
        go_wp2_with fail
        refine (H1.out).mono ?_
        rintro e W3 ⟨rfl, b3⟩
        have Hb3 := Lib.hid (HBw.out.trans (b3.mono HBw.out.size))
        clear b3
        go_wp2_with fail
        go_ret
        exact ⟨rfl, Hb3.out⟩
end Go.Proofs.YtoeagociikihnaaDoor
