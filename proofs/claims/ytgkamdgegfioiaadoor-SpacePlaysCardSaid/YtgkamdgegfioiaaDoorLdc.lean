/- space.Load whole, and plain.SpaceLoad. Condition: errors.errorType holds its handle. -/
import Derived.Test.YtgkamdgegfioiaaDoorLdw
namespace Go.Proofs.YtgkamdgegfioiaaDoor
open Go.RowKit Go.Shelf
set_option linter.unusedSimpArgs false
set_option linter.unusedVariables false
theorem load_calls (w : World) (A : Option Addr) (c : Nat) (b : List UInt8) (hA : 4 ≤ b.length → ∃ g, A = some ⟨g, 0, none⟩) (hc : b.length ≤ c) (hr : Rd w A b) (hl : b.length ≤ 140737488351232) :
    Calls Tryd.prog 26 #[.slice A b.length c] w fun e w' => LoadPost w b e w' := by
  by_cases h : b.length < 4 ∨ (b.length - 4) % 18 ≠ 0
  · refine (load_form w A c b b.length rfl hl h).mono (fun e w' hq => ?_)
    have hn : loadS b = none := by
      unfold loadS
      rw [if_pos (by omega)]
    unfold LoadPost
    rw [hn]
    exact hq
  · obtain ⟨g, rfl⟩ := hA (by omega)
    by_cases hbig : 1073741824 < le (b.take 4)
    · refine (load_rows w g c b b.length rfl hc hr hl (by omega) (by omega) hbig).mono (fun e w' hq => ?_)
      have hn : loadS b = none := by
        unfold loadS
        rw [if_pos (by omega)]
      unfold LoadPost
      rw [hn]
      exact hq
    · refine (load_loop w g c b b.length (le (b.take 4)) rfl hc hr hl (by omega) (by omega) rfl (by omega)).mono (fun e w' hq => ?_)
      have hn : loadS b = (loadF (le (b.take 4)) 0 ((b.length - 4) / 18) (b.drop 4)).map (fun l => (le (b.take 4), l)) := by
        unfold loadS
        rw [if_neg (by omega)]
      unfold LoadPost
      rw [hn]
      unfold LdPost at hq
      cases hq2 : loadF (le (b.take 4)) 0 ((b.length - 4) / 18) (b.drop 4) with
      | none => rw [hq2] at hq; exact hq
      | some ps => rw [hq2] at hq; exact hq
def PLoadPost (w : World) (b : List UInt8) (e : Ending) (w' : World) : Prop :=
  match loadS b with
  | none => e = .returned (.tuple #[.agg #[.pointer none], .int .i64 7]) ∧ Below w.heap.size w w'
  | some (r, ps) => ∃ R v, e = .returned (.tuple #[.agg #[.pointer (some ⟨R, 0, none⟩)], .int .i64 0]) ∧ Sp w' w.heap.size R v r ps ∧ Below w.heap.size w w'
set_option maxHeartbeats 2000000 in
theorem pLoad_calls (w : World) (A : Option Addr) (c : Nat) (b : List UInt8) (hA : 4 ≤ b.length → ∃ g, A = some ⟨g, 0, none⟩) (hc : b.length ≤ c) (hr : Rd w A b) (hl : b.length ≤ 140737488351232) (hg : ErrH w) :
    Calls Tryd.prog 10 #[.slice A b.length c] w fun e w' => PLoadPost w b e w' := by
  obtain ⟨W0, hW0⟩ : ∃ W0, w.alloc (.cells #[.pointer none] 26) = W0 := ⟨_, rfl⟩
  have hb0 : Below w.heap.size w W0 := by rw [← hW0]; exact (Below.refl _ w).alloc (Nat.le_refl _) _
  have hx0 : Bx W0 w.heap.size 26 #[.pointer none] := by rw [← hW0]; exact Bx.new _ _ _
  have hsz : W0.heap.size = w.heap.size + 1 := by rw [← hW0]; simp
  have HL := load_calls W0 A c b hA hc (hr.below hb0) hl
  have hg0 : ErrH W0 := hg.below hg.lt hb0
  obtain ⟨N, hN⟩ : ∃ N, b.length = N := ⟨_, rfl⟩
  rw [hN] at HL ⊢
  unfold LoadPost at HL
  unfold PLoadPost
  clear hA hr hN hg
  obtain ⟨o, ho⟩ : ∃ o, loadS b = o := ⟨_, rfl⟩
  rw [ho] at HL ⊢
  cases o with
  | none =>
    have HL2 := Lib.hid HL
    have H0 := Lib.hid (And.intro hb0 (And.intro hx0 (And.intro hsz hg0)))
    clear HL hb0 hx0 hsz hg0
    unfold errE at HL2
    go_enter Tryd.func10, Tryd.ntmps10
    go_wp2_with fail
    try rw [hW0]
    refine (HL2.out).mono ?_
    rintro e W1 ⟨rfl, hb⟩
    have Hb := Lib.hid hb
    clear hb
    go_wp2_with fail
    refine (made_err 7 false W1 (by decide) (H0.out.2.2.2.below H0.out.2.2.2.lt Hb.out)).mono ?_
    rintro e W2 ⟨rfl, hb2⟩
    have Hb2 := Lib.hid (Hb.out.trans (hb2.mono Hb.out.size))
    clear hb2
    have hbx : Bx W2 w.heap.size 26 #[.pointer none] := H0.out.2.1.below Hb2.out (by rw [H0.out.2.2.1]; omega)
    have hb0 : W2.cell? ⟨w.heap.size, 0, none⟩ = some (.pointer none) := hbx.cell 0
    have hf0 : W2.frozen? ⟨w.heap.size, 0, none⟩ = false := hbx.frozen 0
    have hb1 : (W2.setCell ⟨w.heap.size, 0, none⟩ (.pointer none)).cell? ⟨w.heap.size, 0, none⟩ = some (.pointer none) := World.cell?_setCell_same _ _ _ hb0
    clear hbx
    go_wp2_with fail
    refine bodyPost_ret (v := .tuple #[.agg #[.pointer none], .int .i64 7]) (by simp [results, Tryd.results10, go_sem, hb1]) rfl ⟨rfl, ?_⟩
    exact (H0.out.1.trans (Hb2.out.mono (by rw [H0.out.2.2.1]; omega))).setCell (Nat.le_refl _) _
  | some rp =>
    obtain ⟨r, ps⟩ := rp
    have HL2 := Lib.hid HL
    have H0 := Lib.hid (And.intro hb0 (And.intro hx0 (And.intro hsz hg0)))
    clear HL hb0 hx0 hsz hg0
    go_enter Tryd.func10, Tryd.ntmps10
    go_wp2_with fail
    try rw [hW0]
    refine (HL2.out).mono ?_
    rintro e W1 ⟨R, v, rfl, hs, hb⟩
    have Hb := Lib.hid hb
    have HS := Lib.hid hs
    clear hb hs
    go_wp2_with fail
    refine (made_nil W1).mono ?_
    rintro e W2 ⟨rfl, hb2⟩
    have HS2 := Lib.hid (HS.out.below hb2)
    have Hb2 := Lib.hid (Hb.out.trans (hb2.mono Hb.out.size))
    clear hb2
    have hbx : Bx W2 w.heap.size 26 #[.pointer none] := H0.out.2.1.below Hb2.out (by rw [H0.out.2.2.1]; omega)
    have hb0 : W2.cell? ⟨w.heap.size, 0, none⟩ = some (.pointer none) := hbx.cell 0
    have hf0 : W2.frozen? ⟨w.heap.size, 0, none⟩ = false := hbx.frozen 0
    have hb1 : (W2.setCell ⟨w.heap.size, 0, none⟩ (.pointer (some ⟨R, 0, none⟩))).cell? ⟨w.heap.size, 0, none⟩ = some (.pointer (some ⟨R, 0, none⟩)) := World.cell?_setCell_same _ _ _ hb0
    clear hbx
    go_wp2_with fail
    refine bodyPost_ret (v := .tuple #[.agg #[.pointer (some ⟨R, 0, none⟩)], .int .i64 0]) (by simp [results, Tryd.results10, go_sem, hb1]) rfl ⟨R, v, rfl, ?_, ?_⟩
    · have h1 := HS2.out
      rw [H0.out.2.2.1] at h1
      refine (h1.mono (by omega)).kept (Chg.setCell _ _ _ _) (fun e => ?_) (fun k hk e => ?_)
      · have := h1.hR
        omega
      · have := (h1.own.row k hk).1
        omega
    · exact (H0.out.1.trans (Hb2.out.mono (by rw [H0.out.2.2.1]; omega))).setCell (Nat.le_refl _) _
end Go.Proofs.YtgkamdgegfioiaaDoor
