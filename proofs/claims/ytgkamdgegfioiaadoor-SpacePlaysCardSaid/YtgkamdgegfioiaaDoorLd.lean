/- The walk of space.Load, up to its loop. -/
import Derived.Test.YtgkamdgegfioiaaDoorCh
namespace Go.Proofs.YtgkamdgegfioiaaDoor
open Go.RowKit Go.Shelf
set_option linter.unusedSimpArgs false
set_option linter.unusedVariables false
attribute [local go_sem] Oper.semAt_some
def LoadPost (w : World) (b : List UInt8) (e : Ending) (w' : World) : Prop :=
  match loadS b with
  | none => e = .returned (.tuple #[.pointer none, errE 7]) ∧ Below w.heap.size w w'
  | some (r, ps) => ∃ R v, e = .returned (.tuple #[.pointer (some ⟨R, 0, none⟩), .nilIface]) ∧ Sp w' w.heap.size R v r ps ∧ Below w.heap.size w w'
/-- both result boxes are written -/
theorem ld_boxes (w : World) : ∃ W, (w.alloc (.cells #[.pointer none] 24)).alloc (.cells #[.nilIface] 62) = W ∧ Below w.heap.size w W ∧ Bx W w.heap.size 24 #[.pointer none] ∧ Bx W (w.heap.size + 1) 62 #[.nilIface] ∧ W.heap.size = w.heap.size + 2 := by
  refine ⟨_, rfl, ((Below.refl _ _).alloc (Nat.le_refl _) _).alloc (by simp) _, (Bx.new _ _ _).alloc _, ?_, by simp⟩
  have := Bx.new (w.alloc (.cells #[.pointer none] 24)) 62 #[.nilIface]
  rw [World.size_alloc] at this
  exact this
theorem bx_ne {w : World} {a b : Nat} {s t : TypeId} {C D : Array Value} (h : Bx w a s C) (k : Bx w b t D) (hne : s ≠ t) : a ≠ b := fun e => by
  subst e
  have h' : w.heap[a]? = some (.cells C s (0, 0)) := h
  rw [show w.heap[a]? = _ from k] at h'
  injection h' with h'
  injection h' with _ h2 _
  exact hne h2.symm
set_option maxRecDepth 100000 in
set_option maxHeartbeats 4000000 in
theorem load_form (w : World) (A : Option Addr) (c : Nat) (b : List UInt8) (N : Nat) (hN : b.length = N) (hl : N ≤ 140737488351232) (h : N < 4 ∨ (N - 4) % 18 ≠ 0) :
    Calls Tryd.prog 26 #[.slice A N c] w fun e w' => e = .returned (.tuple #[.pointer none, errE 7]) ∧ Below w.heap.size w w' := by
  obtain ⟨W, hW, hb, x2, x3, hsz⟩ := ld_boxes w
  have hne := bx_ne x2 x3 (by decide)
  have c2 : W.cell? ⟨w.heap.size, 0, none⟩ = some (.pointer none) := x2.cell 0
  have c3 : W.cell? ⟨w.heap.size + 1, 0, none⟩ = some .nilIface := x3.cell 0
  have f2 : W.frozen? ⟨w.heap.size, 0, none⟩ = false := x2.frozen 0
  have f3 : W.frozen? ⟨w.heap.size + 1, 0, none⟩ = false := x3.frozen 0
  have y2 := (x2.set 0 (.pointer none)).other hne 0 (errE 7)
  have y3 := (x3.other (Ne.symm hne) 0 (.pointer none)).set 0 (errE 7)
  have d2 : ((W.setCell ⟨w.heap.size, 0, none⟩ (.pointer none)).setCell ⟨w.heap.size + 1, 0, none⟩ (errE 7)).cell? ⟨w.heap.size, 0, none⟩ = some (.pointer none) := y2.cell 0
  have d3 : ((W.setCell ⟨w.heap.size, 0, none⟩ (.pointer none)).setCell ⟨w.heap.size + 1, 0, none⟩ (errE 7)).cell? ⟨w.heap.size + 1, 0, none⟩ = some (errE 7) := y3.cell 0
  have HB := Lib.hid (setB (setB hb (Nat.le_refl _) 0 (.pointer none)) (b := w.heap.size + 1) (by omega) 0 (errE 7))
  have g3 : ((w.alloc (.cells #[.pointer none] 24)).alloc (.cells #[.nilIface] 62)).cell? ⟨w.heap.size + 1, 0, none⟩ = some .nilIface := by rw [hW]; exact c3
  unfold errE at *
  clear x2 x3 y2 y3 hsz hN
  rcases (show N < 4 ∨ (¬ N < 4 ∧ (N - 4) % 18 ≠ 0) by omega) with h | ⟨h4, h⟩
  · have h1 : (N : Int) < 4 := by omega
    go_enter Tryd.func26, Tryd.ntmps26
    go_wp2_with fail
    exact bodyPost_ret (v := .tuple #[.pointer none, .iface 27 (.int .i64 7)]) (by simp [results, Tryd.results26, go_sem, d2, d3]) rfl ⟨rfl, HB.out⟩
  · have h1 : ¬ (N : Int) < 4 := by omega
    go_enter Tryd.func26, Tryd.ntmps26
    go_wp2_with fail
    exact bodyPost_ret (v := .tuple #[.pointer none, .iface 27 (.int .i64 7)]) (by simp [results, Tryd.results26, go_sem, d2, d3]) rfl ⟨rfl, HB.out⟩
theorem bs_upto (g N c p : Nat) (hp : p ≤ c) (W : World) : (Instr.sliceAt 22 (.slice (some ⟨g, 0, none⟩) N c) none (some (.int .i64 (p : Int))) none).run Tryd.prog W = .ok (.slice (some ⟨g, 0, none⟩) p c) W := by
  obtain ⟨i5, hi5, hz0, hz1, hz2⟩ := info_parts info5
  have b1 : (0 : Int) ≤ p ∧ (p : Int) ≤ (c : Int) := by omega
  have hadd : ∀ a : Addr, a.add 0 = a := fun a => rfl
  simp [Instr.sliceAt, Instr.slice, run_underlying Tryd.underlying22, Instr.sliceBounds, Instr.sliceBound, asIntOf, b1, sizeOf, typeInfo, hi5, hadd, hp]
theorem rd_take {w : World} {A : Option Addr} {bs : List UInt8} (h : Rd w A bs) (k : Nat) : Rd w A (bs.take k) := fun j hj => by
  rw [List.length_take] at hj
  obtain ⟨ad, e, hc⟩ := h j (by omega)
  exact ⟨ad, e, by rw [hc]; simp⟩
set_option maxRecDepth 100000 in
set_option maxHeartbeats 4000000 in
theorem load_rows (w : World) (g c : Nat) (b : List UInt8) (N : Nat) (hN : b.length = N) (hc : N ≤ c) (hr : Rd w (some ⟨g, 0, none⟩) b) (hl : N ≤ 140737488351232) (h4 : 4 ≤ N) (h18 : (N - 4) % 18 = 0) (hbig : 1073741824 < le (b.take 4)) :
    Calls Tryd.prog 26 #[.slice (some ⟨g, 0, none⟩) N c] w fun e w' => e = .returned (.tuple #[.pointer none, errE 7]) ∧ Below w.heap.size w w' := by
  obtain ⟨W, hW, hb, x2, x3, hsz⟩ := ld_boxes w
  have hne := bx_ne x2 x3 (by decide)
  have hrW : Rd W (some ⟨g, 0, none⟩) (b.take 4) := rd_take (hr.below hb) 4
  have hlt := le_lt (b.take 4)
  rw [List.length_take, hN, Nat.min_eq_left h4] at hlt
  obtain ⟨r, hr4⟩ : ∃ r, le (b.take 4) = r := ⟨_, rfl⟩
  have hget := get_calls W (some ⟨g, 0, none⟩) c (b.take 4) 4 (by rw [List.length_take]; omega) hrW (by omega)
  rw [hr4] at hget hlt hbig
  have Hget := Lib.hid hget
  have hwr : r < 4294967296 := hlt
  have Hnew := Lib.hid (new_bad (r : Int) W (by omega))
  have hsl := fun W => bs_upto g N c 4 (by omega) W
  have hq2 := x2.alloc (.cells #[.pointer none] 24)
  have hq3 := x3.alloc (.cells #[.pointer none] 24)
  have c2 : W.cell? ⟨w.heap.size, 0, none⟩ = some (.pointer none) := x2.cell 0
  have c3 : W.cell? ⟨w.heap.size + 1, 0, none⟩ = some .nilIface := x3.cell 0
  have f2 : W.frozen? ⟨w.heap.size, 0, none⟩ = false := x2.frozen 0
  have f3 : W.frozen? ⟨w.heap.size + 1, 0, none⟩ = false := x3.frozen 0
  have y2 := (x2.set 0 (.pointer none)).other hne 0 (errE 7)
  have y3 := (x3.other (Ne.symm hne) 0 (.pointer none)).set 0 (errE 7)
  have HB := Lib.hid (setB (setB (hb.alloc hb.size (.cells #[.pointer none] 24)) (Nat.le_refl _) 0 (.pointer none)) (b := w.heap.size + 1) (by omega) 0 (errE 7))
  have z2 := ((hq2.set 0 (.pointer none)).other hne 0 (errE 7)).cell 0
  have z3 := ((hq3.other (Ne.symm hne) 0 (.pointer none)).set 0 (errE 7)).cell 0
  have n1 : w.heap.size ≠ W.heap.size := by omega
  have n2 : w.heap.size + 1 ≠ W.heap.size := by omega
  have n3 : W.heap.size ≠ w.heap.size := by omega
  have n4 : W.heap.size ≠ w.heap.size + 1 := by omega
  have a2 : (W.alloc (.cells #[.pointer none] 24)).cell? ⟨w.heap.size, 0, none⟩ = some (.pointer none) := hq2.cell 0
  have a3 : (W.alloc (.cells #[.pointer none] 24)).cell? ⟨w.heap.size + 1, 0, none⟩ = some .nilIface := hq3.cell 0
  have a4 : (W.alloc (.cells #[.pointer none] 24)).frozen? ⟨w.heap.size, 0, none⟩ = false := hq2.frozen 0
  have a5 : (W.alloc (.cells #[.pointer none] 24)).frozen? ⟨w.heap.size + 1, 0, none⟩ = false := hq3.frozen 0
  have h1 : ¬ (N : Int) < 4 := by omega
  have h2 : (((N : Int) - 4) % 18 != 0) = false := by
    have : ((N : Int) - 4) % 18 = 0 := by omega
    rw [this]; rfl
  unfold errE at *
  clear x2 x3 y2 y3 hsz hN hr hrW hget hr4 hlt hbig hq2 hq3 h18
  go_enter Tryd.func26, Tryd.ntmps26
  go_wp2_with fail
  refine (Hget.out).mono ?_
  rintro e w' ⟨rfl, rfl⟩
  go_wp2_with fail
  refine (Hnew.out).mono ?_
  rintro e w' ⟨rfl, rfl⟩
  have e2 := z2
  have e3 := z3
  simp only [List.setIfInBounds_toArray, List.set_cons_zero, List.getElem?_toArray, List.getElem?_cons_zero] at e2 e3
  go_wp2_with fail
  exact bodyPost_ret (v := .tuple #[.pointer none, .iface 27 (.int .i64 7)]) (by simp [results, Tryd.results26, go_sem, e2, e3]) rfl ⟨rfl, HB.out⟩
end Go.Proofs.YtgkamdgegfioiaaDoor
