/- A script of steps, opened; the walk of SpaceKept as its row asks it. -/
import Derived.Test.YtgkamdgegfioiaaDoorKep
import Derived.Deep.Slices
import Derived.ChangeArms
import Derived.SizedLaws
namespace Go.Proofs.YtgkamdgegfioiaaDoor
open Go.RowKit Go.ChangeShapes Go.WideShapes Go.Deep
set_option linter.unusedSimpArgs false
set_option linter.unusedVariables false
set_option linter.constructorNameAsVariable false
def StepsV (w : World) (v : Value) : Prop := ∃ A c l, v = .slice A l.length c ∧ RdT w A l ∧ l.length * 48 ≤ 140737488351232 ∧ (∀ s ∈ l, s.ok) ∧ l.length ≤ c
theorem listS_of {Q : Nat → StD → Prop} : ∀ n, (∀ i, i < n → ∃ p, Q i p) → ∃ l : List StD, l.length = n ∧ ∀ i (hi : i < l.length), Q i l[i]
  | 0, _ => ⟨[], rfl, fun i hi => by simp at hi⟩
  | n + 1, h => by
    obtain ⟨l, hl, hq⟩ := listS_of n (fun i hi => h i (by omega))
    obtain ⟨p, hp⟩ := h n (by omega)
    refine ⟨l ++ [p], by simp [hl], fun i hi => ?_⟩
    by_cases hil : i < l.length
    · rw [List.getElem_append_left hil]
      exact hq i hil
    · have hil2 : i = n := by simp at hi; omega
      subst hil2
      rw [List.getElem_append_right (by omega)]
      simpa [hl] using hp
theorem addS (a : Addr) (n : Nat) : a.add (n + 1) = ⟨a.block, a.off + (n + 1), none⟩ := by unfold Addr.add; simp
theorem bounds_i64 {n : Int} (h : (Lit.int .i64 n).wf = true) : i64b n := by
  have := h
  simp [Lit.wf, IntKind.min, IntKind.max, IntKind.signed, IntKind.bits] at this
  exact this
theorem open_steps {H : Type} {enc : TypeId × Value → H} {P : Program} {W : World} {base : Nat} {spare : Nat → Bool} {held : Bool} {r : Reach} {b0 : Nat} {v : Value} {d : DataW H} {ps : List MemPlace} {t e : TypeId} {f0 f1 f2 f3 f4 : Field}
    (ht : P.underlying t = some (.slice e)) (he : P.underlying e = some (.struct #[f0, f1, f2, f3, f4])) (hk : P.underlying f0.type = some (.int .i64)) (hk1 : P.underlying f1.type = some (.int .i64)) (hk2 : P.underlying f2.type = some (.int .i64)) (hk3 : P.underlying f3.type = some (.int .i64)) (hst : P.underlying f4.type = some .string)
    (o0 : f0.offset = 0) (o1 : f1.offset = 1) (o2 : f2.offset = 2) (o3 : f3.offset = 3) (o4 : f4.offset = 4) (c0 : P.cellsOf f0.type = 1) (c1 : P.cellsOf f1.type = 1) (c2 : P.cellsOf f2.type = 1) (c3 : P.cellsOf f3.type = 1) (c4 : P.cellsOf f4.type = 1) (ce : P.cellsOf e = 5) (hbe : P.bytesOf e = 48)
    (hval : Value.okWide P W r b0 t v) (h : DataW.Trod enc P W base spare held t v d ps)
    (hs : ∀ elems sp, d = .slice elems sp → (elems.length + sp.length) * P.bytesOf e ≤ reachBytes) : StepsV W v := by
  obtain ⟨a, len, cap, rfl⟩ := okWide_slice ht hval
  obtain ⟨fuel, hf⟩ := h
  rcases open_slice ht hf with ⟨hc, hx⟩ | ⟨a', len', cap', m, n, D, Pl, hc, hb, hl, hm, hmm, hx, hi⟩
  · simp [Value.cells] at hc
    obtain ⟨rfl, rfl, rfl⟩ := hc
    exact ⟨none, 0, [], rfl, fun j hj => by simp at hj, by simp, fun p hp => (by cases hp), Nat.le_refl _⟩
  · simp [Value.cells] at hc
    obtain ⟨rfl, rfl, rfl⟩ := hc
    have hlm : len ≤ m := by rw [hmm]; split <;> omega
    have hsz := hs _ _ (congrArg Prod.fst hx)
    rw [hbe] at hsz
    simp only [List.length_map, List.length_range] at hsz
    have hrb : reachBytes = 140737488351232 := rfl
    have each : ∀ i, i < len → ∃ p : StD, StAt W (a'.add (i * 5)) p ∧ p.ok := by
      intro i hil
      obtain ⟨cs', h1, h2⟩ := hi i (by omega)
      rw [ce] at h1
      obtain ⟨_, hlen, hcell⟩ := World.cells?_some h1
      obtain ⟨xs, k, hk', hxy, _, hxl, hf2⟩ := DataW.trod_struct he h2
      match xs, hxl, cs', hlen with
      | [y0, y1, y2, y3, y4], _, [v0, v1, v2, v3, v4], _ =>
        have g0 := hf2 0 f0 rfl
        have g1 := hf2 1 f1 rfl
        have g2 := hf2 2 f2 rfl
        have g3 := hf2 3 f3 rfl
        have g4 := hf2 4 f4 rfl
        simp [o0, o1, o2, o3, o4, c0, c1, c2, c3, c4] at g0 g1 g2 g3 g4
        have e0 := hcell 0 (by omega)
        have e1 := hcell 1 (by omega)
        have e2 := hcell 2 (by omega)
        have e3 := hcell 3 (by omega)
        have e4 := hcell 4 (by omega)
        obtain ⟨n0, q0, _, w0⟩ := DataW.trod_int hk g0
        obtain ⟨n1, q1, _, w1⟩ := DataW.trod_int hk1 g1
        obtain ⟨n2, q2, _, w2⟩ := DataW.trod_int hk2 g2
        obtain ⟨n3, q3, _, w3⟩ := DataW.trod_int hk3 g3
        obtain ⟨s4, q4, _, _⟩ := DataW.trod_string hst g4
        simp at q0 q1 q2 q3 q4
        subst q0 q1 q2 q3 q4
        refine ⟨⟨n0, n1, n2, n3, s4⟩, ⟨?_, ?_, ?_, ?_, ?_⟩, bounds_i64 w0, bounds_i64 w1, bounds_i64 w2, bounds_i64 w3⟩
        · exact e0
        · have := e1; rw [show (1 : Nat) = 0 + 1 from rfl, addS] at this; simpa using this
        · have := e2; rw [show (2 : Nat) = 1 + 1 from rfl, addS] at this; simpa using this
        · have := e3; rw [show (3 : Nat) = 2 + 1 from rfl, addS] at this; simpa using this
        · have := e4; rw [show (4 : Nat) = 3 + 1 from rfl, addS] at this; simpa using this
    obtain ⟨l, hll, hq⟩ := listS_of len each
    subst hll
    refine ⟨some a', cap, l, rfl, fun j hj => ⟨a', rfl, (hq j hj).1⟩, by omega, fun p hp => ?_, hl⟩
    obtain ⟨j, hj, rfl⟩ := List.getElem_of_mem hp
    exact (hq j hj).2
theorem spaceKept_walk (a0 : Int) (v1 : Value) (w : World) (w0 : (Lit.int .i64 a0).wf = true) (w1 : StepsV w v1) (hL : w.cell? ⟨0, 0, none⟩ = some (.iface 139 (.agg #[.pointer (some ⟨1, 62, none⟩)]))) :
    Calls Tryd.prog 4 #[.int .i64 a0, v1] w fun e w' => e = .returned (.bool true) ∧ Below w.heap.size w w' := by
  obtain ⟨A, c, l, rfl, hr, hs, hok, hc⟩ := w1
  exact spaceKept_calls w a0 A c l (bounds_i64 w0) hr hs hc hok hL
end Go.Proofs.YtgkamdgegfioiaaDoor
