/- A slice of parts, opened. -/
import Derived.Test.YtfogepoebihnoaaDoorOrder
import Derived.Deep.Slices
import Derived.ChangeArms
import Derived.SizedLaws
namespace Go.Proofs.YtfogepoebihnoaaDoor
open Go.RowKit Go.ChangeShapes Go.WideShapes Go.Deep
set_option linter.unusedSimpArgs false
set_option linter.unusedVariables false
set_option linter.constructorNameAsVariable false
theorem bounds_u64 {n : Int} (h : (Lit.int .u64 n).wf = true) : 0 ≤ n ∧ n ≤ 18446744073709551615 := by
  simpa [Lit.wf, IntKind.min, IntKind.max, IntKind.bits, IntKind.signed] using h
def PartsV (w : World) (v : Value) : Prop := ∃ A c l, v = .slice A l.length c ∧ RdP w A l ∧ l.length * 32 ≤ 140737488351232 ∧ (∀ p ∈ l, p.num < 256 ^ 8) ∧ l.length ≤ c
theorem list_of {Q : Nat → PartD → Prop} : ∀ n, (∀ i, i < n → ∃ p, Q i p) → ∃ l : List PartD, l.length = n ∧ ∀ i (hi : i < l.length), Q i l[i]
  | 0, _ => ⟨[], rfl, fun i hi => by simp at hi⟩
  | n + 1, h => by
    obtain ⟨l, hl, hq⟩ := list_of n (fun i hi => h i (by omega))
    obtain ⟨p, hp⟩ := h n (by omega)
    refine ⟨l ++ [p], by simp [hl], fun i hi => ?_⟩
    by_cases hil : i < l.length
    · rw [List.getElem_append_left hil]
      exact hq i hil
    · have hil2 : i = n := by simp at hi; omega
      subst hil2
      rw [List.getElem_append_right (by omega)]
      simpa [hl] using hp
theorem open_parts {H : Type} {enc : TypeId × Value → H} {P : Program} {W : World} {base : Nat} {spare : Nat → Bool} {held : Bool} {r : Reach} {b0 : Nat} {v : Value} {d : DataW H} {ps : List MemPlace} {t e : TypeId} {f0 f1 f2 : Field}
    (ht : P.underlying t = some (.slice e)) (he : P.underlying e = some (.struct #[f0, f1, f2])) (hk : P.underlying f0.type = some (.int .i64)) (hu : P.underlying f1.type = some (.int .u64)) (hst : P.underlying f2.type = some .string)
    (o0 : f0.offset = 0) (o1 : f1.offset = 1) (o2 : f2.offset = 2) (c0 : P.cellsOf f0.type = 1) (c1 : P.cellsOf f1.type = 1) (c2 : P.cellsOf f2.type = 1) (ce : P.cellsOf e = 3) (hbe : P.bytesOf e = 32)
    (hval : Value.okWide P W r b0 t v) (h : DataW.Trod enc P W base spare held t v d ps)
    (hs : ∀ elems sp, d = .slice elems sp → (elems.length + sp.length) * P.bytesOf e ≤ reachBytes) : PartsV W v := by
  obtain ⟨a, len, cap, rfl⟩ := okWide_slice ht hval
  obtain ⟨fuel, hf⟩ := h
  rcases open_slice ht hf with ⟨hc, hx⟩ | ⟨a', len', cap', m, n, D, Pl, hc, hb, hl, hm, hmm, hx, hi⟩
  · simp [Value.cells] at hc
    obtain ⟨rfl, rfl, rfl⟩ := hc
    exact ⟨none, 0, [], rfl, fun j hj => by simp at hj, by simp, fun p hp => (by cases hp), Nat.le_refl _⟩
  · simp [Value.cells] at hc
    obtain ⟨rfl, rfl, rfl⟩ := hc
    have hlm : len ≤ m := by rw [hmm]; split <;> omega
    have hsz := hs _ _ (congrArg Prod.fst hx)
    rw [hbe] at hsz
    simp only [List.length_map, List.length_range] at hsz
    have hrb : reachBytes = 140737488351232 := rfl
    have each : ∀ i, i < len → ∃ p : PartD, PartAt W (a'.add (i * 3)) p ∧ p.num < 256 ^ 8 := by
      intro i hil
      obtain ⟨cs', h1, h2⟩ := hi i (by omega)
      rw [ce] at h1
      obtain ⟨_, hlen, hcell⟩ := World.cells?_some h1
      obtain ⟨xs, k, hk', hxy, _, hxl, hf2⟩ := DataW.trod_struct he h2
      match xs, hxl, cs', hlen with
      | [y0, y1, y2], _, [v0, v1, v2], _ =>
        have g0 := hf2 0 f0 rfl
        have g1 := hf2 1 f1 rfl
        have g2 := hf2 2 f2 rfl
        simp [o0, o1, o2, c0, c1, c2] at g0 g1 g2
        have e0 := hcell 0 (by omega)
        have e1 := hcell 1 (by omega)
        have e2 := hcell 2 (by omega)
        obtain ⟨n0, q0, _, _⟩ := DataW.trod_int hk g0
        obtain ⟨n1, q1, _, w1⟩ := DataW.trod_int hu g1
        obtain ⟨s2, q2, _, _⟩ := DataW.trod_string hst g2
        simp at q0 q1 q2
        subst q0 q1 q2
        have hw : 0 ≤ n1 ∧ n1 < 18446744073709551616 := by
          have h1 := bounds_u64 w1
          omega
        obtain ⟨nn, rfl⟩ := Int.eq_ofNat_of_zero_le hw.1
        have hs2 : s2 = ⟨s2.data.toList.toArray⟩ := by cases s2; rfl
        refine ⟨⟨n0, nn, s2.data.toList⟩, ⟨?_, ?_, ?_⟩, ?_⟩
        · exact e0
        · have := e1; rw [show (1 : Nat) = 0 + 1 from rfl, add_succ] at this; simpa using this
        · have := e2; rw [show (2 : Nat) = 1 + 1 from rfl, add_succ] at this; simpa using this
        · show nn < 256 ^ 8
          have := hw.2
          omega
    obtain ⟨l, hll, hq⟩ := list_of len each
    subst hll
    refine ⟨some a', cap, l, rfl, fun j hj => ⟨a', rfl, (hq j hj).1⟩, by omega, fun p hp => ?_, hl⟩
    obtain ⟨j, hj, rfl⟩ := List.getElem_of_mem hp
    exact (hq j hj).2
theorem codeOrder_walk (v0 v1 : Value) (a2 : Int) (w : World) (w0 : PartsV w v0) (w1 : PartsV w v1) (w2 : (Lit.int .i64 a2).wf = true) (hL : w.cell? ⟨0, 0, none⟩ = some (.iface 95 (.agg #[.pointer (some ⟨2, 43, none⟩)]))) :
    Calls Tryd.prog 4 #[v0, v1, .int .i64 a2] w fun e w' => e = .returned (.bool true) ∧ Below w.heap.size w w' := by
  obtain ⟨A, c, a, rfl, ra, sa, na, _⟩ := w0
  obtain ⟨B, d, b, rfl, rb, sb, nb_, _⟩ := w1
  have h1 : -9223372036854775808 ≤ a2 ∧ a2 ≤ 9223372036854775807 := by simpa [Lit.wf, IntKind.min, IntKind.max, IntKind.bits, IntKind.signed] using w2
  exact codeOrder_calls A B c d a b a2 w hL ra rb sa sb na nb_ h1.1 h1.2
end Go.Proofs.YtfogepoebihnoaaDoor
