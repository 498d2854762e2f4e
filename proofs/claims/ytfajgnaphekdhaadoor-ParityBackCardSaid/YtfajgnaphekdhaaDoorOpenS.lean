/- A slice of strings among the arguments, opened. -/
import Derived.Test.YtfajgnaphekdhaaDoorPmakes
import Derived.SliceStrings
import Derived.ChangeArms
import Derived.SizedLaws
namespace Go.Proofs.YtfajgnaphekdhaaDoor
open Go.RowKit Go.ChangeShapes Go.WideShapes
set_option linter.unusedSimpArgs false
set_option linter.unusedVariables false
def StrsV (w : World) (v : Value) : Prop := ∃ A c ls, v = .slice A ls.length c ∧ RdS w A ls ∧ (∀ b ∈ ls, b.length ≤ 140737488351232) ∧ ls.length ≤ 9223372036854775807
theorem weights_mem_all {H : Type} {P : Program} {e : TypeId} : ∀ {l : List (DataW H)} {d : DataW H}, d ∈ l → ∀ n ∈ d.weights P e, n ∈ DataW.weightsAll P e l
  | d0 :: r, d, hd, n, hn => by
    simp only [DataW.weightsAll, List.mem_append]
    rcases List.mem_cons.1 hd with rfl | hd
    · exact .inl hn
    · exact .inr (weights_mem_all hd n hn)
theorem sized_elem {H : Type} {P : Program} {ts : List TypeId} {ds : List (DataW H)} (h : (DataW.weightsEach P ts ds).all (· ≤ reachBytes) = true) {j : Nat} {t e : TypeId} {elems spare : List (DataW H)} (ht : ts[j]? = some t) (hd : ds[j]? = some (.slice elems spare)) (hu : P.underlying t = some (.slice e)) :
    ∀ d ∈ elems, ∀ n ∈ d.weights P e, n ≤ reachBytes := fun d hm n hn => by
  have := List.all_eq_true.1 h n (DataW.weights_mem_each ht hd n (by simp only [DataW.weights, hu, List.mem_cons, List.mem_append]; exact .inr (.inl (weights_mem_all hm n hn))))
  simpa using this
theorem open_strsV {H : Type} {enc : TypeId × Value → H} {P : Program} {W : World} {base : Nat} {spare : Nat → Bool} {held : Bool} {r : Reach} {b0 : Nat} {v : Value} {d : DataW H} {ps : List MemPlace} {t e : TypeId}
    (ht : P.underlying t = some (.slice e)) (he : P.underlying e = some .string) (ce : P.cellsOf e = 1)
    (hval : Value.okWide P W r b0 t v) (h : DataW.Trod enc P W base spare held t v d ps)
    (hs : ∀ elems sp, d = .slice elems sp → ∀ x ∈ elems, ∀ n ∈ x.weights P e, n ≤ reachBytes) : StrsV W v := by
  obtain ⟨a, len, cap, rfl⟩ := okWide_slice ht hval
  obtain ⟨fuel, hf⟩ := h
  rcases open_strings ht he ce hf with ⟨hc, hx⟩ | ⟨a', len', cap', ss, hc, hb, hl, hm, hmm, hx, hcell, hsz⟩
  · simp [Value.cells] at hc
    obtain ⟨rfl, rfl, rfl⟩ := hc
    exact ⟨none, 0, [], rfl, fun j hj => by simp at hj, by simp, by simp⟩
  · simp [Value.cells] at hc
    obtain ⟨rfl, rfl, rfl⟩ := hc
    have hlm : len ≤ ss.length := by rw [hmm]; split <;> omega
    have hz := hs _ _ (congrArg Prod.fst hx)
    have hll : ((ss.take len).map fun s => s.data.toList).length = len := by simp; omega
    refine ⟨some a', cap, (ss.take len).map fun s => s.data.toList, by rw [hll], fun j hj => ?_, fun b hb => ?_, ?_⟩
    · rw [hll] at hj
      refine ⟨a', rfl, ?_⟩
      rw [hcell j (by omega)]
      have hjs : j < ss.length := by omega
      simp [List.getD, hjs]
    · obtain ⟨s, hs1, rfl⟩ := List.mem_map.1 hb
      have := hz (.lit (.string s.data.toList)) (List.mem_map.2 ⟨s, hs1, rfl⟩) s.data.toList.length (by simp [DataW.weights])
      have hrb : reachBytes = 140737488351232 := rfl
      omega
    · rw [hll]
      have : maxLen = 9223372036854775807 := rfl
      omega
theorem parityMakes_walk (v0 : Value) (a1 : Int) (w : World) (w0 : StrsV w v0) (w1 : (Lit.int .i64 a1).wf = true) (hL : w.cell? ⟨0, 0, none⟩ = some (.iface 92 (.agg #[.pointer (some ⟨1, 40, none⟩)]))) :
    Calls Tryd.prog 3 #[v0, .int .i64 a1] w fun e w' => e = .returned (.bool true) ∧ Below w.heap.size w w' := by
  obtain ⟨A, c, ls, rfl, hr, hs, hl⟩ := w0
  exact parityMakes_calls A c ls a1 w hL hr hs hl
end Go.Proofs.YtfajgnaphekdhaaDoor
