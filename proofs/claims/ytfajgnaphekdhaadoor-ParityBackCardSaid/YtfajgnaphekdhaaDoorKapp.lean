/- More pieces onto a copy of a slice of slices. No walk. -/
import Derived.Test.YtfajgnaphekdhaaDoorKfinds
namespace Go.Proofs.YtfajgnaphekdhaaDoor
open Go.RowKit
set_option linter.unusedSimpArgs false
set_option linter.unusedVariables false
theorem rdl_vals {w : World} {ad : Addr} {ls : List (List UInt8)} (hr : RdL w (some ad) ls) : ∃ ys : List Value, ys.length = ls.length ∧ ∀ j (h1 : j < ys.length) (h2 : j < ls.length), (∀ W, Below w.heap.size w W → W.cell? (ad.add j) = some ys[j]) ∧ ∃ Aj cj, ys[j] = .slice Aj ls[j].length cj ∧ Rd w Aj ls[j] ∧ ls[j].length ≤ cj := by
  have each : ∀ j : Fin ls.length, ∃ u Aj cj, (∀ W, Below w.heap.size w W → W.cell? (ad.add j.1) = some u) ∧ u = .slice Aj ls[j.1].length cj ∧ Rd w Aj ls[j.1] ∧ ls[j.1].length ≤ cj := fun j => by
    obtain ⟨ad1, Aj, cj, e1, e2⟩ := hr.at j.1 j.2
    cases e1
    obtain ⟨ad', Aj', cj', f1, f2, f3, f4⟩ := hr j.1 j.2
    cases f1
    obtain ⟨g1, g2⟩ := e2 w (Below.refl _ _)
    rw [g1] at f2
    cases f2
    exact ⟨_, Aj, cj, fun W hb => (e2 W hb).1, rfl, g2, f4⟩
  refine ⟨(List.finRange ls.length).map fun j => (each j).choose, by simp, fun j h1 h2 => ?_⟩
  obtain ⟨Aj, cj, hc, h3, h4, h5⟩ := (each ⟨j, h2⟩).choose_spec
  have e : ((List.finRange ls.length).map fun j => (each j).choose)[j] = (each ⟨j, h2⟩).choose := by simp
  rw [e]
  exact ⟨hc, Aj, cj, h3, h4, h5⟩
theorem use_app {w W : World} {v : Value} {xs : List Value} {ls ms : List (List UInt8)} {A : Option Addr} {c : Nat} (hup : UseP w W v xs ls) (hb : Below w.heap.size w W) (hr : RdL w A ms) (hl : ls.length + ms.length ≤ 1000) (h0 : 0 < ls.length) :
    ∃ v' W' xs', (Builtin.append_ #[23, 23] 23 #[v, .slice A ms.length c]).run Tryd.prog W = .ok v' W' ∧ UseP w W' v' xs' (ls ++ ms) ∧ Below w.heap.size w W' := by
  obtain ⟨iS, hi, hz0, hz1, hz2⟩ := info_parts infoS3
  have hxl := hup.own.1
  cases A with
  | none =>
    have hm : ms = [] := by
      cases ms with
      | nil => rfl
      | cons b r => obtain ⟨ad, _, _, he, _⟩ := hr 0 (by simp); cases he
    subst hm
    obtain ⟨gu, cu, rfl, hcu, _⟩ := hup.rdl h0
    refine ⟨_, W, xs, ?_, by simpa using hup, hb⟩
    have hle : ls.length ≤ cu := hcu
    simp [Builtin.append_, run_underlying Tryd.underlying23, sizeOf, typeInfo, hi, Builtin.lenOf, hle, Builtin.firstCells, storeCells]
  | some ad =>
    obtain ⟨ys, hyl, hy⟩ := rdl_vals hr
    obtain ⟨v', w', h1, h2, h3, _⟩ := run_append_own (P := Tryd.prog) W w.heap.size 23 23 33 iS _ 1 24 Tryd.underlying23 hi hz0 hz1 hz2 rfl (by omega) v ls.length xs hup.own ad ms.length c ys (by omega) (fun j u hu => by
        obtain ⟨hj, e⟩ := List.getElem?_eq_some_iff.1 hu
        rw [(hy j hj (by omega)).1 W hb, e]) (fun u hu => by
        obtain ⟨j, hj, rfl⟩ := List.getElem_of_mem hu
        obtain ⟨_, Aj, cj, e, _⟩ := hy j hj (by omega)
        rw [e]; rfl) (by unfold maxLen; omega) (by omega) hb.size
    refine ⟨v', w', xs ++ ys, h1, ⟨by simpa using h2, fun j a1 a2 => ?_⟩, hb.grown h3 hb.size fun k e => (World.ownsRow.lt hup.own k e).1⟩
    by_cases hj : j < ls.length
    · rw [List.getElem_append_left (by omega), List.getElem_append_left hj]
      exact hup.el j (by omega) hj
    · rw [List.getElem_append_right (by omega), List.getElem_append_right (by omega)]
      have e : j - xs.length = j - ls.length := by omega
      simp only [e]
      exact (hy (j - ls.length) (by simp at a1; omega) (by simp at a2; omega)).2
theorem emptyN_set_le : ∀ (X : List (List UInt8)) (k : Nat), emptyN (X.set k []) ≤ emptyN X + 1
  | [], k => by simp [emptyN]
  | b :: r, 0 => by
    simp only [List.set_cons_zero, emptyN, List.length_nil, if_true]
    omega
  | b :: r, k + 1 => by
    have := emptyN_set_le r k
    simp only [List.set_cons_succ, emptyN]
    omega
end Go.Proofs.YtfajgnaphekdhaaDoor
