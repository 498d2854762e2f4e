/- A slice of slices of bytes that the call itself appends to; its elements are whole rows of bytes. Over this program. -/
import Derived.Test.YtfajgnaphekdhaaDoorPlist
namespace Go.Proofs.YtfajgnaphekdhaaDoor
open Go.RowKit
set_option linter.unusedSimpArgs false
set_option linter.unusedVariables false
/-- v is a slice at the head of a row of bytes, which reads as bs -/
def El (w : World) (v : Value) (bs : List UInt8) : Prop := ∃ g cap cur fr, v = .slice (some ⟨g, 0, none⟩) bs.length cap ∧ w.heap[g]? = some (.cells cur 5 fr) ∧ Rd w (some ⟨g, 0, none⟩) bs ∧ bs.length ≤ cap
theorem Rd.same {w w' : World} {g : Nat} {bs : List UInt8} (h : Rd w (some ⟨g, 0, none⟩) bs) (hg : w'.heap[g]? = w.heap[g]?) : Rd w' (some ⟨g, 0, none⟩) bs := fun j hj => by
  obtain ⟨ad, he, hc⟩ := h j hj
  cases he
  refine ⟨_, rfl, ?_⟩
  rw [← hc, addr_add0]
  simp only [World.cell?, hg]
theorem El.below {w w' : World} {v : Value} {bs : List UInt8} (h : El w v bs) (hb : Below w.heap.size w w') : El w' v bs := by
  obtain ⟨g, cap, cur, fr, h1, h2, h3, h4⟩ := h
  have e := hb.block g (Array.getElem?_eq_some_iff.1 h2).1
  exact ⟨g, cap, cur, fr, h1, by rw [e]; exact h2, h3.same e, h4⟩
/-- a row of another kind has grown -/
theorem El.grown {w w' : World} {v : Value} {bs : List UInt8} (h : El w v bs) {row : Option Nat} (hg : w.grownBy w' row) (hr : ∀ k, row = some k → ∃ C fr, w.heap[k]? = some (.cells C 33 fr)) : El w' v bs := by
  obtain ⟨g, cap, cur, fr, h1, h2, h3, h4⟩ := h
  have e := hg.block g (Array.getElem?_eq_some_iff.1 h2).1 (fun e => by
    obtain ⟨C, fr2, hk⟩ := hr g e.symm
    rw [h2] at hk
    injection hk with hk
    injection hk with _ h5 _
    exact absurd h5 (by decide))
  exact ⟨g, cap, cur, fr, h1, by rw [e]; exact h2, h3.same e, h4⟩
theorem infoS3 : (Tryd.prog.info? 33).map (fun i => (i.zero, i.size, i.bytes)) = some (some (.slice none 0 0), 1, 24) := by kernel_rfl
/-- a slice of the call's own, whose elements read as the lists -/
def OwnLL (w : World) (B : Nat) (v : Value) (ls : List (List UInt8)) : Prop := ∃ vals : List Value, w.ownsRow B 33 1 v ls.length vals ∧ vals.length = ls.length ∧ ∀ j (h1 : j < vals.length) (h2 : j < ls.length), El w vals[j] ls[j]
theorem OwnLL.nil (w : World) (B : Nat) : OwnLL w B (.slice none 0 0) [] := ⟨[], World.ownsRow_nil _ _ _ _, rfl, fun j h => by simp at h⟩
theorem OwnLL.below {w w' : World} {B : Nat} {v : Value} {ls : List (List UInt8)} (h : OwnLL w B v ls) (hb : Below w.heap.size w w') : OwnLL w' B v ls := by
  obtain ⟨vals, h1, h2, h3⟩ := h
  exact ⟨vals, World.ownsRow.kept (row := none) h1 ⟨hb.os, hb.tape, hb.output, hb.size, fun k hk _ => hb.block k hk⟩ (by cases v.ownBlock <;> simp), h2, fun j a b => (h3 j a b).below hb⟩
theorem OwnLL.row {w : World} {B : Nat} {v : Value} {ls : List (List UInt8)} (h : OwnLL w B v ls) : ∀ k, v.ownBlock = some k → ∃ C fr, w.heap[k]? = some (.cells C 33 fr) := by
  obtain ⟨vals, h1, _, _⟩ := h
  intro k hk
  rcases h1.2 with ⟨rfl, _⟩ | ⟨g, cap, cur, rfl, _, hc, _⟩
  · cases hk
  · cases hk
    exact ⟨cur, _, hc⟩
theorem OwnLL.rdl {w : World} {B : Nat} {v : Value} {ls : List (List UInt8)} (h : OwnLL w B v ls) : ∃ A c, v = .slice A ls.length c ∧ RdL w A ls ∧ (0 < ls.length → ∃ b off, A = some ⟨b, off, none⟩) := by
  obtain ⟨vals, h1, h2, h3⟩ := h
  rcases h1.2 with ⟨rfl, hn⟩ | ⟨g, cap, cur, hv, hb, hc, hl, _⟩
  · have : ls = [] := List.length_eq_zero_iff.1 hn
    subst this
    exact ⟨none, 0, rfl, fun j hj => by simp at hj, fun h => by simp at h⟩
  · subst hv
    refine ⟨_, cap, rfl, fun j hj => ?_, fun _ => ⟨g, 0, rfl⟩⟩
    have hj' : j < vals.length := by omega
    obtain ⟨g2, cap2, cur2, fr2, e1, e2, e3, e4⟩ := h3 j hj' hj
    refine ⟨_, _, cap2, rfl, ?_, e3, e4⟩
    have := h1.cells (g := g) rfl j (vals[j]) (by simp [hj'])
    rw [this, e1]
theorem own_pushLL {w : World} {B : Nat} {v x : Value} {ls : List (List UInt8)} {b : List UInt8} (h : OwnLL w B v ls) (hx : El w x b) (hB : B ≤ w.heap.size) (hl : ls.length ≤ 1000) :
    ∃ v' W', (Builtin.append_ #[23, 23] 23 #[v, .slice (some ⟨w.heap.size, 0, none⟩) 1 1]).run Tryd.prog (w.alloc (.cells #[x] 33)) = .ok v' W' ∧ OwnLL W' B v' (ls ++ [b]) ∧ Below B w W' ∧ ∀ y bs, El w y bs → El W' y bs := by
  obtain ⟨iS, hi, hz0, hz1, hz2⟩ := info_parts infoS3
  have hba : Below w.heap.size w (w.alloc (.cells #[x] 33)) := (Below.refl _ _).alloc (Nat.le_refl _) _
  have ha := h.below hba
  have hrow := ha.row
  obtain ⟨vals, hown, h2, h3⟩ := ha
  obtain ⟨v', w', r1, r2, r3, _⟩ := run_append_own (P := Tryd.prog) (w.alloc (.cells #[x] 33)) B 23 23 33 iS _ 1 24 Tryd.underlying23 hi hz0 hz1 hz2 rfl (by omega) v ls.length vals hown ⟨w.heap.size, 0, none⟩ 1 1 [x] rfl (fun j u hu => by
    match j, hu with
    | 0, hu => cases hu; rw [addr_add0, cell_of_row _ _ _ _ _ _ (heap_alloc_new w _)]; rfl) (fun u hu => by
      simp at hu
      subst hu
      obtain ⟨g, cap, cur, fr, e1, _⟩ := hx
      rw [e1]; rfl) (by unfold maxLen; omega) (by omega) (by simp; omega)
  have hk : ∀ y bs, El (w.alloc (.cells #[x] 33)) y bs → El w' y bs := fun y bs he => he.grown r3 hrow
  refine ⟨v', w', r1, ⟨vals ++ [x], ?_, by simp [h2], fun j a1 a2 => ?_⟩, ((Below.refl B w).alloc hB _).grown r3 (by simp; omega) fun k e => (World.ownsRow.lt hown k e).1, fun y bs he => hk y bs (he.below hba)⟩
  · rw [List.length_append]
    exact r2
  · by_cases hj : j < ls.length
    · rw [List.getElem_append_left (by omega), List.getElem_append_left hj]
      exact hk _ _ (h3 j (by omega) hj)
    · have hj2 : j = ls.length := by simp at a2; omega
      subst hj2
      rw [List.getElem_append_right (by omega), List.getElem_append_right (by omega)]
      simpa [h2] using hk _ _ (hx.below hba)
end Go.Proofs.YtfajgnaphekdhaaDoor
