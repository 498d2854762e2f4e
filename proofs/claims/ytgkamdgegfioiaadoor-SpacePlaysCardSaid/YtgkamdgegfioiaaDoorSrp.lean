/- For the walk of SpaceReads: a byte is hit; a loaded space holds nothing back. -/
import Derived.Test.YtgkamdgegfioiaaDoorSnd
import Derived.Test.YtgkamdgegfioiaaDoorLdc
import Derived.Test.YtgkamdgegfioiaaDoorSbt
namespace Go.Proofs.YtgkamdgegfioiaaDoor
open Go.RowKit Go.Shelf
set_option linter.unusedSimpArgs false
set_option linter.unusedVariables false
theorem heldS_zero : ∀ (ps : List Pc), (∀ p ∈ ps, p.cnt ≠ 0) → heldS ps = 0
  | [], _ => rfl
  | p :: ps, h => by
    have h1 := h p (List.mem_cons_self ..)
    have h2 := heldS_zero ps (fun q hq => h q (List.mem_cons_of_mem _ hq))
    simp [heldS, h1, h2]
/-- a text that Load may be given -/
def SrI (w : World) (t : Value) (W : World) : Prop := ∃ (A : Option Addr) (bs : List UInt8) (c : Nat), t = .slice A bs.length c ∧ bs.length ≤ c ∧ (4 ≤ bs.length → ∃ g, A = some ⟨g, 0, none⟩) ∧ Rd W A bs ∧ bs.length ≤ 140737488351232 ∧ Below w.heap.size w W
theorem own_hit {W : World} {B : Nat} {v : Value} {bs : List UInt8} (h : OwnB W B 5 v bs) (h4 : 4 ≤ bs.length) (k : Nat) (hk : k < bs.length) (y : UInt8) :
    ∃ g c, v = .slice (some ⟨g, 0, none⟩) bs.length c ∧ bs.length ≤ c ∧ c ≤ maxLen ∧ B ≤ g ∧ W.frozen? ⟨g, k, none⟩ = false ∧ (∃ u, W.cell? ⟨g, k, none⟩ = some u) ∧ Rd (W.setCell ⟨g, k, none⟩ (.int .u8 (y.toNat : Int))) (some ⟨g, 0, none⟩) (bs.set k y) := by
  obtain ⟨A, c, e, hr, hc, hm, hA⟩ := h.form
  rcases h.2 with ⟨e2, hn⟩ | ⟨g, cap, cur, e2, hb, hg, _⟩
  · omega
  · rw [e] at e2
    injection e2 with a1 a2 a3
    subst a1
    refine ⟨g, c, e, hc, hm, hb, frozen_of_row _ _ _ _ _ hg, ?_, ?_⟩
    · obtain ⟨ad, ea, hh⟩ := hr k hk
      cases ea
      rw [addr_add0] at hh
      exact ⟨_, hh⟩
    · intro j hj
      rw [List.length_set] at hj
      refine ⟨_, rfl, ?_⟩
      obtain ⟨ad, ea, hh⟩ := hr j hj
      cases ea
      rw [addr_add0] at hh ⊢
      by_cases hjk : j = k
      · subst hjk
        rw [World.cell?_setCell_same _ _ _ hh]
        simp [vb]
      · rw [World.cell?_setCell_other _ _ _ _ (by intro e; injection e with _ e2 _; exact hjk e2.symm), hh, List.getElem_set_ne (Ne.symm hjk)]
end Go.Proofs.YtgkamdgegfioiaaDoor
