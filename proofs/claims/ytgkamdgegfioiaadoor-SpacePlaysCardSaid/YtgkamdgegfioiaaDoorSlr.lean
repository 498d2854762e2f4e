/- The memory of lists of runs; two of them that a loop over a function appends to. No walk. -/
import Derived.Test.YtgkamdgegfioiaaDoorSit
namespace Go.Proofs.YtgkamdgegfioiaaDoor
open Go.RowKit
set_option linter.unusedSimpArgs false
set_option linter.unusedVariables false
theorem infoRn : (Tryd.prog.info? 47).map (fun i => (i.zero, i.size, i.bytes)) = some (some (.agg #[.int .i64 0, .int .i64 0, .int .i64 0, .int .u64 0]), 4, 32) := by kernel_rfl
def rnA (p : Pc) : Array Value := #[.int .i64 (p.at_ : Int), .int .i64 (p.n : Int), .int .i64 (p.cnt : Int), .int .u64 (p.tag : Int)]
def rnL : List Pc → List Value
  | [] => []
  | p :: ps => .int .i64 (p.at_ : Int) :: .int .i64 (p.n : Int) :: .int .i64 (p.cnt : Int) :: .int .u64 (p.tag : Int) :: rnL ps
theorem rnL_len : ∀ (ps : List Pc), (rnL ps).length = ps.length * 4
  | [] => rfl
  | p :: ps => by simp only [rnL, List.length_cons, rnL_len ps]; omega
theorem rnL_append : ∀ (a b : List Pc), rnL (a ++ b) = rnL a ++ rnL b
  | [], _ => rfl
  | p :: ps, b => by simp only [List.cons_append, rnL, rnL_append ps b]
theorem rnL_cell : ∀ (ps : List Pc), ∀ u ∈ rnL ps, u.oneCell' = true
  | [], u, h => by cases h
  | p :: ps, u, h => by
    simp only [rnL, List.mem_cons] at h
    rcases h with rfl | rfl | rfl | rfl | h
    · rfl
    · rfl
    · rfl
    · rfl
    · exact rnL_cell ps u h
theorem rnL_at : ∀ (ps : List Pc) (j i : Nat) (hj : j < ps.length) (hi : i < 4), (rnL ps)[j * 4 + i]? = (rnA ps[j])[i]?
  | p :: ps, 0, i, _, hi => by
    have hh : i = 0 ∨ i = 1 ∨ i = 2 ∨ i = 3 := by omega
    rcases hh with rfl | rfl | rfl | rfl <;> rfl
  | p :: ps, j + 1, i, hj, hi => by
    have := rnL_at ps j i (by simpa using hj) hi
    rw [show (j + 1) * 4 + i = (j * 4 + i) + 4 by omega]
    exact this
/-- v is a slice of the call's own that reads as runs -/
def OwnR (w : World) (B : Nat) (v : Value) (ps : List Pc) : Prop := w.ownsRow B 47 4 v ps.length (rnL ps)
theorem OwnR.nil (w : World) (B : Nat) : OwnR w B (.slice none 0 0) [] := World.ownsRow_nil w B _ 4
theorem OwnR.kept {w w' : World} {B : Nat} {v : Value} {ps : List Pc} {row : Option Nat} (h : OwnR w B v ps) (hg : w.grownBy w' row) (hne : v.ownBlock = none ∨ v.ownBlock ≠ row) : OwnR w' B v ps := World.ownsRow.kept h hg hne
theorem OwnR.below {w w' : World} {B : Nat} {v : Value} {ps : List Pc} (h : OwnR w B v ps) (hb : Below w.heap.size w w') : OwnR w' B v ps :=
  World.ownsRow.kept (row := none) h ⟨hb.os, hb.tape, hb.output, hb.size, fun k hk _ => hb.block k hk⟩ (by cases v.ownBlock <;> simp)
theorem OwnR.elem {w : World} {B : Nat} {v : Value} {ps : List Pc} (h : OwnR w B v ps) : ∀ k, v.ownBlock = some k → ∃ C, w.heap[k]? = some (.cells C 47 (0, 0)) := fun k hk => by
  rcases h.2 with ⟨rfl, _⟩ | ⟨g, cap, cur, rfl, _, hg, _⟩
  · cases hk
  · cases hk
    exact ⟨_, hg⟩
/-- a slice that reads as runs -/
def RdR (w : World) (A : Option Addr) (ps : List Pc) : Prop := ∀ j (hj : j < ps.length), ∃ g, A = some ⟨g, 0, none⟩ ∧ g < w.heap.size ∧ ∀ i, i < 4 → w.cell? ⟨g, j * 4 + i, none⟩ = (rnA ps[j])[i]?
theorem OwnR.rd {w : World} {B : Nat} {v : Value} {ps : List Pc} (h : OwnR w B v ps) : ∃ A c, v = .slice A ps.length c ∧ ps.length ≤ c ∧ c ≤ maxLen ∧ RdR w A ps := by
  rcases h.2 with ⟨rfl, hn⟩ | ⟨g, cap, cur, rfl, hb, hg, hc, hm, hs, ht⟩
  · have : ps = [] := List.length_eq_zero_iff.1 hn
    subst this
    exact ⟨none, 0, rfl, Nat.le_refl _, Nat.zero_le _, fun j hj => by simp at hj⟩
  · refine ⟨some ⟨g, 0, none⟩, cap, rfl, hc, hm, fun j hj => ⟨g, rfl, (Array.getElem?_eq_some_iff.1 hg).1, fun i hi => ?_⟩⟩
    rw [cell_of_row _ _ _ _ _ _ hg, ← rnL_at ps j i hj hi, ← ht, List.getElem?_take_of_lt (by omega)]
    simp
theorem RdR.below' {w w' : World} {A : Option Addr} {ps : List Pc} (h : RdR w A ps) (hb : Below w.heap.size w w') : RdR w' A ps := fun j hj => by
  obtain ⟨g, e, h1, h3⟩ := h j hj
  exact ⟨g, e, Nat.lt_of_lt_of_le h1 hb.size, fun i hi => (hb.cell (p := ⟨g, j * 4 + i, none⟩) h1).trans (h3 i hi)⟩
/-- append of one run -/
theorem appendR (w : World) (B : Nat) (v : Value) (ps : List Pc) (h : OwnR w B v ps) (hB : B ≤ w.heap.size) (b : Nat) (p : Pc) (hs : Bx w b 47 (rnA p)) (hn : ps.length ≤ 1073741824) :
    ∃ v' w', (Builtin.append_ #[43, 43] 43 #[v, .slice (some ⟨b, 0, none⟩) 1 1]).run Tryd.prog w = .ok v' w' ∧ OwnR w' B v' (ps ++ [p]) ∧ w.grownBy w' v.ownBlock ∧ (v'.ownBlock = v.ownBlock ∨ v'.ownBlock = some w.heap.size) ∧ ∃ A n c, v' = .slice A n c := by
  obtain ⟨i5, hi, hz0, hz1, hz2⟩ := info_parts infoRn
  obtain ⟨v', w', h1, h2, h3, _, h5⟩ := run_append_own_at (P := Tryd.prog) w B 43 43 47 i5 _ 4 32 Tryd.underlying43 hi hz0 hz1 hz2 rfl (by omega) v ps.length (rnL ps) h ⟨b, 0, none⟩ 1 1 (rnL [p]) rfl (fun j u hj => by
    rw [addr_add0, hs.cell]
    have e : (rnL [p])[j]? = (rnA p)[j]? := by show (rnA p).toList[j]? = _; simp
    rw [← e]
    exact hj) (rnL_cell _) (by unfold maxLen; omega) (by omega) hB
  have ho : OwnR w' B v' (ps ++ [p]) := by
    unfold OwnR
    rw [rnL_append, List.length_append]
    exact h2
  obtain ⟨A, c, e, _⟩ := ho.rd
  exact ⟨v', w', h1, ho, h3, h5, A, _, c, e⟩
/-- two lists under way, in boxes b6 and b7; box b3 holds a number -/
structure Ls (w0 W : World) (b3 b6 b7 most : Nat) (v6 v7 : Value) (L6 L7 : List Pc) : Prop where
  below : Below w0.heap.size w0 W
  h3 : w0.heap.size ≤ b3
  h6 : w0.heap.size ≤ b6
  h7 : w0.heap.size ≤ b7
  ne : b6 ≠ b7
  r3 : Bx W b3 3 #[.int .i64 (most : Int)]
  r6 : Bx W b6 43 #[v6]
  r7 : Bx W b7 43 #[v7]
  o6 : OwnR W w0.heap.size v6 L6
  o7 : OwnR W w0.heap.size v7 L7
  sep : ∀ k, v6.ownBlock = some k → v7.ownBlock ≠ some k
theorem Ls.swap {w0 W : World} {b3 b6 b7 most : Nat} {v6 v7 : Value} {L6 L7 : List Pc} (h : Ls w0 W b3 b6 b7 most v6 v7 L6 L7) : Ls w0 W b3 b7 b6 most v7 v6 L7 L6 :=
  ⟨h.below, h.h3, h.h7, h.h6, Ne.symm h.ne, h.r3, h.r7, h.r6, h.o7, h.o6, fun k h1 h2 => h.sep k h2 h1⟩
theorem Ls.grown {w0 W W' : World} {b3 b6 b7 most : Nat} {v6 v7 : Value} {L6 L7 : List Pc} {row : Option Nat} (h : Ls w0 W b3 b6 b7 most v6 v7 L6 L7) (hg : W.grownBy W' row) (hr : ∀ r, row = some r → w0.heap.size ≤ r ∧ ∃ o : Obj, W.heap[r]? = some o ∧ o.isCells = false) : Ls w0 W' b3 b6 b7 most v6 v7 L6 L7 := by
  have keep : ∀ {k : Nat} {t : TypeId} {C : Array Value}, Bx W k t C → Bx W' k t C := by
    intro k t C hk
    refine (hg.block k hk.lt (fun e => ?_)).trans hk
    obtain ⟨_, o, ho, hoc⟩ := hr k e.symm
    rw [show W.heap[k]? = _ from hk] at ho
    cases ho
    cases hoc
  have keepO : ∀ {v : Value} {L : List Pc}, OwnR W w0.heap.size v L → OwnR W' w0.heap.size v L := by
    intro v L ho
    refine ho.kept hg ?_
    cases e : v.ownBlock with
    | none => simp
    | some k =>
      refine .inr (fun e2 => ?_)
      obtain ⟨C, hC⟩ := ho.elem k e
      obtain ⟨_, o, ho2, hoc⟩ := hr k e2.symm
      rw [hC] at ho2
      cases ho2
      cases hoc
  exact ⟨h.below.grown hg h.below.size (fun k e => (hr k e).1), h.h3, h.h6, h.h7, h.ne, keep h.r3, keep h.r6, keep h.r7, keepO h.o6, keepO h.o7, h.sep⟩
theorem Ls.own {w0 : World} {b3 b6 b7 most B : Nat} {v6 v7 : Value} {L6 L7 : List Pc} (hB : w0.heap.size ≤ B) {W W' : World} {row : Option Nat} (h : Ls w0 W b3 b6 b7 most v6 v7 L6 L7) (hg : W.grownBy W' row) (hr : ∀ r, row = some r → B ≤ r ∧ ∃ o : Obj, W.heap[r]? = some o ∧ o.isCells = false) : Ls w0 W' b3 b6 b7 most v6 v7 L6 L7 :=
  h.grown hg (fun r e => by obtain ⟨a, b⟩ := hr r e; exact ⟨by omega, b⟩)
theorem Ls.alloc {w0 W : World} {b3 b6 b7 most : Nat} {v6 v7 : Value} {L6 L7 : List Pc} (h : Ls w0 W b3 b6 b7 most v6 v7 L6 L7) (o : Obj) : Ls w0 (W.alloc o) b3 b6 b7 most v6 v7 L6 L7 := h.grown (row := none) (World.grownBy_alloc W o none) (fun r e => by cases e)
/-- one more in the first list -/
theorem Ls.push {w0 W : World} {b3 b6 b7 most : Nat} {v6 v7 : Value} {L6 L7 : List Pc} (h : Ls w0 W b3 b6 b7 most v6 v7 L6 L7) (p : Pc) (hl : L6.length ≤ 1073741824) (K : Nat) :
    ∃ A n c W2, (Builtin.append_ #[43, 43] 43 #[v6, .slice (some ⟨W.heap.size, 0, none⟩) 1 1]).run Tryd.prog (W.alloc (.cells (rnA p) 47)) = .ok (.slice A n c) W2 ∧
      W2.cell? ⟨b6, 0, none⟩ = some v6 ∧ W2.frozen? ⟨b6, 0, none⟩ = false ∧ Ls w0 (W2.setCell ⟨b6, 0, none⟩ (.slice A n c)) b3 b6 b7 most (.slice A n c) v7 (L6 ++ [p]) L7 ∧ KeepsFrom K W (W2.setCell ⟨b6, 0, none⟩ (.slice A n c)) ∧ Below w0.heap.size W (W2.setCell ⟨b6, 0, none⟩ (.slice A n c)) := by
  have h1 := h.alloc (.cells (rnA p) 47)
  obtain ⟨v', W2, hr, ho, hg, hlie, A, n, c, rfl⟩ := appendR (W.alloc (.cells (rnA p) 47)) w0.heap.size v6 L6 h1.o6 h1.below.size W.heap.size p (Bx.new _ _ _) hl
  have keep : ∀ {k : Nat} {t : TypeId} {C : Array Value}, Bx (W.alloc (.cells (rnA p) 47)) k t C → t ≠ 47 → Bx W2 k t C := by
    intro k t C hk ht
    refine (hg.block k hk.lt (fun e => ?_)).trans hk
    obtain ⟨C', hC⟩ := h1.o6.elem k e.symm
    rw [show (W.alloc (.cells (rnA p) 47)).heap[k]? = _ from hk] at hC
    injection hC with hC
    injection hC with _ h2 _
    exact ht h2
  have q6 := keep h1.r6 (by decide)
  have q7 := keep h1.r7 (by decide)
  have q3 := keep h1.r3 (by decide)
  have hne36 : b3 ≠ b6 := fun e => by
    have := h.r3
    rw [e] at this
    rw [show Bx W b6 3 _ ↔ W.heap[b6]? = some _ from Iff.rfl, h.r6] at this
    injection this with this
    injection this with _ h2 _
    exact absurd h2 (by decide)
  have hsep : ∀ k, (Value.slice A n c).ownBlock = some k → v7.ownBlock ≠ some k := fun k e1 e2 => by
    rcases hlie with e | e
    · rw [e] at e1; exact h.sep k e1 e2
    · rw [e] at e1
      cases e1
      have := (World.ownsRow.lt h.o7 _ e2).2
      simp at this
      omega
  have hbb : Below w0.heap.size W (W2.setCell ⟨b6, 0, none⟩ (.slice A n c)) := by
    refine setB ?_ h.h6 0 _
    exact ((Below.refl _ W).alloc h.below.size _).grown hg (by have := h.below.size; simp; omega) (fun k e => (World.ownsRow.lt h1.o6 k e).1)
  refine ⟨A, n, c, W2, hr, q6.cell 0, q6.frozen 0, ⟨h.below.trans hbb, h.h3, h.h6, h.h7, h.ne, q3.other hne36 _ _, q6.set 0 _, q7.other (Ne.symm h.ne) _ _, ?_, ?_, hsep⟩, ?_, hbb⟩
  · refine ho.kept (row := some b6) ⟨rfl, rfl, rfl, by simp, fun k _ hne => heap_setCell_other _ _ k _ (fun e => hne (by rw [e]))⟩ ?_
    refine .inr (fun e => ?_)
    obtain ⟨C', hC⟩ := ho.elem b6 e
    rw [show W2.heap[b6]? = _ from q6] at hC
    injection hC with hC
    injection hC with _ h2 _
    exact absurd h2 (by decide)
  · have k1 : OwnR W2 w0.heap.size v7 L7 := h1.o7.kept hg (by
      cases e : v7.ownBlock with
      | none => simp
      | some k => exact .inr (fun e2 => h.sep k e2.symm e))
    refine k1.kept (row := some b6) ⟨rfl, rfl, rfl, by simp, fun k _ hne => heap_setCell_other _ _ k _ (fun e => hne (by rw [e]))⟩ ?_
    cases e : v7.ownBlock with
    | none => simp
    | some k =>
      refine .inr (fun e2 => ?_)
      cases e2
      obtain ⟨C', hC⟩ := k1.elem b6 e
      rw [show W2.heap[b6]? = _ from q6] at hC
      injection hC with hC
      injection hC with _ h2 _
      exact absurd h2 (by decide)
  · exact (((KeepsOthers.alloc W _).trans (KeepsOthers.of_grownBy hg (fun j o e hj => by
      obtain ⟨C', hC⟩ := h1.o6.elem j e
      rw [hj] at hC
      cases hC
      rfl))).trans (KeepsOthers.setCell _ _ _)).from K
end Go.Proofs.YtgkamdgegfioiaaDoor
