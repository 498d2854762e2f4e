/- The memory of a space's pieces: rows of cells, five a piece; append, copy, clear on them. No walk. -/
import Derived.Test.YtgkamdgegfioiaaDoorSpl
import Derived.Maps.AppendAt
import Derived.Deep.AppendSrc
import Derived.Deep.Onto
import Derived.Lib.AppendZerosOnto
import Derived.Laws.IdiomCopy
import Derived.Laws.AppendOwn
import Derived.Maps.Range
import Derived.OwnWalk
import Derived.Lib.SliceRun
namespace Go.Proofs.YtgkamdgegfioiaaDoor
open Go.RowKit
set_option linter.unusedSimpArgs false
set_option linter.unusedVariables false
/-- L with vs from place o on -/
def spV (L : List Value) (o : Nat) (vs : List Value) : List Value := L.take o ++ vs ++ L.drop (o + vs.length)
theorem spV_len {L : List Value} {o : Nat} {vs : List Value} (h : o + vs.length ≤ L.length) : (spV L o vs).length = L.length := by
  simp only [spV, List.length_append, List.length_take, List.length_drop]; omega
theorem setRow_twice (w : World) (g : Nat) (old C C' : Array Value) (t : TypeId) (fr : Nat × Nat) (hg : w.heap[g]? = some (.cells old t fr)) : (w.setRow g C).setRow g C' = w.setRow g C' := by
  unfold World.setRow
  congr 1
  apply Array.ext_getElem?
  intro k
  simp only [Array.getElem?_modify]
  split
  · cases hk : w.heap[k]? with
    | none => rfl
    | some o => cases o <;> rfl
  · rfl
theorem setCells_spV {g : Nat} {e : TypeId} {fr : Nat × Nat} : ∀ (vs : List Value) (o : Nat) (L : List Value) (w : World), w.heap[g]? = some (.cells L.toArray e fr) → o + vs.length ≤ L.length → w.setCells g o vs = w.setRow g (spV L o vs).toArray
  | [], o, L, w, hg, h => by
    have e1 : spV L o [] = L := by simp [spV]
    rw [e1]
    show w = _
    exact (setRow_self w g L.toArray e fr hg).symm
  | v :: r, o, L, w, hg, h => by
    simp only [List.length_cons] at h
    have h1 : w.setCell ⟨g, o, none⟩ v = w.setRow g (L.set o v).toArray := by
      rw [setCell_eq_setRow _ _ _ _ _ _ _ hg]
      simp
    have hg1 : (w.setRow g (L.set o v).toArray).heap[g]? = some (.cells (L.set o v).toArray e fr) := setRow_heap _ _ _ _ _ _ hg
    show (w.setCell ⟨g, o, none⟩ v).setCells g (o + 1) r = _
    rw [h1, setCells_spV r (o + 1) (L.set o v) _ hg1 (by simp; omega), setRow_twice _ _ _ _ _ _ _ hg]
    congr 2
    unfold spV
    rw [List.take_set, List.take_succ_eq_append_getElem (by omega)]
    simp only [List.length_cons]
    rw [List.drop_set_of_lt (by omega), show o + 1 + r.length = o + (r.length + 1) by omega]
    rw [List.set_append]
    have hl : (L.take o).length = o := by rw [List.length_take]; omega
    simp [hl]
def PT : TypeId := 90
def PL : TypeId := 86
theorem infoPc : (Tryd.prog.info? 90).map (fun i => (i.zero, i.size, i.bytes)) = some (some (.agg #[.int .i64 0, .int .i64 0, .int .i64 0, .int .u64 0, .bool false]), 5, 40) := by kernel_rfl
/-- a piece's cells -/
def pcA (p : Pc) : Array Value := #[.int .i64 (p.at_ : Int), .int .i64 (p.n : Int), .int .i64 (p.cnt : Int), .int .u64 (p.tag : Int), .bool p.old]
def pcL : List Pc → List Value
  | [] => []
  | p :: ps => .int .i64 (p.at_ : Int) :: .int .i64 (p.n : Int) :: .int .i64 (p.cnt : Int) :: .int .u64 (p.tag : Int) :: .bool p.old :: pcL ps
theorem pcL_len : ∀ (ps : List Pc), (pcL ps).length = ps.length * 5
  | [] => rfl
  | p :: ps => by simp only [pcL, List.length_cons, pcL_len ps]; omega
theorem pcL_append : ∀ (a b : List Pc), pcL (a ++ b) = pcL a ++ pcL b
  | [], _ => rfl
  | p :: ps, b => by simp only [List.cons_append, pcL, pcL_append ps b]
theorem pcL_one (p : Pc) : pcL [p] = (pcA p).toList := rfl
theorem pcL_cell : ∀ (ps : List Pc), ∀ u ∈ pcL ps, u.oneCell' = true
  | [], u, h => by cases h
  | p :: ps, u, h => by
    simp only [pcL, List.mem_cons] at h
    rcases h with rfl | rfl | rfl | rfl | rfl | h
    · rfl
    · rfl
    · rfl
    · rfl
    · rfl
    · exact pcL_cell ps u h
theorem pcL_take (ps : List Pc) (i : Nat) : (pcL ps).take (i * 5) = pcL (ps.take i) := by
  rcases Nat.le_total i ps.length with h | h
  · have : pcL ps = pcL (ps.take i) ++ pcL (ps.drop i) := by rw [← pcL_append, List.take_append_drop]
    rw [this]
    exact List.take_left' (by rw [pcL_len, List.length_take]; omega)
  · rw [List.take_of_length_le h, List.take_of_length_le (by rw [pcL_len]; omega)]
theorem pcL_drop (ps : List Pc) (i : Nat) : (pcL ps).drop (i * 5) = pcL (ps.drop i) := by
  rcases Nat.le_total i ps.length with h | h
  · have : pcL ps = pcL (ps.take i) ++ pcL (ps.drop i) := by rw [← pcL_append, List.take_append_drop]
    rw [this]
    exact List.drop_left' (by rw [pcL_len, List.length_take]; omega)
  · rw [List.drop_of_length_le h, List.drop_of_length_le (by rw [pcL_len]; omega)]
    rfl
theorem pcL_at (ps : List Pc) (j i : Nat) (hj : j < ps.length) (hi : i < 5) : (pcL ps)[j * 5 + i]? = (pcA ps[j])[i]? := by
  have h1 : ((pcL ps).drop (j * 5))[i]? = (pcL ps)[j * 5 + i]? := by rw [List.getElem?_drop]
  rw [← h1, pcL_drop, List.drop_eq_getElem_cons hj]
  have hh : i = 0 ∨ i = 1 ∨ i = 2 ∨ i = 3 ∨ i = 4 := by omega
  rcases hh with rfl | rfl | rfl | rfl | rfl <;> rfl
/-- the block that a slice may write -/
def rowOf : Value → Option Nat
  | .slice (some a) _ c => if c = 0 then none else some a.block
  | _ => none
/-- v is a slice of the call's own (its row lies from block B on) that reads as pieces -/
def OwnS (w : World) (B : Nat) (v : Value) (ps : List Pc) : Prop := ∃ A c, v = .slice A ps.length c ∧ ps.length ≤ c ∧ c ≤ maxLen ∧
  (c = 0 ∨ ∃ (g : Nat) (L : List Value), A = some ⟨g, 0, none⟩ ∧ B ≤ g ∧ w.heap[g]? = some (.cells L.toArray 90 (0, 0)) ∧ L.length = c * 5 ∧ L.take (ps.length * 5) = pcL ps)
theorem OwnS.nil (w : World) (B : Nat) : OwnS w B (.slice none 0 0) [] := ⟨none, 0, rfl, Nat.le_refl _, Nat.zero_le _, .inl rfl⟩
theorem OwnS.row {w : World} {B : Nat} {v : Value} {ps : List Pc} (h : OwnS w B v ps) (k : Nat) (hk : rowOf v = some k) : B ≤ k ∧ k < w.heap.size ∧ ∃ C, w.heap[k]? = some (.cells C 90 (0, 0)) := by
  obtain ⟨A, c, rfl, h1, h2, h3⟩ := h
  rcases h3 with rfl | ⟨g, L, rfl, hg, hL, _⟩
  · cases A <;> simp [rowOf] at hk
  · have hk2 : (if c = 0 then none else some g) = some k := hk
    by_cases hc : c = 0
    · rw [if_pos hc] at hk2
      cases hk2
    · rw [if_neg hc] at hk2
      cases hk2
      exact ⟨hg, (Array.getElem?_eq_some_iff.1 hL).1, _, hL⟩
theorem OwnS.kept {w w' : World} {B : Nat} {v : Value} {ps : List Pc} {row : Option Nat} (h : OwnS w B v ps) (hg : w.grownBy w' row) (hr : ∀ k, rowOf v = some k → row ≠ some k) : OwnS w' B v ps := by
  obtain ⟨A, c, rfl, h1, h2, h3⟩ := h
  refine ⟨A, c, rfl, h1, h2, ?_⟩
  by_cases hc : c = 0
  · exact .inl hc
  · rcases h3 with rfl | ⟨g, L, rfl, hB, hL, h5⟩
    · exact .inl rfl
    · refine .inr ⟨g, L, rfl, hB, ?_, h5⟩
      rw [hg.block g (Array.getElem?_eq_some_iff.1 hL).1 (fun e => hr g (by simp [rowOf, hc]) e.symm)]
      exact hL
theorem OwnS.below {w w' : World} {B : Nat} {v : Value} {ps : List Pc} (h : OwnS w B v ps) (hb : Below w.heap.size w w') : OwnS w' B v ps :=
  h.kept (row := none) ⟨hb.os, hb.tape, hb.output, hb.size, fun k hk _ => hb.block k hk⟩ (fun k _ e => by cases e)
theorem OwnS.mono {w : World} {B B' : Nat} {v : Value} {ps : List Pc} (h : OwnS w B v ps) (hb : B' ≤ B) : OwnS w B' v ps := by
  obtain ⟨A, c, rfl, h1, h2, h3⟩ := h
  refine ⟨A, c, rfl, h1, h2, ?_⟩
  rcases h3 with h3 | ⟨g, L, h3, hB, h5⟩
  · exact .inl h3
  · exact .inr ⟨g, L, h3, Nat.le_trans hb hB, h5⟩
/-- a slice that reads as pieces -/
def RdS (w : World) (A : Option Addr) (ps : List Pc) : Prop := ∀ j (hj : j < ps.length), ∃ g, A = some ⟨g, 0, none⟩ ∧ g < w.heap.size ∧ w.frozen? ⟨g, j * 5, none⟩ = false ∧ ∀ i, i < 5 → w.cell? ⟨g, j * 5 + i, none⟩ = (pcA ps[j])[i]?
theorem OwnS.rd {w : World} {B : Nat} {v : Value} {ps : List Pc} (h : OwnS w B v ps) : ∃ A c, v = .slice A ps.length c ∧ ps.length ≤ c ∧ c ≤ maxLen ∧ RdS w A ps := by
  obtain ⟨A, c, rfl, h1, h2, h3⟩ := h
  refine ⟨A, c, rfl, h1, h2, fun j hj => ?_⟩
  rcases h3 with rfl | ⟨g, L, rfl, hB, hL, h5, h6⟩
  · omega
  · refine ⟨g, rfl, (Array.getElem?_eq_some_iff.1 hL).1, frozen_of_row _ _ _ _ _ hL, fun i hi => ?_⟩
    rw [cell_of_row _ _ _ _ _ _ hL, ← pcL_at ps j i hj hi, ← h6, List.getElem?_take_of_lt (by omega)]
    simp
theorem RdS.below {w w' : World} {A : Option Addr} {ps : List Pc} {B : Nat} (h : RdS w A ps) (hb : Below B w w') (hB : ∀ g, A = some ⟨g, 0, none⟩ → g < B) : RdS w' A ps := fun j hj => by
  obtain ⟨g, e, h1, h2, h3⟩ := h j hj
  refine ⟨g, e, Nat.lt_of_lt_of_le h1 hb.size, ?_, fun i hi => ?_⟩
  · rw [hb.frozen (p := ⟨g, j * 5, none⟩) (hB g e)]; exact h2
  · rw [hb.cell (p := ⟨g, j * 5 + i, none⟩) (hB g e)]; exact h3 i hi
theorem RdS.below' {w w' : World} {A : Option Addr} {ps : List Pc} (h : RdS w A ps) (hb : Below w.heap.size w w') : RdS w' A ps := by
  cases ps with
  | nil => exact fun j hj => by simp at hj
  | cons p r =>
    obtain ⟨g, e, h1, _⟩ := h 0 (by simp)
    exact h.below hb (fun g' e' => by rw [e] at e'; cases e'; exact h1)
/-- where the new slice may lie -/
def Lies (w : World) (v v' : Value) : Prop := rowOf v' = rowOf v ∨ ∃ k, rowOf v' = some k ∧ w.heap.size ≤ k
theorem zero_cells : ∀ (n : Nat), (Builtin.zeroCells (Value.agg #[.int .i64 0, .int .i64 0, .int .i64 0, .int .u64 0, .bool false]).cells n).toList = pcL (List.replicate n ⟨0, 0, 0, 0, false⟩)
  | 0 => by simp [Builtin.zeroCells, pcL]
  | n + 1 => by
    have ih := zero_cells n
    have e : (Builtin.zeroCells (Value.agg #[.int .i64 0, .int .i64 0, .int .i64 0, .int .u64 0, .bool false]).cells (n + 1)).toList = (Builtin.zeroCells (Value.agg #[.int .i64 0, .int .i64 0, .int .i64 0, .int .u64 0, .bool false]).cells n).toList ++ pcL [⟨0, 0, 0, 0, false⟩] := by
      simp only [Builtin.zeroCells, Array.toList_map, Array.toList_range]
      rw [show (Value.agg #[.int .i64 0, .int .i64 0, .int .i64 0, .int .u64 0, .bool false]).cells.size = 5 from rfl, show (n + 1) * 5 = n * 5 + 1 + 1 + 1 + 1 + 1 by omega]
      simp only [List.range_succ, List.map_append, List.map_cons, List.map_nil]
      have m0 : n * 5 % 5 = 0 := by omega
      have m1 : (n * 5 + 1) % 5 = 1 := by omega
      have m2 : (n * 5 + 1 + 1) % 5 = 2 := by omega
      have m3 : (n * 5 + 1 + 1 + 1) % 5 = 3 := by omega
      have m4 : (n * 5 + 1 + 1 + 1 + 1) % 5 = 4 := by omega
      rw [m0, m1, m2, m3, m4]
      simp only [List.append_assoc]
      rfl
    rw [e, ih, ← pcL_append, ← List.replicate_succ']
/-- append of one piece -/
theorem appendS (w : World) (B : Nat) (v : Value) (ps : List Pc) (h : OwnS w B v ps) (hB : B ≤ w.heap.size) (ad : Addr) (c' : Nat) (p : Pc) (hs : ∀ j u, (pcL [p])[j]? = some u → w.cell? (ad.add j) = some u) (hn : ps.length ≤ 1073741824) (ty : TypeId) :
    ∃ v' w', (Builtin.append_ #[86, 86] ty #[v, .slice (some ad) 1 c']).run Tryd.prog w = .ok v' w' ∧ OwnS w' B v' (ps ++ [p]) ∧ w.grownBy w' (rowOf v) ∧ Lies w v v' := by
  obtain ⟨i5, hi, hz0, hz1, hz2⟩ := info_parts infoPc
  obtain ⟨A, c, rfl, h1, h2, h3⟩ := h
  by_cases hroom : ps.length + 1 ≤ c
  · obtain ⟨g, L, rfl, hBg, hL, h5, h6⟩ : ∃ (g : Nat) (L : List Value), A = some ⟨g, 0, none⟩ ∧ B ≤ g ∧ w.heap[g]? = some (.cells L.toArray 90 (0, 0)) ∧ L.length = c * 5 ∧ L.take (ps.length * 5) = pcL ps := by
      rcases h3 with rfl | h3
      · omega
      · exact h3
    have hrun := run_append_room_cells (P := Tryd.prog) w 86 ty 90 i5 Tryd.underlying86 hi g 0 ps.length c ad 1 c' (pcL [p]) (by rw [hz1]; rfl) hs (pcL_cell _) hroom
      (fun j hj => by
        rw [hz1, cell_of_row _ _ _ _ _ _ hL]
        have : (pcL [p]).length = 5 := rfl
        simp; omega) (fun j hj => frozen_of_row _ _ _ _ _ hL)
    have hlen : (pcL [p]).length = 5 := rfl
    rw [hz1, setCells_spV _ _ L w hL (by rw [hlen]; omega)] at hrun
    refine ⟨_, _, hrun, ⟨_, c, by rw [List.length_append]; rfl, by simp; omega, h2, .inr ⟨g, _, rfl, hBg, setRow_heap _ _ _ _ _ _ hL, ?_, ?_⟩⟩, ?_, .inl ?_⟩
    · rw [spV_len (by rw [hlen]; omega)]; exact h5
    · have e1 : (spV L (0 + ps.length * 5) (pcL [p])).take ((ps ++ [p]).length * 5) = L.take (ps.length * 5) ++ pcL [p] := by
        unfold spV
        rw [Nat.zero_add]
        exact List.take_left' (by rw [List.length_append, List.length_take, hlen]; simp; omega)
      rw [e1, h6, pcL_append]
    · have hc : c ≠ 0 := by omega
      simp only [rowOf, hc, if_false]
      exact ⟨rfl, rfl, rfl, by simp, fun k hk hne => setRow_other _ _ _ _ (fun e => hne (by rw [e]))⟩
    · rfl
  · have hsrc : Src Tryd.prog i5.size 86 (.slice (some ad) 1 c') 1 (pcL [p]) w := Src.ofSlice w Tryd.underlying86 ad 1 c' _ (by rw [hz1]; rfl) hs (pcL_cell _)
    have hold : (Builtin.firstCells i5.size ps.length (.slice A ps.length c)).run Tryd.prog w.drew = .ok (pcL ps).toArray w.drew := by
      rw [hz1]
      cases A with
      | none =>
        have h0 : ps = [] := by
          rcases h3 with rfl | ⟨g, L, e, _⟩
          · exact List.length_eq_zero_iff.1 (by omega)
          · cases e
        subst h0
        exact run_firstCells_none w.drew 5 _ _ _
      | some a =>
        refine run_firstCells_some w.drew 5 _ a _ _ _ (pcL_len ps) (fun j u hj => ?_)
        have hj2 := (List.getElem?_eq_some_iff.1 hj).1
        rw [pcL_len] at hj2
        rcases h3 with rfl | ⟨g, L, e, hBg, hL, h5, h6⟩
        · omega
        · cases e
          rw [addr_add0]
          show w.cell? _ = _
          rw [cell_of_row _ _ _ _ _ _ hL, ← hj, ← h6, List.getElem?_take_of_lt (by omega)]
          simp
    have hrun := run_append_grow_src (P := Tryd.prog) w 86 86 ty 90 i5 _ Tryd.underlying86 hi hz0 A ps.length c (pcL ps) hold _ 1 _ hsrc (by omega) (by omega) (by rw [hz2]; exact growslice_fits (by omega) (by omega))
    have hge := grownCap_ge w (ps.length + 1) c 90
    have hcm : grownCap w (ps.length + 1) c 90 ≤ maxLen := grownCap_le_maxLen w _ _ _ (by unfold maxLen; omega)
    generalize grownCap w (ps.length + 1) c 90 = G at *
    have hz := zero_cells (G - (ps.length + 1))
    refine ⟨_, _, hrun, ⟨_, G, by rw [List.length_append]; rfl, by simpa using hge, hcm, .inr ⟨w.heap.size, pcL ps ++ pcL [p] ++ pcL (List.replicate (G - (ps.length + 1)) ⟨0, 0, 0, 0, false⟩), rfl, hB, ?_, ?_, ?_⟩⟩, ?_, .inr ⟨w.heap.size, ?_, Nat.le_refl _⟩⟩
    · have h8 := heap_alloc_new w.drew (.cells ((pcL ps ++ pcL [p]).toArray ++ Builtin.zeroCells (Value.agg #[.int .i64 0, .int .i64 0, .int .i64 0, .int .u64 0, .bool false]).cells (G - (ps.length + 1))) 90)
      rw [show (pcL ps ++ pcL [p] ++ pcL (List.replicate (G - (ps.length + 1)) ⟨0, 0, 0, 0, false⟩)).toArray = (pcL ps ++ pcL [p]).toArray ++ Builtin.zeroCells (Value.agg #[.int .i64 0, .int .i64 0, .int .i64 0, .int .u64 0, .bool false]).cells (G - (ps.length + 1)) from by
        rw [← hz]; apply Array.ext'; simp]
      exact h8
    · simp only [List.length_append, pcL_len, List.length_replicate, List.length_singleton]
      omega
    · rw [← pcL_append]
      exact List.take_left' (by rw [pcL_len])
    · exact ⟨rfl, rfl, rfl, by simp, fun k hk _ => Below.heap_alloc w.drew _ _ hk⟩
    · have : G ≠ 0 := by omega
      simp [rowOf, this]
end Go.Proofs.YtgkamdgegfioiaaDoor
