/- The memory of the reference's rows: rows of cells, six a row. No walk. -/
import Derived.Test.YtgkamdgegfioiaaDoorRwl
import Derived.Test.YtgkamdgegfioiaaDoorSls
namespace Go.Proofs.YtgkamdgegfioiaaDoor
open Go.RowKit
set_option linter.unusedSimpArgs false
set_option linter.unusedVariables false
theorem infoRw : (Tryd.prog.info? 106).map (fun i => (i.zero, i.size, i.bytes)) = some (some (.agg #[.int .i64 0, .bool false, .int .i64 0, .int .i64 0, .int .u64 0, .bool false]), 6, 48) := by kernel_rfl
def rwA (x : Rw) : Array Value := #[.int .i64 x.run, .bool x.held, .int .i64 (x.n : Int), .int .i64 (x.uses : Int), .int .u64 (x.tag : Int), .bool x.old]
def rwL : List Rw → List Value
  | [] => []
  | x :: xs => (rwA x).toList ++ rwL xs
theorem rwA_len (x : Rw) : (rwA x).toList.length = 6 := rfl
theorem rwL_len : ∀ (L : List Rw), (rwL L).length = L.length * 6
  | [] => rfl
  | x :: xs => by rw [rwL, List.length_append, rwA_len, rwL_len xs, List.length_cons]; omega
theorem rwL_append : ∀ (a b : List Rw), rwL (a ++ b) = rwL a ++ rwL b
  | [], _ => rfl
  | x :: xs, b => by rw [List.cons_append, rwL, rwL, rwL_append xs b, List.append_assoc]
theorem rwL_one (x : Rw) : rwL [x] = (rwA x).toList := by rw [rwL, rwL, List.append_nil]
theorem rwL_cell : ∀ (L : List Rw), ∀ u ∈ rwL L, u.oneCell' = true
  | [], u, h => by cases h
  | x :: xs, u, h => by
    rw [rwL] at h
    rcases List.mem_append.1 h with h | h
    · have e : (rwA x).toList = [.int .i64 x.run, .bool x.held, .int .i64 (x.n : Int), .int .i64 (x.uses : Int), .int .u64 (x.tag : Int), .bool x.old] := rfl
      rw [e] at h
      simp only [List.mem_cons, List.not_mem_nil, or_false] at h
      rcases h with rfl | rfl | rfl | rfl | rfl | rfl <;> rfl
    · exact rwL_cell xs u h
theorem rwL_at : ∀ (L : List Rw) (j i : Nat) (hj : j < L.length) (hi : i < 6), (rwL L)[j * 6 + i]? = (rwA L[j])[i]?
  | x :: xs, 0, i, _, hi => by
    rw [rwL, List.getElem?_append_left (by rw [rwA_len]; omega)]
    simp
  | x :: xs, j + 1, i, hj, hi => by
    have := rwL_at xs j i (by simpa using hj) hi
    rw [rwL, List.getElem?_append_right (by rw [rwA_len]; omega), rwA_len, show (j + 1) * 6 + i - 6 = j * 6 + i by omega]
    exact this
theorem rwL_set : ∀ (L : List Rw) (i f : Nat) (u : Value) (y : Rw) (hi : i < L.length), f < 6 → (rwA y).toList = (rwA L[i]).toList.set f u → (rwL L).set (i * 6 + f) u = rwL (L.set i y)
  | [], i, _, _, _, hi, _, _ => absurd hi (by simp)
  | x :: xs, 0, f, u, y, _, hf, h => by
    rw [List.set_cons_zero, rwL, rwL, Nat.zero_mul, Nat.zero_add, h, List.set_append, if_pos (by rw [rwA_len]; omega)]
    rfl
  | x :: xs, i + 1, f, u, y, hi, hf, h => by
    have ih := rwL_set xs i f u y (by simpa using hi) hf (by simpa using h)
    rw [List.set_cons_succ, rwL, rwL, List.set_append, if_neg (by rw [rwA_len]; omega), rwA_len, show (i + 1) * 6 + f - 6 = i * 6 + f by omega, ih]
theorem rwL_split (L : List Rw) (i : Nat) (hi : i < L.length) (y : Rw) : rwL (L.set i y) = (rwL L).take (i * 6) ++ (rwA y).toList ++ (rwL L).drop (i * 6 + 6) := by
  have h1 : L = L.take i ++ ([L[i]] ++ L.drop (i + 1)) := by
    rw [List.singleton_append, ← List.drop_eq_getElem_cons hi, List.take_append_drop]
  have h2 : L.set i y = L.take i ++ ([y] ++ L.drop (i + 1)) := by rw [List.set_eq_take_append_cons_drop, if_pos hi]; rfl
  have hl : (rwL (L.take i)).length = i * 6 := by rw [rwL_len, List.length_take, Nat.min_eq_left (by omega)]
  have e : rwL L = rwL (L.take i) ++ ((rwA L[i]).toList ++ rwL (L.drop (i + 1))) := by
    conv => lhs; rw [h1]
    rw [rwL_append, rwL_append, rwL_one]
  have hd : (rwL L).drop (i * 6 + 6) = rwL (L.drop (i + 1)) := by rw [e, ← List.drop_drop, List.drop_left' hl, List.drop_left' (rwA_len _)]
  have ht : (rwL L).take (i * 6) = rwL (L.take i) := by rw [e, List.take_left' hl]
  rw [h2, rwL_append, rwL_append, rwL_one, hd, ht, List.append_assoc]
/-- v is a slice of the call's own that reads as rows -/
def OwnW (w : World) (B : Nat) (v : Value) (L : List Rw) : Prop := w.ownsRow B 106 6 v L.length (rwL L)
theorem OwnW.nil (w : World) (B : Nat) : OwnW w B (.slice none 0 0) [] := World.ownsRow_nil w B _ 6
theorem OwnW.row {w : World} {B : Nat} {v : Value} {L : List Rw} (h : OwnW w B v L) (k : Nat) (hk : v.ownBlock = some k) : B ≤ k ∧ k < w.heap.size ∧ ∃ C, w.heap[k]? = some (.cells C 106 (0, 0)) := by
  rcases h.2 with ⟨rfl, _⟩ | ⟨g, cap, cur, rfl, hb, hg, _⟩
  · cases hk
  · cases hk
    exact ⟨hb, (Array.getElem?_eq_some_iff.1 hg).1, _, hg⟩
theorem OwnW.chg {w w' : World} {B : Nat} {v : Value} {L : List Rw} {S : Nat → Prop} (h : OwnW w B v L) (hc : Chg w w' S) (hs : ∀ k, v.ownBlock = some k → ¬ S k) : OwnW w' B v L := by
  refine ⟨h.1, ?_⟩
  rcases h.2 with hn | ⟨g, cap, cur, rfl, hb, hgg, rest⟩
  · exact .inl hn
  · exact .inr ⟨g, cap, cur, rfl, hb, (hc.block g (Array.getElem?_eq_some_iff.1 hgg).1 (hs g rfl)).trans hgg, rest⟩
theorem OwnW.below {w w' : World} {B : Nat} {v : Value} {L : List Rw} (h : OwnW w B v L) (hb : Below w.heap.size w w') : OwnW w' B v L := h.chg (Chg.ofBelow hb (fun _ => False)) (fun _ _ f => f)
/-- where a row lies -/
theorem OwnW.at_ {w : World} {B : Nat} {v : Value} {L : List Rw} (h : OwnW w B v L) : ∃ A c, v = .slice A L.length c ∧ L.length ≤ c ∧ c ≤ maxLen ∧ ∀ j (hj : j < L.length), ∃ g, A = some ⟨g, 0, none⟩ ∧ v.ownBlock = some g ∧ (∀ i, i < 6 → w.cell? ⟨g, j * 6 + i, none⟩ = (rwA L[j])[i]?) ∧ (∀ o, w.frozen? ⟨g, o, none⟩ = false) := by
  rcases h.2 with ⟨rfl, hn⟩ | ⟨g, cap, cur, rfl, hb, hg, hc, hm, hs, ht⟩
  · have : L = [] := List.length_eq_zero_iff.1 hn
    subst this
    exact ⟨none, 0, rfl, Nat.le_refl _, Nat.zero_le _, fun j hj => by simp at hj⟩
  · refine ⟨some ⟨g, 0, none⟩, cap, rfl, hc, hm, fun j hj => ⟨g, rfl, rfl, fun i hi => ?_, fun o => frozen_of_row _ _ _ _ _ hg⟩⟩
    rw [cell_of_row _ _ _ _ _ _ hg, ← rwL_at L j i hj hi, ← ht, List.getElem?_take_of_lt (by omega)]
    simp
/-- a field of a row is stored -/
theorem OwnW.fld {w : World} {B : Nat} {v : Value} {L : List Rw} (h : OwnW w B v L) {g : Nat} (hv : v.ownBlock = some g) {i : Nat} (hi : i < L.length) (f : Nat) (u : Value) (y : Rw) (hf : f < 6) (hy : (rwA y).toList = (rwA L[i]).toList.set f u) :
    OwnW (w.setCell ⟨g, i * 6 + f, none⟩ u) B v (L.set i y) ∧ Chg w (w.setCell ⟨g, i * 6 + f, none⟩ u) (fun k => v.ownBlock = some k) := by
  rcases h.2 with ⟨rfl, hn⟩ | ⟨g', cap, cur, rfl, hb, hg, hc, hm, hs, ht⟩
  · cases hv
  · obtain rfl : g = g' := (Option.some.inj hv).symm
    have hset : w.setCell ⟨g, i * 6 + f, none⟩ u = w.setRow g (cur.setIfInBounds (i * 6 + f) u) := setCell_eq_setRow _ _ _ _ _ _ _ hg
    refine ⟨⟨by rw [List.length_set, rwL_len, List.length_set], .inr ⟨g, cap, _, by rw [List.length_set], hb, by rw [hset]; exact setRow_heap _ _ _ _ _ _ hg, by rw [List.length_set]; exact hc, hm, by simpa using hs, ?_⟩⟩, ⟨rfl, rfl, rfl, by simp, fun k _ hk => ?_⟩⟩
    · rw [List.length_set, ← rwL_set L i f u y hi hf hy, ← ht, Array.toList_setIfInBounds, List.take_set]
    · rw [hset]
      exact setRow_other _ _ _ _ (fun e => hk (by rw [e]; rfl))
/-- a whole row is stored -/
theorem OwnW.whole {w : World} {B : Nat} {v : Value} {L : List Rw} (h : OwnW w B v L) {g : Nat} (hv : v.ownBlock = some g) {i : Nat} (hi : i < L.length) (y : Rw) :
    OwnW (w.setCells g (i * 6) (rwA y).toList) B v (L.set i y) ∧ Chg w (w.setCells g (i * 6) (rwA y).toList) (fun k => v.ownBlock = some k) ∧ w.there g (i * 6) 6 := by
  rcases h.2 with ⟨rfl, hn⟩ | ⟨g', cap, cur, rfl, hb, hg, hc, hm, hs, ht⟩
  · cases hv
  · obtain rfl : g = g' := (Option.some.inj hv).symm
    have hcl : cur.toList.length = cap * 6 := by simpa using hs
    have hset : w.setCells g (i * 6) (rwA y).toList = w.setRow g (spV cur.toList (i * 6) (rwA y).toList).toArray := setCells_spV _ _ cur.toList w hg (by rw [rwA_len, hcl]; omega)
    refine ⟨⟨by rw [List.length_set, rwL_len, List.length_set], .inr ⟨g, cap, _, by rw [List.length_set], hb, by rw [hset]; exact setRow_heap _ _ _ _ _ _ hg, by rw [List.length_set]; exact hc, hm, ?_, ?_⟩⟩, ⟨?_, ?_, ?_, ?_, fun k _ hk => ?_⟩, fun k hk => ⟨?_, frozen_of_row _ _ _ _ _ hg⟩⟩
    · have := spV_len (L := cur.toList) (o := i * 6) (vs := (rwA y).toList) (by rw [rwA_len, hcl]; omega)
      simpa [hcl] using this
    · rw [List.length_set, rwL_split L i hi y, ← ht]
      unfold spV
      rw [rwA_len]
      show List.take (L.length * 6) (cur.toList.take (i * 6) ++ (rwA y).toList ++ cur.toList.drop (i * 6 + 6)) = _
      rw [List.take_take, Nat.min_eq_left (by omega), List.drop_take, List.take_append, List.take_of_length_le (by rw [List.length_append, List.length_take, rwA_len]; omega)]
      congr 2
      rw [List.length_append, List.length_take, rwA_len]
      omega
    · rw [hset]; rfl
    · rw [hset]; rfl
    · rw [hset]; rfl
    · rw [hset]; simp
    · rw [hset]
      exact setRow_other _ _ _ _ (fun e => hk (by rw [e]; rfl))
    · rw [cell_of_row _ _ _ _ _ _ hg]
      have : i * 6 + k < cur.size := by rw [hs]; omega
      simp [this]
/-- append of one row -/
theorem appendW (w : World) (B : Nat) (v : Value) (L : List Rw) (h : OwnW w B v L) (hB : B ≤ w.heap.size) (b : Nat) (x : Rw) (hs : Bx w b 106 (rwA x)) (hn : L.length ≤ 1073741824) :
    ∃ v' w', (Builtin.append_ #[75, 75] 75 #[v, .slice (some ⟨b, 0, none⟩) 1 1]).run Tryd.prog w = .ok v' w' ∧ OwnW w' B v' (L ++ [x]) ∧ w.grownBy w' v.ownBlock ∧ (v'.ownBlock = v.ownBlock ∨ v'.ownBlock = some w.heap.size) := by
  obtain ⟨i5, hi, hz0, hz1, hz2⟩ := info_parts infoRw
  obtain ⟨v', w', h1, h2, h3, _, h5⟩ := run_append_own_at (P := Tryd.prog) w B 75 75 106 i5 _ 6 48 Tryd.underlying75 hi hz0 hz1 hz2 rfl (by omega) v L.length (rwL L) h ⟨b, 0, none⟩ 1 1 (rwL [x]) rfl (fun j u hj => by
    rw [addr_add0, hs.cell]
    have e : (rwL [x])[j]? = (rwA x)[j]? := by rw [rwL_one]; simp
    rw [← e]
    exact hj) (rwL_cell _) (by unfold maxLen; omega) (by omega) hB
  refine ⟨v', w', h1, ?_, h3, h5⟩
  unfold OwnW
  rw [rwL_append, List.length_append]
  exact h2
/-- block Q is the reference's space: its rows -/
structure Rf (w : World) (B Q : Nat) (u : Value) (L : List Rw) : Prop where
  hQ : B ≤ Q
  row : w.heap[Q]? = some (.cells #[u] 77 (0, 0))
  own : OwnW w B u L
  len : L.length ≤ 1073741824
theorem Rf.ne {w : World} {B Q : Nat} {u : Value} {L : List Rw} (h : Rf w B Q u L) : u.ownBlock ≠ some Q := fun e => by
  obtain ⟨_, _, C, hC⟩ := h.own.row Q e
  rw [h.row] at hC
  injection hC with hC
  injection hC with _ h2 _
  exact absurd h2 (by decide)
theorem Rf.chg {w w' : World} {B Q : Nat} {u : Value} {L : List Rw} {S : Nat → Prop} (h : Rf w B Q u L) (hc : Chg w w' S) (h1 : ¬ S Q) (h2 : ∀ k, u.ownBlock = some k → ¬ S k) : Rf w' B Q u L :=
  ⟨h.hQ, (hc.block Q (Array.getElem?_eq_some_iff.1 h.row).1 h1).trans h.row, h.own.chg hc h2, h.len⟩
theorem Rf.below {w w' : World} {B Q : Nat} {u : Value} {L : List Rw} (h : Rf w B Q u L) (hb : Below w.heap.size w w') : Rf w' B Q u L := h.chg (Chg.ofBelow hb (fun _ => False)) (fun f => f) (fun _ _ f => f)
theorem Rf.cell {w : World} {B Q : Nat} {u : Value} {L : List Rw} (h : Rf w B Q u L) : w.cell? ⟨Q, 0, none⟩ = some u ∧ w.frozen? ⟨Q, 0, none⟩ = false := ⟨by rw [cell_of_row _ _ _ _ _ _ h.row]; rfl, frozen_of_row _ _ _ _ _ h.row⟩
/-- the blocks that a reference's call may turn -/
def RfS (Q : Nat) (u : Value) : Nat → Prop := fun j => j = Q ∨ u.ownBlock = some j
theorem Rf.fld {w : World} {B Q : Nat} {u : Value} {L : List Rw} (h : Rf w B Q u L) {g : Nat} (hv : u.ownBlock = some g) {i : Nat} (hi : i < L.length) (f : Nat) (x : Value) (y : Rw) (hf : f < 6) (hy : (rwA y).toList = (rwA L[i]).toList.set f x) :
    Rf (w.setCell ⟨g, i * 6 + f, none⟩ x) B Q u (L.set i y) ∧ Chg w (w.setCell ⟨g, i * 6 + f, none⟩ x) (RfS Q u) := by
  obtain ⟨h1, h2⟩ := h.own.fld hv hi f x y hf hy
  refine ⟨⟨h.hQ, (h2.block Q (Array.getElem?_eq_some_iff.1 h.row).1 h.ne).trans h.row, h1, by rw [List.length_set]; exact h.len⟩, h2.mono (fun k _ hk => .inr hk)⟩
theorem Rf.whole {w : World} {B Q : Nat} {u : Value} {L : List Rw} (h : Rf w B Q u L) {g : Nat} (hv : u.ownBlock = some g) {i : Nat} (hi : i < L.length) (y : Rw) :
    Rf (w.setCells g (i * 6) (rwA y).toList) B Q u (L.set i y) ∧ Chg w (w.setCells g (i * 6) (rwA y).toList) (RfS Q u) ∧ w.there g (i * 6) 6 := by
  obtain ⟨h1, h2, h3⟩ := h.own.whole hv hi y
  exact ⟨⟨h.hQ, (h2.block Q (Array.getElem?_eq_some_iff.1 h.row).1 h.ne).trans h.row, h1, by rw [List.length_set]; exact h.len⟩, h2.mono (fun k _ hk => .inr hk), h3⟩
/-- where the rows lie -/
theorem Rf.at_ {w : World} {B Q : Nat} {u : Value} {f : Nat → Rw} {r : Nat} (h : Rf w B Q u (rowsF f r)) : ∃ A c, u = .slice A r c ∧ r ≤ c ∧ c ≤ maxLen ∧ r ≤ 1073741824 ∧ w.cell? ⟨Q, 0, none⟩ = some (.slice A r c) ∧ w.frozen? ⟨Q, 0, none⟩ = false ∧ ∀ j, j < r → ∃ g, A = some ⟨g, 0, none⟩ ∧ u.ownBlock = some g ∧ (∀ i, i < 6 → w.cell? ⟨g, j * 6 + i, none⟩ = (rwA (f j))[i]?) ∧ (∀ o, w.frozen? ⟨g, o, none⟩ = false) := by
  obtain ⟨A, c, hu, h1, h2, h3⟩ := h.own.at_
  have hl := h.len
  have hq := h.cell
  rw [hu] at hq
  rw [rowsF_len] at hu h1 hl hq
  refine ⟨A, c, hu, h1, h2, hl, hq.1, hq.2, fun j hj => ?_⟩
  obtain ⟨g, a1, a2, a3, a4⟩ := h3 j (by rw [rowsF_len]; exact hj)
  rw [rowsF_at] at a3
  exact ⟨g, a1, a2, a3, a4⟩
end Go.Proofs.YtgkamdgegfioiaaDoor
