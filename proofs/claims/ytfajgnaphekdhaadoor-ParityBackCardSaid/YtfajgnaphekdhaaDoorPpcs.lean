/- The walk of pieces: the texts as slices of bytes, and others that are lent; each in a row of its own. -/
import Derived.Test.YtfajgnaphekdhaaDoorPowl
namespace Go.Proofs.YtfajgnaphekdhaaDoor
open Go.RowKit
set_option linter.unusedSimpArgs false
set_option linter.unusedVariables false
/-- the slice value (A, n, _) of strings reads as the texts -/
def RdS (w : World) (A : Option Addr) (ls : List (List UInt8)) : Prop := ∀ j (hj : j < ls.length), ∃ ad, A = some ad ∧ w.cell? (ad.add j) = some (.string ⟨ls[j].toArray⟩)
theorem RdS.below {w w' : World} {A : Option Addr} {ls : List (List UInt8)} (h : RdS w A ls) (hb : Below w.heap.size w w') : RdS w' A ls := fun j hj => by
  obtain ⟨ad, h1, h2⟩ := h j hj
  refine ⟨ad, h1, ?_⟩
  rw [hb.cell (by
    show (ad.add j).block < w.heap.size
    rcases Nat.lt_or_ge (ad.add j).block w.heap.size with h' | h'
    · exact h'
    · simp [World.cell?, Array.getElem?_eq_none h'] at h2)]
  exact h2
/-- an append of one value to a slice of slices of the call's own -/
theorem own_pushV {w : World} {B : Nat} {v x : Value} {n : Nat} {vals : List Value} (hown0 : w.ownsRow B 33 1 v n vals) (hx : x.oneCell' = true) (hB : B ≤ w.heap.size) (hl : n ≤ 1000) :
    ∃ v' W', (Builtin.append_ #[23, 23] 23 #[v, .slice (some ⟨w.heap.size, 0, none⟩) 1 1]).run Tryd.prog (w.alloc (.cells #[x] 33)) = .ok v' W' ∧ W'.ownsRow B 33 1 v' (n + 1) (vals ++ [x]) ∧ w.grownBy W' v.ownBlock := by
  obtain ⟨iS, hi, hz0, hz1, hz2⟩ := info_parts infoS3
  have hown : (w.alloc (.cells #[x] 33)).ownsRow B 33 1 v n vals := World.ownsRow.alloc hown0 _
  obtain ⟨v', w', r1, r2, r3, _⟩ := run_append_own (P := Tryd.prog) (w.alloc (.cells #[x] 33)) B 23 23 33 iS _ 1 24 Tryd.underlying23 hi hz0 hz1 hz2 rfl (by omega) v n vals hown ⟨w.heap.size, 0, none⟩ 1 1 [x] rfl (fun j u hu => by
    match j, hu with
    | 0, hu => cases hu; rw [addr_add0, cell_of_row _ _ _ _ _ _ (heap_alloc_new w _)]; rfl) (fun u hu => by simp at hu; subst hu; exact hx) (by unfold maxLen; omega) (by omega) (by simp; omega)
  refine ⟨v', w', r1, r2, r3.os, r3.tape, r3.output, Nat.le_trans (by simp) r3.size, fun k hk hne => ?_⟩
  rw [r3.block k (by simp; omega) hne, Below.heap_alloc _ _ _ hk]
def blk : Value → Nat
  | .slice (some a) _ _ => a.block
  | _ => 0
/-- a slice that is lent -/
def LentEl (w : World) (v : Value) (bs : List UInt8) : Prop := ∃ g, v = .slice (some ⟨g, 0, none⟩) bs.length (bs.length + 9) ∧ w.heap[g]? = some (.cells (bArr (lentL bs 9)) 5 (0, 0))
theorem El.lt {w : World} {v : Value} {bs : List UInt8} (h : El w v bs) : blk v < w.heap.size := by
  obtain ⟨g, cap, cur, fr, rfl, h2, _⟩ := h
  exact (Array.getElem?_eq_some_iff.1 h2).1
theorem LentEl.lt {w : World} {v : Value} {bs : List UInt8} (h : LentEl w v bs) : blk v < w.heap.size := by
  obtain ⟨g, rfl, h2⟩ := h
  exact (Array.getElem?_eq_some_iff.1 h2).1
theorem El.at_ {w w' : World} {v : Value} {bs : List UInt8} (h : El w v bs) (hb : w'.heap[blk v]? = w.heap[blk v]?) : El w' v bs := by
  obtain ⟨g, cap, cur, fr, rfl, h2, h3, h4⟩ := h
  exact ⟨g, cap, cur, fr, rfl, by rw [← h2]; exact hb, h3.same hb, h4⟩
theorem LentEl.at_ {w w' : World} {v : Value} {bs : List UInt8} (h : LentEl w v bs) (hb : w'.heap[blk v]? = w.heap[blk v]?) : LentEl w' v bs := by
  obtain ⟨g, rfl, h2⟩ := h
  exact ⟨g, rfl, by rw [← h2]; exact hb⟩
theorem El.row {w : World} {v : Value} {bs : List UInt8} (h : El w v bs) : ∃ cur fr, w.heap[blk v]? = some (.cells cur 5 fr) := by
  obtain ⟨g, cap, cur, fr, rfl, h2, h3, h4⟩ := h
  exact ⟨cur, fr, h2⟩
theorem LentEl.row {w : World} {v : Value} {bs : List UInt8} (h : LentEl w v bs) : ∃ cur fr, w.heap[blk v]? = some (.cells cur 5 fr) := by
  obtain ⟨g, rfl, h2⟩ := h
  exact ⟨_, _, h2⟩
theorem owns_row {w : World} {B n : Nat} {v : Value} {vals : List Value} (h : w.ownsRow B 33 1 v n vals) : ∀ k, v.ownBlock = some k → ∃ C fr, w.heap[k]? = some (.cells C 33 fr) := by
  intro k hk
  rcases h.2 with ⟨rfl, _⟩ | ⟨g, cap, cur, rfl, _, hc, _⟩
  · cases hk
  · cases hk
    exact ⟨cur, _, hc⟩
/-- a row of bytes is not the row of an own slice of slices -/
theorem not_row {w : World} {B n : Nat} {v : Value} {vals : List Value} (h : w.ownsRow B 33 1 v n vals) {g : Nat} (hg : ∃ cur fr, w.heap[g]? = some (.cells cur 5 fr)) : some g ≠ v.ownBlock := fun e => by
  obtain ⟨cur, fr, hg⟩ := hg
  obtain ⟨C, fr2, hk⟩ := owns_row h g e.symm
  rw [hg] at hk
  injection hk with hk
  injection hk with _ h5 _
  exact absurd h5 (by decide)
/-- two slices of slices of the call's own under way: the one reads as la (elements in rows of bytes), the other as lb (its elements lent, each in a row that no other element has) -/
structure PcV (w wr : World) (va vb : Value) (la lb : List (List UInt8)) (xa xb : List Value) : Prop where
  below : Below w.heap.size w wr
  ownA : wr.ownsRow w.heap.size 33 1 va la.length xa
  ownB : wr.ownsRow w.heap.size 33 1 vb lb.length xb
  lenA : xa.length = la.length
  lenB : xb.length = lb.length
  elA : ∀ j (h1 : j < xa.length) (h2 : j < la.length), El wr xa[j] la[j]
  elB : ∀ j (h1 : j < xb.length) (h2 : j < lb.length), LentEl wr xb[j] lb[j]
  ge : ∀ x ∈ xa ++ xb, w.heap.size ≤ blk x
  nd : (xb.map blk).Nodup
  ab : ∀ x ∈ xa, ∀ y ∈ xb, blk x ≠ blk y
  noB : lb = [] → vb = .slice none 0 0
  le : lb.length ≤ la.length
theorem PcV.nil (w : World) : PcV w w (.slice none 0 0) (.slice none 0 0) [] [] [] [] :=
  ⟨Below.refl _ _, World.ownsRow_nil _ _ _ _, World.ownsRow_nil _ _ _ _, rfl, rfl, fun j h => by simp at h, fun j h => by simp at h, fun x h => by simp at h, by simp, fun x h => by simp at h, fun _ => rfl, Nat.le_refl _⟩
theorem PcV.lt {w wr : World} {va vb : Value} {la lb : List (List UInt8)} {xa xb : List Value} (h : PcV w wr va vb la lb xa xb) : ∀ x ∈ xa ++ xb, blk x < wr.heap.size := by
  intro x hx
  rcases List.mem_append.1 hx with hx | hx
  · obtain ⟨j, hj, rfl⟩ := List.getElem_of_mem hx
    exact (h.elA j hj (by have := h.lenA; omega)).lt
  · obtain ⟨j, hj, rfl⟩ := List.getElem_of_mem hx
    exact (h.elB j hj (by have := h.lenB; omega)).lt
theorem PcV.keep {w wr w2 : World} {va vb : Value} {la lb : List (List UInt8)} {xa xb : List Value} (h : PcV w wr va vb la lb xa xb) (hb : Below wr.heap.size wr w2) : PcV w w2 va vb la lb xa xb := by
  have hg : wr.grownBy w2 none := ⟨hb.os, hb.tape, hb.output, hb.size, fun k hk _ => hb.block k hk⟩
  exact ⟨h.below.trans (hb.mono h.below.size), h.ownA.kept hg (by cases va.ownBlock <;> simp), h.ownB.kept hg (by cases vb.ownBlock <;> simp), h.lenA, h.lenB,
    fun j a b => (h.elA j a b).at_ (hb.block _ (h.elA j a b).lt), fun j a b => (h.elB j a b).at_ (hb.block _ (h.elB j a b).lt), h.ge, h.nd, h.ab, h.noB, h.le⟩
theorem own_head {w : World} {B n : Nat} {v : Value} {vals : List Value} (h : w.ownsRow B 33 1 v n vals) {g : Nat} (hg : v.ownBlock = some g) {x : Value} (hx : vals[0]? = some x) : w.cell? ⟨g, 0, none⟩ = some x := by
  have := h.cells hg 0 x hx
  rwa [addr_add0] at this
theorem PcV.apart {w wr : World} {va vb : Value} {la lb : List (List UInt8)} {xa xb : List Value} (h : PcV w wr va vb la lb xa xb) : vb.ownBlock = none ∨ vb.ownBlock ≠ va.ownBlock := by
  by_cases hb : lb = []
  · rw [h.noB hb]
    exact .inl rfl
  · cases hv : vb.ownBlock with
    | none => exact .inl rfl
    | some g =>
      refine .inr fun e => ?_
      have hbl : 0 < lb.length := List.length_pos_iff.2 hb
      have l1 := h.lenA
      have l2 := h.lenB
      have l3 := h.le
      have c1 := own_head h.ownA e.symm (List.getElem?_eq_getElem (show 0 < xa.length by omega))
      have c2 := own_head h.ownB hv (List.getElem?_eq_getElem (show 0 < xb.length by omega))
      rw [c1] at c2
      injection c2 with c2
      exact h.ab _ (List.getElem_mem (show 0 < xa.length by omega)) _ (List.getElem_mem (show 0 < xb.length by omega)) (congrArg blk c2)
theorem PcV.pushA {w wr W' : World} {va vb v' x : Value} {la lb : List (List UInt8)} {xa xb : List Value} {b : List UInt8} (h : PcV w wr va vb la lb xa xb) (hx : El wr x b) (hge : w.heap.size ≤ blk x) (hxf : ∀ y ∈ xb, blk x ≠ blk y)
    (ho : W'.ownsRow w.heap.size 33 1 v' (la.length + 1) (xa ++ [x])) (hg : wr.grownBy W' va.ownBlock) : PcV w W' v' vb (la ++ [b]) lb (xa ++ [x]) xb where
  below := h.below.grown hg h.below.size fun k e => (World.ownsRow.lt h.ownA k e).1
  ownA := by rw [List.length_append]; exact ho
  ownB := h.ownB.kept hg h.apart
  lenA := by simp [h.lenA]
  lenB := h.lenB
  elA := fun j a1 a2 => by
    have hk : ∀ y bs, El wr y bs → El W' y bs := fun y bs he => he.at_ (hg.block _ he.lt (not_row h.ownA he.row))
    have l1 := h.lenA
    by_cases hj : j < la.length
    · rw [List.getElem_append_left (by omega), List.getElem_append_left hj]
      exact hk _ _ (h.elA j (by omega) hj)
    · have hj2 : j = la.length := by simp at a2; omega
      subst hj2
      rw [List.getElem_append_right (by omega), List.getElem_append_right (by omega)]
      simpa [l1] using hk _ _ hx
  elB := fun j a1 a2 => (h.elB j a1 a2).at_ (hg.block _ (h.elB j a1 a2).lt (not_row h.ownA (h.elB j a1 a2).row))
  ge := fun y hy => by
    simp only [List.mem_append, List.mem_singleton] at hy
    rcases hy with (hy | rfl) | hy
    · exact h.ge y (by simp [hy])
    · exact hge
    · exact h.ge y (by simp [hy])
  nd := h.nd
  ab := fun y hy z hz => by
    simp only [List.mem_append, List.mem_singleton] at hy
    rcases hy with hy | rfl
    · exact h.ab y hy z hz
    · exact hxf z hz
  noB := h.noB
  le := by have := h.le; simp; omega
theorem PcV.pushB {w wr W' : World} {va vb v' x : Value} {la lb : List (List UInt8)} {xa xb : List Value} {b : List UInt8} (h : PcV w wr va vb la lb xa xb) (hx : LentEl wr x b) (hge : w.heap.size ≤ blk x) (hxf : ∀ y ∈ xa ++ xb, blk y ≠ blk x)
    (ho : W'.ownsRow w.heap.size 33 1 v' (lb.length + 1) (xb ++ [x])) (hg : wr.grownBy W' vb.ownBlock) (hlt : lb.length < la.length) : PcV w W' va v' la (lb ++ [b]) xa (xb ++ [x]) where
  below := h.below.grown hg h.below.size fun k e => (World.ownsRow.lt h.ownB k e).1
  ownB := by rw [List.length_append]; exact ho
  ownA := h.ownA.kept hg (by
    rcases h.apart with e | e
    · rw [e]; cases va.ownBlock <;> simp
    · exact .inr fun e2 => e e2.symm)
  lenA := h.lenA
  lenB := by simp [h.lenB]
  elB := fun j a1 a2 => by
    have hk : ∀ y bs, LentEl wr y bs → LentEl W' y bs := fun y bs he => he.at_ (hg.block _ he.lt (not_row h.ownB he.row))
    have l1 := h.lenB
    by_cases hj : j < lb.length
    · rw [List.getElem_append_left (by omega), List.getElem_append_left hj]
      exact hk _ _ (h.elB j (by omega) hj)
    · have hj2 : j = lb.length := by simp at a2; omega
      subst hj2
      rw [List.getElem_append_right (by omega), List.getElem_append_right (by omega)]
      simpa [l1] using hk _ _ hx
  elA := fun j a1 a2 => (h.elA j a1 a2).at_ (hg.block _ (h.elA j a1 a2).lt (not_row h.ownB (h.elA j a1 a2).row))
  ge := fun y hy => by
    simp only [List.mem_append, List.mem_singleton] at hy
    rcases hy with hy | hy | rfl
    · exact h.ge y (by simp [hy])
    · exact h.ge y (by simp [hy])
    · exact hge
  nd := by
    rw [List.map_append, List.nodup_append]
    refine ⟨h.nd, by simp, fun p hp q hq => ?_⟩
    simp only [List.map_cons, List.map_nil, List.mem_singleton] at hq
    subst hq
    obtain ⟨y, hy, rfl⟩ := List.mem_map.1 hp
    exact hxf y (by simp [hy])
  ab := fun y hy z hz => by
    simp only [List.mem_append, List.mem_singleton] at hz
    rcases hz with hz | rfl
    · exact h.ab y hy z hz
    · exact hxf y (by simp [hy])
  noB := fun e => by simp at e
  le := by simp; omega
end Go.Proofs.YtfajgnaphekdhaaDoor
