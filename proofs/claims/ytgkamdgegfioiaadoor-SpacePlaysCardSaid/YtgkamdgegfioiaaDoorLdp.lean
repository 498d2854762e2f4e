/- What space.Load's loop keeps: plain words and memory. No walk. -/
import Derived.Test.YtgkamdgegfioiaaDoorLd
namespace Go.Proofs.YtgkamdgegfioiaaDoor
open Go.RowKit Go.Shelf
set_option linter.unusedSimpArgs false
set_option linter.unusedVariables false
def endS : Nat → List Pc → Nat
  | a, [] => a
  | _, p :: ps => endS p.fin ps
theorem endS_snoc : ∀ (ps : List Pc) (a : Nat) (p : Pc), endS a (ps ++ [p]) = p.fin
  | [], _, _ => rfl
  | q :: ps, _, p => endS_snoc ps q.fin p
theorem wf_snoc {r : Nat} {p : Pc} : ∀ (ps : List Pc) (a : Nat), Wf r a ps → endS a ps ≤ p.at_ → 1 ≤ p.n → p.cnt ≤ 65535 → p.tag < 18446744073709551616 → p.fin ≤ r → Wf r a (ps ++ [p])
  | [], a, _, h1, h2, h3, h4, h5 => ⟨h1, h2, h3, h4, h5⟩
  | q :: ps, a, h, h1, h2, h3, h4, h5 => ⟨h.1, h.2.1, h.2.2.1, h.2.2.2.1, wf_snoc ps q.fin h.2.2.2.2 h1 h2 h3 h4 h5⟩
def badP (r a : Nat) (p : Pc) : Prop := p.at_ < a ∨ p.n < 1 ∨ p.cnt = 0 ∨ r < p.fin
instance (r a : Nat) (p : Pc) : Decidable (badP r a p) := by unfold badP; infer_instance
def loadL (r : Nat) : Nat → List (List UInt8) → Option (List Pc)
  | _, [] => some []
  | a, c :: cs => if badP r a (decP c) then none else (loadL r (decP c).fin cs).map (fun l => decP c :: l)
theorem loadL_append (r : Nat) : ∀ (xs : List (List UInt8)) (a : Nat) (ys : List (List UInt8)), loadL r a (xs ++ ys) = match loadL r a xs with
    | none => none
    | some ps => (loadL r (endS a ps) ys).map (fun l => ps ++ l)
  | [], a, ys => by simp [loadL, endS]
  | c :: xs, a, ys => by
    simp only [List.cons_append, loadL]
    split
    · rfl
    · rw [loadL_append r xs (decP c).fin ys]
      cases loadL r (decP c).fin xs with
      | none => rfl
      | some ps =>
        simp only [Option.map_some, endS, Option.map_map]
        rfl
theorem loadL_snoc {r : Nat} {xs : List (List UInt8)} {ps : List Pc} {c : List UInt8} (h : loadL r 0 xs = some ps) : loadL r 0 (xs ++ [c]) = if badP r (endS 0 ps) (decP c) then none else some (ps ++ [decP c]) := by
  rw [loadL_append, h]
  simp only [loadL]
  split <;> rfl
def chunkAt (bs : List UInt8) (k : Nat) : List UInt8 := (bs.drop (18 * k)).take 18
theorem loadL_range (r : Nat) : ∀ (K a : Nat) (bs : List UInt8), loadL r a ((List.range K).map (chunkAt bs)) = loadF r a K bs
  | 0, _, _ => rfl
  | K + 1, a, bs => by
    have ih := loadL_range r K (decP (bs.take 18)).fin (bs.drop 18)
    have e : (List.range (K + 1)).map (chunkAt bs) = bs.take 18 :: (List.range K).map (chunkAt (bs.drop 18)) := by
      rw [List.range_succ_eq_map, List.map_cons, List.map_map]
      congr 1
      apply List.map_congr_left
      intro k _
      simp only [Function.comp, chunkAt, List.drop_drop]
      rw [show 18 * (k + 1) = 18 + 18 * k by omega]
    rw [e]
    simp only [loadL, loadF, ih]
    rfl
theorem loadL_none {r a K j : Nat} {bs : List UInt8} (hj : j ≤ K) (h : loadL r a ((List.range j).map (chunkAt bs)) = none) : loadF r a K bs = none := by
  rw [← loadL_range]
  have e : (List.range K).map (chunkAt bs) = (List.range j).map (chunkAt bs) ++ ((List.range K).map (chunkAt bs)).drop j := by
    have h1 : ((List.range K).map (chunkAt bs)).take j = (List.range j).map (chunkAt bs) := by
      rw [← List.map_take, List.take_range, Nat.min_eq_left hj]
    rw [← h1, List.take_append_drop]
  rw [e, loadL_append, h]
/-- the loop's state -/
structure Ldi (w0 W : World) (b2 b3 b4 b6 Bs R r at_ : Nat) (v : Value) (ps : List Pc) (A' : Option Addr) (L c' : Nat) : Prop where
  below : Below w0.heap.size w0 W
  h2 : w0.heap.size ≤ b2
  h3 : w0.heap.size ≤ b3
  h6 : w0.heap.size ≤ b6
  ne24 : b2 ≠ b4
  ne6B : b6 ≠ Bs + 1
  r2 : Bx W b2 24 #[.pointer none]
  r3 : Bx W b3 62 #[.nilIface]
  r4 : Bx W b4 24 #[.pointer (some ⟨R, 0, none⟩)]
  r6 : Bx W b6 3 #[.int .i64 (at_ : Int)]
  rB : Bx W Bs 22 #[.slice A' L c']
  rC : Bx W (Bs + 1) 3 #[.int .i64 18]
  sp : Sp W w0.heap.size R v r ps
theorem Bx.grown {W W' : World} {k : Nat} {t : TypeId} {C : Array Value} {row : Option Nat} (h : Bx W k t C) (hg : W.grownBy W' row) (hr : ∀ q, row = some q → ∃ o : Obj, W.heap[q]? = some o ∧ o.isCells = false) : Bx W' k t C := by
  refine (hg.block k h.lt (fun e => ?_)).trans h
  obtain ⟨o, ho, hoc⟩ := hr k e.symm
  rw [show W.heap[k]? = _ from h] at ho
  cases ho
  cases hoc
theorem Ldi.grown {w0 W W' : World} {b2 b3 b4 b6 Bs R r at_ : Nat} {v : Value} {ps : List Pc} {A' : Option Addr} {L c' : Nat} {row : Option Nat} (h : Ldi w0 W b2 b3 b4 b6 Bs R r at_ v ps A' L c') (hg : W.grownBy W' row) (hr : ∀ q, row = some q → w0.heap.size ≤ q ∧ ∃ o : Obj, W.heap[q]? = some o ∧ o.isCells = false) : Ldi w0 W' b2 b3 b4 b6 Bs R r at_ v ps A' L c' := by
  have hr2 := fun q e => (hr q e).2
  refine ⟨h.below.grown hg h.below.size (fun k e => (hr k e).1), h.h2, h.h3, h.h6, h.ne24, h.ne6B, h.r2.grown hg hr2, h.r3.grown hg hr2, h.r4.grown hg hr2, h.r6.grown hg hr2, h.rB.grown hg hr2, h.rC.grown hg hr2, ?_⟩
  refine h.sp.kept (S := fun k => row = some k) (Chg.ofGrown hg) (fun e => ?_) (fun k hk e => ?_)
  · obtain ⟨o, ho, hoc⟩ := hr2 R e
    rw [h.sp.row] at ho
    cases ho
    cases hoc
  · obtain ⟨_, _, C, hC⟩ := h.sp.own.row k hk
    obtain ⟨o, ho, hoc⟩ := hr2 k e
    rw [hC] at ho
    cases ho
    cases hoc
theorem Ldi.owned {w0 : World} {b2 b3 b4 b6 Bs R r at_ B : Nat} {v : Value} {ps : List Pc} {A' : Option Addr} {L c' : Nat} (hB : w0.heap.size ≤ B) {W W' : World} {row : Option Nat} (h : Ldi w0 W b2 b3 b4 b6 Bs R r at_ v ps A' L c') (hg : W.grownBy W' row) (hr : ∀ q, row = some q → B ≤ q ∧ ∃ o : Obj, W.heap[q]? = some o ∧ o.isCells = false) : Ldi w0 W' b2 b3 b4 b6 Bs R r at_ v ps A' L c' :=
  h.grown hg (fun q e => by obtain ⟨a, b⟩ := hr q e; exact ⟨by omega, b⟩)
theorem Ldi.alloc {w0 W : World} {b2 b3 b4 b6 Bs R r at_ : Nat} {v : Value} {ps : List Pc} {A' : Option Addr} {L c' : Nat} (h : Ldi w0 W b2 b3 b4 b6 Bs R r at_ v ps A' L c') (o : Obj) : Ldi w0 (W.alloc o) b2 b3 b4 b6 Bs R r at_ v ps A' L c' := h.grown (row := none) (World.grownBy_alloc W o none) (fun q e => by cases e)
theorem Ldi.drew {w0 W : World} {b2 b3 b4 b6 Bs R r at_ : Nat} {v : Value} {ps : List Pc} {A' : Option Addr} {L c' : Nat} (h : Ldi w0 W b2 b3 b4 b6 Bs R r at_ v ps A' L c') : Ldi w0 W.drew b2 b3 b4 b6 Bs R r at_ v ps A' L c' := h.grown (row := none) ⟨rfl, rfl, rfl, Nat.le_refl _, fun _ _ _ => rfl⟩ (fun q e => by cases e)
/-- what a round keeps -/
def LdK (n₀ Bs K : Nat) (W W' : World) : Prop := KeepsFrom K W W' ∧ KpC n₀ Bs W W'
theorem LdK.refl (n₀ Bs K : Nat) (W : World) : LdK n₀ Bs K W W := ⟨KeepsFrom.refl _ _, KpC.refl _ _ _⟩
theorem LdK.trans {n₀ Bs K : Nat} {X Y Z : World} (h : LdK n₀ Bs K X Y) (k : LdK n₀ Bs K Y Z) : LdK n₀ Bs K X Z := ⟨h.1.trans k.1, h.2.trans k.2⟩
theorem LdK.drewR {n₀ Bs K : Nat} (W : World) : LdK n₀ Bs K W W.drew := ⟨(KeepsOthers.drew W).from K, (Below.refl _ _).drew, rfl, rfl⟩
theorem LdK.allocR {n₀ Bs K : Nat} (W : World) (o : Obj) (hn : n₀ ≤ W.heap.size) (hB : Bs + 1 < W.heap.size) : LdK n₀ Bs K W (W.alloc o) := ⟨(KeepsOthers.alloc W o).from K, (Below.refl _ _).alloc hn _, Below.heap_alloc _ _ _ (by omega), Below.heap_alloc _ _ _ hB⟩
/-- the place is set -/
theorem Ldi.setAt {w0 W : World} {b2 b3 b4 b6 Bs R r at_ : Nat} {v : Value} {ps : List Pc} {A' : Option Addr} {L c' : Nat} (h : Ldi w0 W b2 b3 b4 b6 Bs R r at_ v ps A' L c') (q K : Nat) :
    Ldi w0 (W.setCell ⟨b6, 0, none⟩ (.int .i64 (q : Int))) b2 b3 b4 b6 Bs R r q v ps A' L c' ∧ LdK w0.heap.size Bs K W (W.setCell ⟨b6, 0, none⟩ (.int .i64 (q : Int))) := by
  have n2 := bx_ne h.r2 h.r6 (by decide)
  have n3 := bx_ne h.r3 h.r6 (by decide)
  have n4 := bx_ne h.r4 h.r6 (by decide)
  have nB := bx_ne h.rB h.r6 (by decide)
  have hcg := Chg.setCell W b6 0 (.int .i64 (q : Int))
  refine ⟨⟨setB h.below h.h6 0 _, h.h2, h.h3, h.h6, h.ne24, h.ne6B, h.r2.other n2 _ _, h.r3.other n3 _ _, h.r4.other n4 _ _, h.r6.set 0 _, h.rB.other nB _ _, h.rC.other (Ne.symm h.ne6B) _ _, h.sp.kept hcg (bx_ne h.sp.row h.r6 (by decide)) (fun k hk => ?_)⟩, (KeepsOthers.setCell _ _ _).from K, setB (Below.refl _ _) h.h6 0 _, (h.rB.other nB 0 (.int .i64 (q : Int))).trans h.rB.symm, (h.rC.other (Ne.symm h.ne6B) 0 (.int .i64 (q : Int))).trans h.rC.symm⟩
  obtain ⟨_, _, C, hC⟩ := h.sp.own.row k hk
  exact bx_ne hC h.r6 (by decide)
/-- a piece is appended -/
theorem Ldi.push {w0 W W2 : World} {b2 b3 b4 b6 Bs R r at_ : Nat} {v v' : Value} {ps qs : List Pc} {A' : Option Addr} {L c' : Nat} (h : Ldi w0 W b2 b3 b4 b6 Bs R r at_ v ps A' L c') (ho : OwnS W2 w0.heap.size v' qs) (hg : W.grownBy W2 (rowOf v)) (hl : Lies W v v') (hq : Wf r 0 qs) (K : Nat) :
    Ldi w0 (W2.setCell ⟨R, 1, none⟩ v') b2 b3 b4 b6 Bs R r at_ v' qs A' L c' ∧ LdK w0.heap.size Bs K W (W2.setCell ⟨R, 1, none⟩ v') ∧ W2.frozen? ⟨R, 1, none⟩ = false ∧ W2.cell? ⟨R, 1, none⟩ = some v ∧
      ∀ {k : Nat} {t : TypeId} {C : Array Value}, Bx W k t C → t ≠ 90 → t ≠ 88 → Bx W2 k t C := by
  obtain ⟨q1, q2, q3, q4⟩ := h.sp.put ho hg hl hq
  have keep : ∀ {k : Nat} {t : TypeId} {C : Array Value}, Bx W k t C → t ≠ 90 → t ≠ 88 → Bx (W2.setCell ⟨R, 1, none⟩ v') k t C := by
    intro k t C hk h1 h2
    refine (q2.block k hk.lt (fun e => ?_)).trans hk
    rcases e with e | e
    · exact bx_ne hk h.sp.row h2 e
    · obtain ⟨_, _, C', hC⟩ := h.sp.own.row k e
      exact bx_ne hk hC h1 rfl
  have hb : Below w0.heap.size W (W2.setCell ⟨R, 1, none⟩ v') := Chg.below (Below.refl _ W) q2 (fun k e => by
    rcases e with e | e
    · rw [e]; exact h.sp.hR
    · exact (h.sp.own.row k e).1) h.below.size
  refine ⟨⟨h.below.trans hb, h.h2, h.h3, h.h6, h.ne24, h.ne6B, keep h.r2 (by decide) (by decide), keep h.r3 (by decide) (by decide), keep h.r4 (by decide) (by decide), keep h.r6 (by decide) (by decide), keep h.rB (by decide) (by decide), keep h.rC (by decide) (by decide), q1⟩, ⟨⟨q2.size, fun k o _ hk hoc => (q2.block k (Array.getElem?_eq_some_iff.1 hk).1 (fun e => ?_)).trans hk⟩, hb, (keep h.rB (by decide) (by decide)).trans h.rB.symm, (keep h.rC (by decide) (by decide)).trans h.rC.symm⟩, q3, q4, fun {k t C} hk h1 h2 => ?_⟩
  · rcases e with e | e
    · rw [e, h.sp.row] at hk
      cases hk
      cases hoc
    · obtain ⟨_, _, C', hC⟩ := h.sp.own.row k e
      rw [hC] at hk
      cases hk
      cases hoc
  · refine (hg.block k hk.lt (fun e => ?_)).trans hk
    obtain ⟨_, _, C', hC⟩ := h.sp.own.row k e.symm
    exact bx_ne hk hC h1 rfl
end Go.Proofs.YtgkamdgegfioiaaDoor
