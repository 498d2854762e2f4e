/- The state of a squeezer, and chunks in plain words. No walk. -/
import Derived.Test.YtfogepoebihnoaaDoorSqc
import Derived.Test.YtfogepoebihnoaaDoorRnd
namespace Go.Proofs.YtfogepoebihnoaaDoor
open Go.RowKit Go.Shelf Go.Maps
set_option linter.unusedSimpArgs false
set_option linter.unusedVariables false
/-- the squeezer's four fields, what is out, the map -/
structure SqS (w0 W : World) (R B : Nat) (A : Option Addr) (N c n lim fr : Nat) (v : Value) (out : List UInt8) : Prop where
  below : Below w0.heap.size w0 W
  hR : w0.heap.size ≤ R
  hB : w0.heap.size ≤ B
  row : W.heap[R]? = some (.cells #[.slice A N c, v, .map (some B), .int .i64 (fr : Int)] 63 (0, 0))
  own : OwnB W w0.heap.size 5 v out
  mp : MpOk W B n lim
theorem MpOk.at {w w' : World} {B n lim : Nat} (h : MpOk w B n lim) (e : w'.heap[B]? = w.heap[B]?) : MpOk w' B n lim := by
  obtain ⟨D, h1, h2, h3⟩ := h
  exact ⟨D, h1, owns_at h2 e, h3⟩
theorem MpOk.map {w : World} {B n lim : Nat} (h : MpOk w B n lim) : ∃ o, w.heap[B]? = some o ∧ o.isCells = false := by
  obtain ⟨D, h1, ⟨es, clock, h2, _⟩, h3⟩ := h
  exact ⟨_, h2, rfl⟩
theorem OwnB.elem {w : World} {B : Nat} {e : TypeId} {v : Value} {bs : List UInt8} (h : OwnB w B e v bs) : ∀ k, v.ownBlock = some k → ∃ C, w.heap[k]? = some (.cells C e (0, 0)) := fun k hk => by
  rcases h.2 with ⟨rfl, _⟩ | ⟨g, cap, cur, rfl, _, hg, _⟩
  · cases hk
  · cases hk
    exact ⟨_, hg⟩
theorem SqS.neR {w0 W : World} {R B : Nat} {A : Option Addr} {N c n lim fr : Nat} {v : Value} {out : List UInt8} (h : SqS w0 W R B A N c n lim fr v out) (k : Nat) (hk : v.ownBlock = some k) {C : Array Value} {t : TypeId} {j : Nat} (hj : W.heap[j]? = some (.cells C t (0, 0))) (ht : t ≠ 5) : j ≠ k := fun e => by
  obtain ⟨C', hC⟩ := h.own.elem k hk
  rw [← e, hj] at hC
  injection hC with hC
  injection hC with _ h2 _
  exact ht h2
theorem SqS.neB {w0 W : World} {R B : Nat} {A : Option Addr} {N c n lim fr : Nat} {v : Value} {out : List UInt8} (h : SqS w0 W R B A N c n lim fr v out) : R ≠ B ∧ ∀ k, v.ownBlock = some k → k ≠ B := by
  obtain ⟨o, ho, hc⟩ := h.mp.map
  refine ⟨fun e => ?_, fun k hk e => ?_⟩
  · rw [← e, h.row] at ho; cases ho; cases hc
  · obtain ⟨C', hC⟩ := h.own.elem k hk
    rw [e, ho] at hC; cases hC; cases hc
/-- what is allocated, or turned that is neither cells nor the map -/
theorem SqS.grown {w0 W W' : World} {R B : Nat} {A : Option Addr} {N c n lim fr : Nat} {v : Value} {out : List UInt8} {row : Option Nat} (h : SqS w0 W R B A N c n lim fr v out) (hg : W.grownBy W' row) (hr : ∀ r, row = some r → w0.heap.size ≤ r ∧ r ≠ B ∧ ∃ o : Obj, W.heap[r]? = some o ∧ o.isCells = false) : SqS w0 W' R B A N c n lim fr v out := by
  have keep : ∀ (k : Nat) (C : Array Value) (t : TypeId), W.heap[k]? = some (.cells C t (0, 0)) → W'.heap[k]? = W.heap[k]? := by
    intro k C t hk
    refine hg.block k (Array.getElem?_eq_some_iff.1 hk).1 (fun e => ?_)
    obtain ⟨_, _, o, ho, hoc⟩ := hr k e.symm
    rw [hk] at ho
    cases ho
    cases hoc
  refine ⟨h.below.grown hg h.below.size (fun k e => (hr k e).1), h.hR, h.hB, (keep _ _ _ h.row).trans h.row, World.ownsRow.kept (row := row) h.own hg ?_, h.mp.at ?_⟩
  · cases e : v.ownBlock with
    | none => simp
    | some k =>
      refine .inr (fun e2 => ?_)
      obtain ⟨C', hC⟩ := h.own.elem k e
      obtain ⟨_, _, o, ho, hoc⟩ := hr k e2.symm
      rw [hC] at ho
      cases ho
      cases hoc
  · obtain ⟨o, ho, _⟩ := h.mp.map
    exact hg.block B (Array.getElem?_eq_some_iff.1 ho).1 (fun e => (hr B e.symm).2.1 rfl)
theorem SqS.alloc {w0 W : World} {R B : Nat} {A : Option Addr} {N c n lim fr : Nat} {v : Value} {out : List UInt8} (h : SqS w0 W R B A N c n lim fr v out) (o : Obj) : SqS w0 (W.alloc o) R B A N c n lim fr v out := h.grown (World.grownBy_alloc W o none) (fun r e => by cases e)
theorem SqS.drew {w0 W : World} {R B : Nat} {A : Option Addr} {N c n lim fr : Nat} {v : Value} {out : List UInt8} (h : SqS w0 W R B A N c n lim fr v out) : SqS w0 W.drew R B A N c n lim fr v out := h.grown (row := none) ⟨rfl, rfl, rfl, Nat.le_refl _, fun _ _ _ => rfl⟩ (fun r e => by cases e)
theorem SqS.cells {w0 W : World} {R B : Nat} {A : Option Addr} {N c n lim fr : Nat} {v : Value} {out : List UInt8} (h : SqS w0 W R B A N c n lim fr v out) : W.cell? ⟨R, 0, none⟩ = some (.slice A N c) ∧ W.cell? ⟨R, 1, none⟩ = some v ∧ W.cell? ⟨R, 2, none⟩ = some (.map (some B)) ∧ W.cell? ⟨R, 3, none⟩ = some (.int .i64 (fr : Int)) :=
  ⟨by rw [cell_of_row _ _ _ _ _ _ h.row]; rfl, by rw [cell_of_row _ _ _ _ _ _ h.row]; rfl, by rw [cell_of_row _ _ _ _ _ _ h.row]; rfl, by rw [cell_of_row _ _ _ _ _ _ h.row]; rfl⟩
/-- more is appended, and the field is written -/
theorem SqS.put {w0 W W' : World} {R B : Nat} {A : Option Addr} {N c n lim fr : Nat} {v v' : Value} {out out' : List UInt8} (h : SqS w0 W R B A N c n lim fr v out) (ho : OwnB W' w0.heap.size 5 v' out') (hg : W.grownBy W' v.ownBlock) (hb : Below w0.heap.size W W') :
    W'.frozen? ⟨R, 1, none⟩ = false ∧ W'.cell? ⟨R, 1, none⟩ = some v ∧ SqS w0 (W'.setCell ⟨R, 1, none⟩ v') R B A N c n lim fr v' out' ∧
    (∀ (k : Nat) (C : Array Value) (t : TypeId), W.heap[k]? = some (.cells C t (0, 0)) → t ≠ 5 → W'.heap[k]? = W.heap[k]? ∧ (k ≠ R → (W'.setCell ⟨R, 1, none⟩ v').heap[k]? = W.heap[k]?)) ∧ KeepsOthers W (W'.setCell ⟨R, 1, none⟩ v') := by
  have hk : ∀ (k : Nat) (C : Array Value) (t : TypeId), W.heap[k]? = some (.cells C t (0, 0)) → t ≠ 5 → W'.heap[k]? = W.heap[k]? := fun k C t hC ht => hg.block k (Array.getElem?_eq_some_iff.1 hC).1 (fun e => h.neR k e.symm hC ht rfl)
  have hrow := (hk R _ _ h.row (by decide)).trans h.row
  have hset : W'.setCell ⟨R, 1, none⟩ v' = W'.setRow R #[.slice A N c, v', .map (some B), .int .i64 (fr : Int)] := by
    rw [setCell_eq_setRow _ _ _ _ _ _ _ hrow]; rfl
  obtain ⟨o, hmo, hmc⟩ := h.mp.map
  have hBk : W'.heap[B]? = W.heap[B]? := hg.block B (Array.getElem?_eq_some_iff.1 hmo).1 (fun e => h.neB.2 B e.symm rfl)
  have hvR : v'.ownBlock ≠ some R := fun e => by
    obtain ⟨C', hC⟩ := ho.elem R e
    rw [hrow] at hC
    injection hC with hC
    injection hC with _ h2 _
    exact absurd h2 (by decide)
  refine ⟨frozen_of_row _ _ _ _ _ hrow, by rw [cell_of_row _ _ _ _ _ _ hrow]; rfl, ?_, fun k C t hC ht => ⟨hk k C t hC ht, fun hne => ?_⟩, (KeepsOthers.of_grownBy hg (fun j o e hj => ?_)).trans (KeepsOthers.setCell _ _ _)⟩
  · rw [hset]
    refine ⟨below_setRow (h.below.trans hb) h.hR _, h.hR, h.hB, setRow_heap _ _ _ _ _ _ hrow, ?_, (h.mp.at (w' := W'.setRow R #[.slice A N c, v', .map (some B), .int .i64 (fr : Int)]) ?_)⟩
    · refine World.ownsRow.kept (row := some R) ho ?_ (.inr hvR)
      rw [← hset]
      exact ⟨rfl, rfl, rfl, by simp, fun k hk2 hne => by rw [hset]; exact setRow_other _ _ _ _ (fun e => hne (by rw [e]))⟩
    · rw [setRow_other _ _ _ _ (Ne.symm h.neB.1)]
      exact hBk
  · rw [hset, setRow_other _ _ _ _ hne]
    exact hk k C t hC ht
  · obtain ⟨C', hC⟩ := h.own.elem j e
    rw [hj] at hC
    cases hC
    rfl
/-- a chunk's bytes, and what is written for it -/
def pieceK (x : List UInt8) (k : Nat) : List UInt8 := UInt8.ofNat (min 128 (x.length - 128 * k) - 1) :: (x.drop (128 * k)).take 128
theorem chF_pieces : ∀ (f : Nat) (x : List UInt8), x.length < f → (List.range ((x.length + 127) / 128)).flatMap (pieceK x) = chF f x
  | 0, _, h => by omega
  | f + 1, [], _ => by simp [chF]
  | f + 1, b :: r, h => by
    have ih := chF_pieces f ((b :: r).drop 128) (by simp at h ⊢; omega)
    obtain ⟨m, hm⟩ : ∃ m, ((b :: r).length + 127) / 128 = m + 1 := ⟨((b :: r).length + 127) / 128 - 1, by simp; omega⟩
    have hm2 : (((b :: r).drop 128).length + 127) / 128 = m := by
      rw [List.length_drop]
      omega
    rw [hm2] at ih
    rw [hm, List.range_succ_eq_map, List.flatMap_cons, List.flatMap_map]
    have h0 : pieceK (b :: r) 0 = UInt8.ofNat (((b :: r).take 128).length - 1) :: (b :: r).take 128 := by
      have e : min 128 (r.length + 1) - 1 = min 127 r.length := by omega
      simp [pieceK, e]
    have hs : ∀ k, pieceK (b :: r) (k + 1) = pieceK ((b :: r).drop 128) k := fun k => by
      unfold pieceK
      rw [List.length_drop, List.drop_drop, show 128 * (k + 1) = 128 + 128 * k by omega, Nat.sub_sub]
    rw [h0]
    simp only [hs, ih, chF, List.cons_append]
theorem chunkL_pieces {x : List UInt8} {ys : List (Ck x.length)} (h : AllC x.length ys) : ys.flatMap (fun y => pieceK x y.k) = chunkL x := by
  unfold chunkL
  rw [← chF_pieces (x.length + 1) x (by omega), ← h, List.flatMap_map]
theorem chunkL_pieces2 {x : List UInt8} {L : Nat} (hL : x.length = L) {ys : List (Ck L)} (h : AllC L ys) : ys.flatMap (fun y => pieceK x y.k) = chunkL x := by
  subst hL
  exact chunkL_pieces h
end Go.Proofs.YtfogepoebihnoaaDoor
