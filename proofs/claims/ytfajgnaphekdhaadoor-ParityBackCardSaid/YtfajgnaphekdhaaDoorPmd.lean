/- What parity.Mend answers, in plain words; slices of slices that a call makes and fills. No walk. -/
import Derived.Test.YtfajgnaphekdhaaDoorPboth
import Derived.Test.YtfajgnaphekdhaaDoorPmath
import Derived.Test.YtfajgnaphekdhaaDoorRmake
namespace Go.Proofs.YtfajgnaphekdhaaDoor
open Go.RowKit
set_option linter.unusedSimpArgs false
set_option linter.unusedVariables false
theorem lostL_append : ∀ (a b : List (List UInt8)) (i : Nat), lostL i (a ++ b) = lostL i a ++ lostL (i + a.length) b
  | [], b, i => by simp [lostL]
  | x :: a, b, i => by
    simp only [List.cons_append, lostL, List.length_cons]
    rw [lostL_append a b (i + 1), show i + 1 + a.length = i + (a.length + 1) by omega]
    split <;> simp
theorem lostL_mem : ∀ (ls : List (List UInt8)) (i x : Nat), x ∈ lostL i ls → ∃ j, ∃ h : j < ls.length, x = i + j ∧ ls[j] = []
  | [], i, x, h => by simp [lostL] at h
  | b :: r, i, x, h => by
    simp only [lostL] at h
    have hrec : x ∈ lostL (i + 1) r → ∃ j, ∃ h : j < (b :: r).length, x = i + j ∧ (b :: r)[j] = [] := fun h => by
      obtain ⟨j, hj, e1, e2⟩ := lostL_mem r (i + 1) x h
      exact ⟨j + 1, by simp; omega, by omega, by simpa using e2⟩
    split at h
    · rename_i h0
      rcases List.mem_cons.1 h with rfl | h
      · exact ⟨0, by simp, by omega, by simpa using h0⟩
      · exact hrec h
    · exact hrec h
theorem lostL_sorted : ∀ (ls : List (List UInt8)) (i : Nat), (lostL i ls).Pairwise (· < ·)
  | [], i => by simp [lostL]
  | b :: r, i => by
    simp only [lostL]
    split
    · refine List.Pairwise.cons (fun y hy => ?_) (lostL_sorted r (i + 1))
      obtain ⟨j, _, e, _⟩ := lostL_mem r (i + 1) y hy
      omega
    · exact lostL_sorted r (i + 1)
theorem lostL_len : ∀ (ls : List (List UInt8)) (i : Nat), (lostL i ls).length = emptyN ls
  | [], i => rfl
  | b :: r, i => by
    simp only [lostL, emptyN]
    split <;> simp [lostL_len r (i + 1)] <;> omega
theorem chkR_cases (ls : List (List UInt8)) (lv : Int) : chkR ls lv = (0, 5) ∨ chkR ls lv = (0, 10) ∨ ∃ sz n m : Nat, chkR ls lv = ((sz : Int), 0) ∧ lv = (m : Int) ∧ n + m = ls.length ∧ 0 < sz ∧ sz ≤ 4096 ∧ 1 ≤ n ∧ n ≤ 16 ∧ m ≤ 2 ∧ szL 0 ls = some sz := by
  unfold chkR
  by_cases hlv : lv < 0 ∨ 2 < lv
  · rw [if_pos hlv]; exact .inl rfl
  · rw [if_neg hlv]
    cases hok : (sizedR ls ((ls.length : Int) - lv)).2
    · rw [if_pos rfl]; exact .inr (.inl rfl)
    · rw [if_neg (by decide)]
      refine .inr (.inr ?_)
      unfold sizedR at hok ⊢
      cases h : szL 0 ls with
      | none => rw [h] at hok; cases hok
      | some n =>
        rw [h] at hok
        obtain ⟨k1, k2, k3, k4⟩ := szOk_true hok
        exact ⟨n, ((ls.length : Int) - lv).toNat, lv.toNat, rfl, by omega, by omega, k1, k2, by omega, by omega, by omega, rfl⟩
open Classical in
/-- how often 1 is to be doubled for the sum of 2^x and 2^y -/
noncomputable def lgk (x y : Nat) : Nat := if h : ∃ k, dblN x 1 ^^^ dblN y 1 = dblN k 1 then Classical.choose h else 0
theorem lgk_eq (x y : Nat) (hx : x < 16) (hy : y < 16) (h : x ≠ y) : dblN x 1 ^^^ dblN y 1 = dblN (lgk x y) 1 := by
  unfold lgk
  rw [dif_pos (two_log x y hx hy h)]
  exact Classical.choose_spec (two_log x y hx hy h)
noncomputable def mendOut (sz : Nat) (D : List (List UInt8)) (Pp Qq : List UInt8) : List Nat → List (List UInt8)
  | [x, y] => (D.set x (bothQ y (lgk x y) (xorL (pAcc sz D.reverse) Pp) (xorL (qAcc sz D.reverse) Qq))).set y (bothP y (lgk x y) (xorL (pAcc sz D.reverse) Pp) (xorL (qAcc sz D.reverse) Qq))
  | [x] => if 0 < Pp.length then D.set x (xorL (pAcc sz D.reverse) Pp) else D.set x (mapK (254 * x) (xorL (qAcc sz D.reverse) Qq))
  | _ => D
/-- what Mend answers: the error's number, and the data -/
noncomputable def mendR (ls : List (List UInt8)) (lv : Int) : Int × List (List UInt8) :=
  if (chkR ls lv).2 ≠ 0 then ((chkR ls lv).2, []) else if lv < (lostL 0 ls).length then (11, [])
  else (0, mendOut (chkR ls lv).1.toNat (ls.take (ls.length - lv.toNat)) (ls.getD (ls.length - lv.toNat) []) (ls.getD (ls.length - lv.toNat + 1) []) (lostL 0 (ls.take (ls.length - lv.toNat))))
/-- a row of slices, each of which is a row of its own -/
structure OutV (W : World) (B g : Nat) (vs : List Value) (L : List (List UInt8)) : Prop where
  row : W.heap[g]? = some (.cells vs.toArray 33 (0, 0))
  len : vs.length = L.length
  el : ∀ j (h1 : j < vs.length) (h2 : j < L.length), ElG W B vs[j] L[j]
theorem OutV.below {W W' : World} {B g : Nat} {vs : List Value} {L : List (List UInt8)} (h : OutV W B g vs L) (hb : Below W.heap.size W W') : OutV W' B g vs L :=
  ⟨(hb.block g (Array.getElem?_eq_some_iff.1 h.row).1).trans h.row, h.len, fun j h1 h2 => (h.el j h1 h2).below hb⟩
theorem ElG.other {W : World} {B g : Nat} {v : Value} {bs : List UInt8} {C C' : Array Value} {fr : Nat × Nat} (h : ElG W B v bs) (hg : W.heap[g]? = some (.cells C 33 fr)) : ElG (W.setRow g C') B v bs := by
  obtain ⟨A, c, h1, h2, h3⟩ := h
  refine ⟨A, c, h1, h2, ?_⟩
  rcases h3 with h3 | ⟨b, X, e1, e2, e3, e4⟩
  · exact .inl h3
  · refine .inr ⟨b, X, e1, e2, by rw [setRow_size]; exact e3, ?_⟩
    rw [setRow_other _ _ _ _ (by
      rintro rfl
      rw [hg] at e4
      injection e4 with e4
      injection e4 with _ e5 _
      exact absurd e5 (by decide))]
    exact e4
theorem OutV.set {W : World} {B g : Nat} {vs : List Value} {L : List (List UInt8)} (h : OutV W B g vs L) {v : Value} {b : List UInt8} (hv : ElG W B v b) (k : Nat) : OutV (W.setRow g (vs.set k v).toArray) B g (vs.set k v) (L.set k b) := by
  refine ⟨setRow_heap _ _ _ _ _ _ h.row, by simp [h.len], fun j h1 h2 => ?_⟩
  by_cases hj : k = j
  · subst hj
    simp only [List.getElem_set_self]
    exact hv.other h.row
  · simp only [List.getElem_set_ne hj]
    exact (h.el j (by simpa using h1) (by simpa using h2)).other h.row
theorem OutV.rdlb {W : World} {B g : Nat} {vs : List Value} {L : List (List UInt8)} (h : OutV W B g vs L) (hB : B ≤ g) : RdLB B W (some ⟨g, 0, none⟩) L := by
  intro w' hk j hj
  have hj' : j < vs.length := by have := h.len; omega
  have hg := (hk g hB (Array.getElem?_eq_some_iff.1 h.row).1).trans h.row
  obtain ⟨A, c, h1, h2, h3⟩ := h.el j hj' hj
  refine ⟨⟨g, 0, none⟩, A, c, rfl, ?_, ?_, h2⟩
  · rw [addr_lit, cell_of_row _ _ _ _ _ _ hg, ← h1]
    simp [hj']
  · rcases h3 with h3 | ⟨b, X, e1, e2, e3, e4⟩
    · intro i hi; rw [h3] at hi; simp at hi
    · rw [e1]; exact Rd.block ((hk b e2 e3).trans e4) ⟨X, rfl⟩
section
variable {P : Program} (w : World)
theorem run_upto (t e : TypeId) (i : TypeInfo) (ht : P.underlying t = some (.slice e)) (hi : P.info? e = some i) (hs : i.size = 1) (A : Option Addr) (len cap n : Nat) (z : Int) (hz : z = n) (h : n ≤ cap) :
    (Instr.sliceAt t (.slice A len cap) none (some (.int .i64 z)) none).run P w = .ok (.slice A n cap) w := by
  subst hz
  have b1 : (0 : Int) ≤ n ∧ (n : Int) ≤ (cap : Int) := by omega
  have hadd : ∀ a : Addr, a.add 0 = a := fun a => rfl
  cases A <;> simp [Instr.sliceAt, Instr.slice, run_underlying ht, Instr.sliceBounds, Instr.sliceBound, asIntOf, b1, sizeOf, typeInfo, hi, hs, h, hadd]
end
theorem RdL.take {w : World} {A : Option Addr} {ls : List (List UInt8)} (h : RdL w A ls) (n : Nat) : RdL w A (ls.take n) := fun j hj => by
  have hj' : j < ls.length := by simp at hj; omega
  obtain ⟨ad, Aj, cj, h1, h2, h3, h4⟩ := h j hj'
  refine ⟨ad, Aj, cj, h1, ?_, ?_, ?_⟩
  · simpa using h2
  · simpa using h3
  · simpa using h4
end Go.Proofs.YtfajgnaphekdhaaDoor
