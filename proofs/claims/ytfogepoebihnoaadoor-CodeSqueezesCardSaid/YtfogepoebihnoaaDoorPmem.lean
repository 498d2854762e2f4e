/- Slices of parts: appended to a new one, cut; pick. -/
import Derived.Test.YtfogepoebihnoaaDoorParts
import Derived.Test.YtfogepoebihnoaaDoorLent
namespace Go.Proofs.YtfogepoebihnoaaDoor
open Go.RowKit
set_option linter.unusedSimpArgs false
set_option linter.unusedVariables false
theorem infoP3 : (Tryd.prog.info? 51).map (fun i => (i.zero, i.size, i.bytes)) = some (some (.agg #[.int .i64 0, .int .u64 0, .string ⟨#[]⟩]), 3, 32) := by kernel_rfl
theorem add_succ (a : Addr) (n : Nat) : a.add (n + 1) = ⟨a.block, a.off + (n + 1), none⟩ := by unfold Addr.add; simp
theorem add_block (a : Addr) (n : Nat) : (a.add n).block = a.block := by unfold Addr.add; split <;> rfl
theorem add_off (a : Addr) (n : Nat) : (a.add n).off = a.off + n := by
  unfold Addr.add
  split
  · rename_i h; simp_all
  · rfl
theorem pVals_len (l : List PartD) : (pVals l).length = l.length * 3 := by
  induction l with
  | nil => rfl
  | cons p r ih => simp [pVals, ih]; omega
theorem pVals_at : ∀ (l : List PartD) (j : Nat) (hj : j < l.length), (pVals l)[j * 3]? = some (.int .i64 l[j].kind) ∧ (pVals l)[j * 3 + 1]? = some (.int .u64 (l[j].num : Int)) ∧ (pVals l)[j * 3 + 2]? = some (.string ⟨l[j].text.toArray⟩)
  | p :: r, 0, _ => ⟨rfl, rfl, rfl⟩
  | p :: r, j + 1, h => by
    have := pVals_at r j (by simpa using h)
    rw [show (j + 1) * 3 = j * 3 + 3 by omega, show j * 3 + 3 + 1 = j * 3 + 1 + 3 by omega, show j * 3 + 3 + 2 = j * 3 + 2 + 3 by omega]
    exact this
theorem pVals_one (l : List PartD) : ∀ u ∈ pVals l, u.oneCell' = true := by
  induction l with
  | nil => intro u hu; cases hu
  | cons p r ih =>
    intro u hu
    simp only [pVals, List.mem_cons] at hu
    rcases hu with rfl | rfl | rfl | hu
    · rfl
    · rfl
    · rfl
    · exact ih u hu
theorem RdP.cells {w : World} {a : Addr} {l : List PartD} (h : RdP w (some a) l) (i : Nat) (u : Value) (hu : (pVals l)[i]? = some u) : w.cell? (a.add i) = some u := by
  have hi : i < l.length * 3 := by
    have := (List.getElem?_eq_some_iff.1 hu).1
    rwa [pVals_len] at this
  obtain ⟨ad, he, h1, h2, h3⟩ := h (i / 3) (by omega)
  cases he
  obtain ⟨q1, q2, q3⟩ := pVals_at l (i / 3) (by omega)
  rw [add_block, add_off] at h2 h3
  have hr : i % 3 = 0 ∨ i % 3 = 1 ∨ i % 3 = 2 := by omega
  rcases hr with hr | hr | hr
  · rw [show i / 3 * 3 = i by omega] at q1 h1
    rw [h1, ← q1, hu]
  · have e : i = i / 3 * 3 + 1 := by omega
    have e2 : a.add i = ⟨a.block, a.off + i / 3 * 3 + 1, none⟩ := by
      rw [e, add_succ]
      congr 1
      omega
    rw [e2, h2, ← q2, ← e, hu]
  · have e : i = i / 3 * 3 + 1 + 1 := by omega
    have e2 : a.add i = ⟨a.block, a.off + i / 3 * 3 + 2, none⟩ := by
      rw [e, add_succ]
      congr 1
      omega
    rw [e2, h3, ← q3, show i / 3 * 3 + 2 = i by omega, hu]
/-- a slice of the call's own that reads as parts -/
def OwnP (w : World) (B : Nat) (v : Value) (l : List PartD) : Prop := w.ownsRow B 51 3 v l.length (pVals l)
theorem OwnP.below {w w' : World} {B : Nat} {v : Value} {l : List PartD} (h : OwnP w B v l) (hb : Below w.heap.size w w') : OwnP w' B v l :=
  World.ownsRow.kept (row := none) h ⟨hb.os, hb.tape, hb.output, hb.size, fun k hk _ => hb.block k hk⟩ (by cases v.ownBlock <;> simp)
theorem OwnP.form {w : World} {B : Nat} {v : Value} {l : List PartD} (h : OwnP w B v l) : ∃ A c, v = .slice A l.length c ∧ RdP w A l ∧ l.length ≤ c := by
  rcases h.2 with ⟨rfl, hn⟩ | ⟨g, cap, cur, rfl, hb, hg, hc, hm, hs, ht⟩
  · have hbs : l = [] := List.length_eq_zero_iff.1 hn
    subst hbs
    exact ⟨none, 0, rfl, fun j hj => by simp at hj, Nat.le_refl _⟩
  · refine ⟨some ⟨g, 0, none⟩, cap, rfl, fun j hj => ⟨_, rfl, ?_⟩, hc⟩
    obtain ⟨q1, q2, q3⟩ := pVals_at l j hj
    have c1 := h.cells (g := g) rfl (j * 3) _ q1
    have c2 := h.cells (g := g) rfl (j * 3 + 1) _ q2
    have c3 := h.cells (g := g) rfl (j * 3 + 2) _ q3
    have hadd : ∀ n, (⟨g, 0, none⟩ : Addr).add n = ⟨g, n, none⟩ := fun n => addr_add0 g n
    rw [hadd] at c1 c2 c3
    rw [hadd]
    exact ⟨c1, c2, c3⟩
section
variable {P : Program} (w : World)
theorem run_upto (t e : TypeId) (i : TypeInfo) (ht : P.underlying t = some (.slice e)) (hi : P.info? e = some i) (A : Option Addr) (len cap n : Nat) (z : Int) (hz : z = n) (h : n ≤ cap) :
    (Instr.sliceAt t (.slice A len cap) none (some (.int .i64 z)) none).run P w = .ok (.slice A n cap) w := by
  subst hz
  have b1 : (0 : Int) ≤ n ∧ (n : Int) ≤ (cap : Int) := by omega
  have hadd : ∀ a : Addr, a.add 0 = a := fun a => rfl
  cases A <;> simp [Instr.sliceAt, Instr.slice, run_underlying ht, Instr.sliceBounds, Instr.sliceBound, asIntOf, b1, sizeOf, typeInfo, hi, hadd, h]
end
theorem appendP (w : World) (g : Nat) (hg : w.heap[g]? = some (.cells #[] 51 (0, 0))) (A : Option Addr) (c : Nat) (l : List PartD) (hr : RdP w A l) (hn : l.length * 32 ≤ 140737488351232) :
    ∃ v w', (Builtin.append_ #[29, 29] 29 #[.slice (some ⟨g, 0, none⟩) 0 0, .slice A l.length c]).run Tryd.prog w = .ok v w' ∧ OwnP w' g v l ∧ Below g w w' := by
  obtain ⟨i5, hi, hz0, hz1, hz2⟩ := info_parts infoP3
  have hgl := (Array.getElem?_eq_some_iff.1 hg).1
  have hown : w.ownsRow g 51 3 (.slice (some ⟨g, 0, none⟩) 0 0) 0 [] := ⟨rfl, .inr ⟨g, 0, #[], rfl, Nat.le_refl _, hg, Nat.le_refl _, by simp, rfl, rfl⟩⟩
  cases A with
  | some a =>
    obtain ⟨v', w', h1, h2, h3, _⟩ := run_append_own (P := Tryd.prog) w g 29 29 51 i5 _ 3 32 Tryd.underlying29 hi hz0 hz1 hz2 rfl (by omega) _ 0 [] hown a l.length c (pVals l) (pVals_len l) hr.cells (pVals_one l) (by unfold maxLen; omega) (by omega) (by omega)
    refine ⟨v', w', h1, ?_, ?_⟩
    · unfold OwnP
      rw [Nat.zero_add] at h2
      exact h2
    · exact (Below.refl g w).grown h3 (by omega) (fun k hk => by cases hk; exact Nat.le_refl _)
  | none =>
    have hx : l = [] := by
      cases l with
      | nil => rfl
      | cons b r => obtain ⟨ad, he, _⟩ := hr 0 (by simp); cases he
    subst hx
    refine ⟨_, w, ?_, hown, Below.refl _ _⟩
    simp [Builtin.append_, run_underlying Tryd.underlying29, sizeOf, typeInfo, hi, Builtin.lenOf, Builtin.firstCells, storeCells]
set_option maxHeartbeats 400000 in
theorem pick_calls (n k : Int) (w : World) (h1 : -9223372036854775808 ≤ n) (h2 : n ≤ 9223372036854775807) (hk : 0 < k) (hk2 : k ≤ 9223372036854775807) :
    Calls Tryd.prog 15 #[.int .i64 n, .int .i64 k] w fun e w' => e = .returned (.int .i64 (n % k)) ∧ w = w' := by
  have hm := tmod_mod n k hk
  have hb := tmod_bd n k hk
  have Hm := Lib.hid hm
  have Hb := Lib.hid hb
  clear hm hb
  go_enter Tryd.func15, Tryd.ntmps15
  go_wp2_with fail
  all_goals go_ret
  · have hb := Hb.out
    rw [Hm.out, if_pos ‹_›]
    have e : wrap64 (n.tmod k + k) = n.tmod k + k := by unfold wrap64; omega
    exact ⟨by show Ending.returned (Value.int .i64 (wrap64 (n.tmod k + k))) = _; rw [e], rfl⟩
  · rw [Hm.out, if_neg (by omega)]
    exact ⟨rfl, rfl⟩
end Go.Proofs.YtfogepoebihnoaaDoor
