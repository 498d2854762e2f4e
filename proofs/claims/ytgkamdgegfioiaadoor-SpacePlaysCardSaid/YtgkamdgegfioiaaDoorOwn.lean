/- Laws on a slice of bytes that the call itself appends to, over any program. No statement of the seat. -/
import Derived.Test.YtgkamdgegfioiaaDoorMem
import Derived.Laws.AppendOwnNone
import Derived.Deep.QuietTactic
namespace Go.Proofs.YtgkamdgegfioiaaDoor
open Go.RowKit
set_option linter.unusedSimpArgs false
set_option linter.unusedVariables false
/-- v is a slice of the call's own (its row lies from block B on) that reads as bs -/
def OwnB (w : World) (B : Nat) (e : TypeId) (v : Value) (bs : List UInt8) : Prop := w.ownsRow B e 1 v bs.length (vbs bs)
theorem OwnB.nil (w : World) (B : Nat) (e : TypeId) : OwnB w B e (.slice none 0 0) [] := World.ownsRow_nil w B e 1
theorem OwnB.form {w : World} {B : Nat} {e : TypeId} {v : Value} {bs : List UInt8} (h : OwnB w B e v bs) : ∃ A c, v = .slice A bs.length c ∧ Rd w A bs ∧ bs.length ≤ c ∧ c ≤ maxLen ∧ (A = none → bs = [] ∧ c = 0) := by
  rcases h.2 with ⟨rfl, hn⟩ | ⟨g, cap, cur, rfl, hb, hg, hc, hm, hs, ht⟩
  · have hbs : bs = [] := List.length_eq_zero_iff.1 hn
    subst hbs
    exact ⟨none, 0, rfl, fun j hj => by simp at hj, Nat.le_refl _, Nat.zero_le _, fun _ => ⟨rfl, rfl⟩⟩
  · refine ⟨some ⟨g, 0, none⟩, cap, rfl, fun j hj => ⟨_, rfl, ?_⟩, hc, hm, fun h => by cases h⟩
    have := h.cells (g := g) rfl j (vb bs[j]) (by simp [vbs, hj])
    exact this
theorem OwnB.below {w w' : World} {B : Nat} {e : TypeId} {v : Value} {bs : List UInt8} (h : OwnB w B e v bs) (hb : Below w.heap.size w w') : OwnB w' B e v bs :=
  World.ownsRow.kept (row := none) h ⟨hb.os, hb.tape, hb.output, hb.size, fun k hk _ => hb.block k hk⟩ (by cases v.ownBlock <;> simp)
theorem OwnB.alloc {w : World} {B : Nat} {e : TypeId} {v : Value} {bs : List UInt8} (h : OwnB w B e v bs) (o : Obj) : OwnB (w.alloc o) B e v bs := World.ownsRow.alloc h o
theorem OwnB.drew {w : World} {B : Nat} {e : TypeId} {v : Value} {bs : List UInt8} (h : OwnB w B e v bs) : OwnB w.drew B e v bs := h.below (Below.refl _ _).drew
theorem OwnB.drewN {w : World} {B : Nat} {e : TypeId} {v : Value} {bs : List UInt8} (h : OwnB w B e v bs) (n : Nat) : OwnB (w.drewN n) B e v bs := h.below ⟨rfl, rfl, rfl, Nat.le_refl _, fun _ _ => rfl⟩
theorem OwnB.setBelow {w : World} {B : Nat} {e : TypeId} {v : Value} {bs : List UInt8} (h : OwnB w B e v bs) {a : Addr} (ha : a.block < B) (u : Value) : OwnB (w.setCell a u) B e v bs := ownsRow_setCell_below h ha u
theorem OwnB.block_le {w : World} {B : Nat} {e : TypeId} {v : Value} {bs : List UInt8} (h : OwnB w B e v bs) : ∀ k, v.ownBlock = some k → B ≤ k ∧ k < w.heap.size := fun k hk => World.ownsRow.lt h k hk
section
variable {P : Program} (w : World)
theorem own_append (t ty e : TypeId) (i : TypeInfo) (ht : P.underlying t = some (.slice e)) (hi : P.info? e = some i) (hz : i.zero = some (.int .u8 0)) (hs : i.size = 1) (hby : i.bytes = 1)
    (B : Nat) (v : Value) (bs : List UInt8) (hown : OwnB w B e v bs) (hB : B ≤ w.heap.size) (A : Option Addr) (c : Nat) (xs : List UInt8) (hr : Rd w A xs) (hn : bs.length + xs.length ≤ 140737488355328) :
    ∃ v' w', (Builtin.append_ #[t, t] ty #[v, .slice A xs.length c]).run P w = .ok v' w' ∧ OwnB w' B e v' (bs ++ xs) ∧ Below B w w' ∧ w.grownBy w' v.ownBlock := by
  cases A with
  | some a =>
    obtain ⟨v', w', h1, h2, h3, h4⟩ := run_append_own (P := P) w B t ty e i (.int .u8 0) 1 1 ht hi hz hs hby rfl (by omega) v bs.length (vbs bs) hown a xs.length c (vbs xs) (by simp) (fun j u hu => by
      simp only [vbs, List.getElem?_map, Option.map_eq_some_iff] at hu
      obtain ⟨b, hb, rfl⟩ := hu
      obtain ⟨hj, hb⟩ := List.getElem?_eq_some_iff.1 hb
      obtain ⟨ad, he, hc⟩ := hr j hj
      cases he
      rw [hc, hb]) (vbs_one xs) (by unfold maxLen; omega) (by omega) hB
    refine ⟨v', w', h1, ?_, ?_, h3⟩
    · unfold OwnB
      rw [vbs_append, List.length_append]
      exact h2
    · exact (Below.refl B w).grown h3 hB fun k hk => (hown.block_le k hk).1
  | none =>
    have hx : xs = [] := by
      cases xs with
      | nil => rfl
      | cons b r => obtain ⟨ad, he, _⟩ := hr 0 (by simp); cases he
    subst hx
    obtain ⟨A, c', rfl, _, hc', _, _⟩ := hown.form
    refine ⟨.slice A bs.length c', w, ?_, by simpa using hown, Below.refl _ _, ⟨rfl, rfl, rfl, Nat.le_refl _, fun _ _ _ => rfl⟩⟩
    have hle : bs.length ≤ c' := hc'
    cases A <;> simp [Builtin.append_, run_underlying ht, sizeOf, typeInfo, hi, Builtin.lenOf, hle, Builtin.firstCells, storeCells]
theorem run_one (t e : TypeId) (i : TypeInfo) (ht : P.underlying t = some (.slice e)) (hi : P.info? e = some i) (hz : i.zero = some (.int .u8 0)) (hs : i.size = 1) (x : Int) :
    (Instr.buildSlice t 1 #[(0, .int .u8 x)]).run P w = .ok (.slice (some ⟨w.heap.size, 0, none⟩) 1 1) (w.alloc (.cells #[.int .u8 x] e)) := by
  simp [Instr.buildSlice, run_underlying ht, sizeOf, typeInfo, hi, hz, hs, zeroValue, Instr.fill, newRow, Value.cells, show Array.range 1 = #[0] from rfl]
theorem one_rd (b : UInt8) (e : TypeId) : Rd (w.alloc (.cells #[.int .u8 (b.toNat : Int)] e)) (some ⟨w.heap.size, 0, none⟩) [b] :=
  Rd.block (L := [b]) (fr := (0, 0)) (heap_alloc_new w _) ⟨[], rfl⟩
end
end Go.Proofs.YtgkamdgegfioiaaDoor
