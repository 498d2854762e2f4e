/- Steps of a script in memory. -/
import Derived.Test.YtgkamdgegfioiaaDoorSrp
import Derived.Test.YtgkamdgegfioiaaDoorSpp
import Derived.Test.YtgkamdgegfioiaaDoorPick
namespace Go.Proofs.YtgkamdgegfioiaaDoor
open Go.RowKit
set_option linter.unusedSimpArgs false
set_option linter.unusedVariables false
/-- a step: what is to be done, three numbers, a text -/
structure StD where
  do_ : Int
  a : Int
  b : Int
  c : Int
  text : ByteArray
def i64b (x : Int) : Prop := -9223372036854775808 ≤ x ∧ x ≤ 9223372036854775807
def StD.ok (s : StD) : Prop := i64b s.do_ ∧ i64b s.a ∧ i64b s.b ∧ i64b s.c
def StAt (w : World) (a : Addr) (s : StD) : Prop := w.cell? a = some (.int .i64 s.do_) ∧ w.cell? ⟨a.block, a.off + 1, none⟩ = some (.int .i64 s.a) ∧ w.cell? ⟨a.block, a.off + 2, none⟩ = some (.int .i64 s.b) ∧ w.cell? ⟨a.block, a.off + 3, none⟩ = some (.int .i64 s.c) ∧ w.cell? ⟨a.block, a.off + 4, none⟩ = some (.string s.text)
def RdT (w : World) (A : Option Addr) (l : List StD) : Prop := ∀ j (hj : j < l.length), ∃ ad, A = some ad ∧ StAt w (ad.add (j * 5)) l[j]
theorem StAt.below {w w' : World} {a : Addr} {s : StD} (h : StAt w a s) (hb : Below w.heap.size w w') : StAt w' a s := by
  obtain ⟨h0, h1, h2, h3, h4⟩ := h
  have hl := World.block_lt_of_cell? w _ h0
  exact ⟨(hb.cell (p := a) hl).trans h0, (hb.cell (p := ⟨a.block, a.off + 1, none⟩) hl).trans h1, (hb.cell (p := ⟨a.block, a.off + 2, none⟩) hl).trans h2, (hb.cell (p := ⟨a.block, a.off + 3, none⟩) hl).trans h3, (hb.cell (p := ⟨a.block, a.off + 4, none⟩) hl).trans h4⟩
theorem RdT.below {w w' : World} {A : Option Addr} {l : List StD} (h : RdT w A l) (hb : Below w.heap.size w w') : RdT w' A l := fun j hj => by
  obtain ⟨ad, e, hp⟩ := h j hj
  exact ⟨ad, e, hp.below hb⟩
end Go.Proofs.YtgkamdgegfioiaaDoor
