/- The keys of the squeezer's map: four bytes. No walk. -/
import Derived.Test.YtfogepoebihnoaaDoorSqm
import Derived.Maps.OwnSet
import Derived.Maps.Views
import Derived.DeepKeys5
import Derived.MapViews
import Derived.KernelRfl
namespace Go.Proofs.YtfogepoebihnoaaDoor
open Go.RowKit Go.Maps
set_option linter.unusedSimpArgs false
set_option linter.unusedVariables false
theorem sqLaidOut : laidOutB Tryd.prog = true := by kernel_rfl
theorem sqKeyType : Tryd.prog.keyType 75 = true := by kernel_rfl
theorem sq_keyed : Keyed Tryd.prog 75 := Keyed.of_law (deep_law_gate sqLaidOut (of_decide_eq_true (by kernel_rfl)) (of_decide_eq_true (by kernel_rfl)) sqKeyType (by kernel_rfl))
def k4 (a b c d : UInt8) : Value := .agg #[.int .u8 (a.toNat : Int), .int .u8 (b.toNat : Int), .int .u8 (c.toNat : Int), .int .u8 (d.toNat : Int)]
theorem u8_wf (x : UInt8) : (Lit.int .u8 (x.toNat : Int)).wf = true := by
  have := x.toNat_lt
  simp [Lit.wf, IntKind.min, IntKind.max, IntKind.signed, IntKind.bits]
  omega
theorem sqCells4 : Tryd.prog.cellsOf 75 = 4 := by kernel_rfl
theorem sqCells1 : Tryd.prog.cellsOf 5 = 1 := by kernel_rfl
theorem kl_one (m : Nat) (x : UInt8) : Tryd.prog.keyLits (m + 1) 5 [.int .u8 (x.toNat : Int)] = some [.int .u8 (x.toNat : Int)] := by
  unfold Program.keyLits
  rw [Tryd.underlying5]
  simp [u8_wf]
theorem sq_key (a b c d : UInt8) : ∃ kl, keyOf Tryd.prog 75 (k4 a b c d) = some kl := by
  have hs : ∃ m, Tryd.prog.types.size = m + 1 := ⟨Tryd.prog.types.size - 1, by
    have : 0 < Tryd.prog.types.size := of_decide_eq_true (by kernel_rfl)
    omega⟩
  obtain ⟨m, hm⟩ := hs
  unfold keyOf
  rw [Tryd.underlying75]
  simp only [sqKeyType, Value.formed, k4, Tryd.underlying75, sqCells4, Bool.true_and]
  rw [if_pos (by rfl)]
  unfold Program.keyLits
  rw [Tryd.underlying75]
  simp only [Value.cells, sqCells4, sqCells1, List.length_cons, List.length_nil, Nat.reduceAdd, if_true, Nat.mul_one, hm]
  have hr : List.range 4 = [0, 1, 2, 3] := rfl
  rw [hr]
  simp [kl_one]
end Go.Proofs.YtfogepoebihnoaaDoor
