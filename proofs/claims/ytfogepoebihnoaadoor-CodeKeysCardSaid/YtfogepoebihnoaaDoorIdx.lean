/- bytes.IndexByte at a slice of the call's. -/
import Derived.Test.YtfogepoebihnoaaDoorOwn
import Derived.Test.YtfogepoebihnoaaDoorTake
import Derived.Lib.BytesEntry
import Derived.Lib.Strings
import Derived.Lib.Walk
namespace Go.Proofs.YtfogepoebihnoaaDoor
open Go.RowKit
set_option linter.unusedSimpArgs false
set_option linter.unusedVariables false
theorem indexByte_calls (g o c : Nat) (bs : List UInt8) (cv : UInt8) (w : World) (hr : Rd w (some ⟨g, o, none⟩) bs) :
    Calls Tryd.prog 39 #[.slice (some ⟨g, o, none⟩) bs.length c, .int .u8 (cv.toNat : Int)] w fun e w' => e = .returned (.int .i64 (Lib.indexByte bs cv)) ∧ w = w' := by
  have hx : (bs.map (fun b => (b.toNat : Int))).length = bs.length := by simp
  have hb : Lib.bytesOf (bs.map (fun b => (b.toNat : Int))) = bs := by
    unfold Lib.bytesOf
    rw [List.map_map]
    have e : (fun b : UInt8 => b) = ((fun n : Int => UInt8.ofNat n.toNat) ∘ fun b : UInt8 => (b.toNat : Int)) := by funext b; simp
    rw [← e]
    simp
  have hrun := fun W hW => Lib.run_indexByteSlice (P := Tryd.prog) W g o bs.length c (bs.map (fun b => (b.toNat : Int))) hx hW (cv.toNat : Int)
  have hcell : ∀ i, i < bs.length → w.cell? ⟨g, o + i, none⟩ = some (.int .u8 ((bs.map (fun b => (b.toNat : Int))).getD i 0)) := by
    intro i hi
    obtain ⟨ad, he, hcc⟩ := hr i hi
    cases he
    have : (⟨g, o, none⟩ : Addr).add i = ⟨g, o + i, none⟩ := by unfold Addr.add; split <;> simp_all
    rw [this] at hcc
    rw [hcc]
    simp [List.getD, hi, vb]
  have hr2 := hrun w hcell
  rw [hb, show ((cv.toNat : Int).toNat.toUInt8) = cv by simp] at hr2
  go_enter Tryd.func39, Tryd.ntmps39
  go_wp2_with fail
  rw [run_callFunc_extern Tryd.func45 (by kernel_rfl) (by kernel_rfl) (by kernel_rfl) (e := Extern.BytealgIndexByte.indexByte) (by kernel_rfl), hr2]
  simp only [Result.andThen]
  rw [Oper.upon_value]
  go_wp2_with fail
  go_ret
  exact ⟨rfl, rfl⟩
end Go.Proofs.YtfogepoebihnoaaDoor
