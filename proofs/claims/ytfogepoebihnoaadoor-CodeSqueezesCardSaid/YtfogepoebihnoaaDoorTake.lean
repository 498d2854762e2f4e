/- The walk of reader.take. Condition: the reader's cell holds a slice with room for its length. -/
import Derived.Test.YtfogepoebihnoaaDoorProg
import Derived.Test.YtfogepoebihnoaaDoorOwn
import Derived.Test.YtfogepoebihnoaaDoorLent
namespace Go.Proofs.YtfogepoebihnoaaDoor
open Go.RowKit
set_option linter.unusedSimpArgs false
set_option linter.unusedVariables false
/-- where x[n:] begins -/
def advA (A : Option Addr) (n cap : Nat) : Option Addr := if cap = n then A else A.map (·.add n)
theorem add_add (a : Addr) (n j : Nat) : (a.add n).add j = a.add (n + j) := by
  unfold Addr.add
  by_cases hn : n = 0 <;> by_cases hj : j = 0 <;> simp [hn, hj, Nat.add_assoc]
theorem Rd.adv {w : World} {A : Option Addr} {bs : List UInt8} (h : Rd w A bs) (n cap : Nat) (hn : n ≤ bs.length) (hc : bs.length ≤ cap) : Rd w (advA A n cap) (bs.drop n) := fun j hj => by
  have hj' : n + j < bs.length := by simp at hj; omega
  obtain ⟨ad, rfl, hcell⟩ := h (n + j) hj'
  refine ⟨ad.add n, by unfold advA; rw [if_neg (by omega)]; rfl, ?_⟩
  rw [add_add, hcell]
  simp
theorem Rd.take {w : World} {A : Option Addr} {bs : List UInt8} (h : Rd w A bs) (n : Nat) : Rd w A (bs.take n) := fun j hj => by
  have hj' : j < bs.length := by simp at hj; omega
  obtain ⟨ad, rfl, hcell⟩ := h j hj'
  exact ⟨ad, rfl, by rw [hcell]; simp⟩
section
variable {P : Program} (w : World)
theorem run_first (t e : TypeId) (i : TypeInfo) (ht : P.underlying t = some (.slice e)) (hi : P.info? e = some i) (hs : i.size = 1) (A : Option Addr) (len cap n : Nat) (z : Int) (hz : z = n) (h : n ≤ cap) :
    (Instr.sliceAt t (.slice A len cap) none (some (.int .i64 z)) (some (.int .i64 z))).run P w = .ok (.slice A n n) w := by
  subst hz
  have b1 : (0 : Int) ≤ n ∧ (n : Int) ≤ (cap : Int) := by omega
  have hadd : ∀ a : Addr, a.add 0 = a := fun a => rfl
  cases A <;> simp [Instr.sliceAt, Instr.slice, run_underlying ht, Instr.sliceBounds, Instr.sliceBound, asIntOf, b1, sizeOf, typeInfo, hi, hs, hadd, h]
theorem run_rest (t e : TypeId) (i : TypeInfo) (ht : P.underlying t = some (.slice e)) (hi : P.info? e = some i) (hs : i.size = 1) (A : Option Addr) (len cap n : Nat) (z : Int) (hz : z = n) (h : n ≤ len) :
    (Instr.sliceAt t (.slice A len cap) (some (.int .i64 z)) none none).run P w = .ok (.slice (advA A n cap) (len - n) (cap - n)) w := by
  subst hz
  have b1 : (0 : Int) ≤ n ∧ (n : Int) ≤ (len : Int) := by omega
  simp [Instr.sliceAt, Instr.slice, run_underlying ht, Instr.sliceBounds, Instr.sliceBound, asIntOf, b1, Nat.not_lt.2 h, sizeOf, typeInfo, hi, hs, advA]
end
theorem take_short (R : Nat) (A : Option Addr) (len cap : Nat) (z : Int) (w : World) (hc : w.cell? ⟨R, 0, none⟩ = some (.slice A len cap)) (hz : (len : Int) < z) :
    Calls Tryd.prog 26 #[.pointer (some ⟨R, 0, none⟩), .int .i64 z] w fun e w' => e = .returned (.slice none 0 0) ∧ w = w' := by
  go_enter Tryd.func26, Tryd.ntmps26
  go_wp2_with fail
  go_ret
  exact ⟨rfl, rfl⟩
theorem take_long (R : Nat) (A : Option Addr) (len cap n : Nat) (z : Int) (w : World) (hc : w.cell? ⟨R, 0, none⟩ = some (.slice A len cap)) (hf : w.frozen? ⟨R, 0, none⟩ = false) (hz : z = n) (hn : n ≤ len) (hl : len ≤ cap) (h63 : len ≤ 9223372036854775807) :
    Calls Tryd.prog 26 #[.pointer (some ⟨R, 0, none⟩), .int .i64 z] w fun e w' => e = .returned (.slice A n n) ∧ w' = w.setCell ⟨R, 0, none⟩ (.slice (advA A n cap) (len - n) (cap - n)) := by
  obtain ⟨i5, hi, hz0, hz1, hz2⟩ := info_parts info5
  have h1 := fun W => run_first (P := Tryd.prog) W 22 5 i5 Tryd.underlying22 hi hz1 A len cap n z hz (by omega)
  have h2 := fun W => run_rest (P := Tryd.prog) W 22 5 i5 Tryd.underlying22 hi hz1 A len cap n z hz hn
  have h3 : ¬ (len : Int) < z := by omega
  clear hz
  go_enter Tryd.func26, Tryd.ntmps26
  go_wp2_with fail
  go_ret
  exact ⟨rfl, rfl⟩
end Go.Proofs.YtfogepoebihnoaaDoor
