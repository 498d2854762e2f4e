/- The walk of the closure look in (*squeezer).best. -/
import Derived.Test.YtfogepoebihnoaaDoorSqn
namespace Go.Proofs.YtfogepoebihnoaaDoor
open Go.RowKit Go.Maps
set_option linter.unusedSimpArgs false
set_option linter.unusedVariables false
/-- what look keeps: the longest match so far, and how far away it is -/
structure LkI (w : World) (b1 b2 b3 b4 R at_ sz ds : Nat) : Prop where
  r1 : w.cell? ⟨b1, 0, none⟩ = some (.pointer (some ⟨R, 0, none⟩))
  r2 : w.cell? ⟨b2, 0, none⟩ = some (.int .i64 (at_ : Int))
  r3 : w.heap[b3]? = some (.cells #[.int .i64 (sz : Int)] 3 (0, 0))
  r4 : w.heap[b4]? = some (.cells #[.int .i64 (ds : Int)] 3 (0, 0))
  n13 : b1 ≠ b3
  n14 : b1 ≠ b4
  n23 : b2 ≠ b3
  n24 : b2 ≠ b4
  n34 : b3 ≠ b4
theorem LkI.sm {w w' : World} {b1 b2 b3 b4 R at_ sz ds : Nat} (h : LkI w b1 b2 b3 b4 R at_ sz ds) (hs : Sm w w') : LkI w' b1 b2 b3 b4 R at_ sz ds :=
  ⟨(hs.cell _).trans h.r1, (hs.cell _).trans h.r2, by rw [hs.heap]; exact h.r3, by rw [hs.heap]; exact h.r4, h.n13, h.n14, h.n23, h.n24, h.n34⟩
/-- both boxes are written -/
theorem LkI.put {w : World} {b1 b2 b3 b4 R at_ sz ds : Nat} (h : LkI w b1 b2 b3 b4 R at_ sz ds) (n d : Nat) :
    w.frozen? ⟨b3, 0, none⟩ = false ∧ w.cell? ⟨b3, 0, none⟩ = some (.int .i64 (sz : Int)) ∧ (w.setCell ⟨b3, 0, none⟩ (.int .i64 (n : Int))).frozen? ⟨b4, 0, none⟩ = false ∧ (w.setCell ⟨b3, 0, none⟩ (.int .i64 (n : Int))).cell? ⟨b4, 0, none⟩ = some (.int .i64 (ds : Int)) ∧
    LkI ((w.setCell ⟨b3, 0, none⟩ (.int .i64 (n : Int))).setCell ⟨b4, 0, none⟩ (.int .i64 (d : Int))) b1 b2 b3 b4 R at_ n d ∧ ∀ k, k ≠ b3 → k ≠ b4 → ((w.setCell ⟨b3, 0, none⟩ (.int .i64 (n : Int))).setCell ⟨b4, 0, none⟩ (.int .i64 (d : Int))).heap[k]? = w.heap[k]? := by
  have e3 : (w.setCell ⟨b3, 0, none⟩ (.int .i64 (n : Int))) = w.setRow b3 #[.int .i64 (n : Int)] := by rw [setCell_eq_setRow _ _ _ _ _ _ _ h.r3]; rfl
  have r4' : (w.setRow b3 #[.int .i64 (n : Int)]).heap[b4]? = some (.cells #[.int .i64 (ds : Int)] 3 (0, 0)) := by rw [setRow_other _ _ _ _ (Ne.symm h.n34)]; exact h.r4
  have e4 : ((w.setRow b3 #[.int .i64 (n : Int)]).setCell ⟨b4, 0, none⟩ (.int .i64 (d : Int))) = (w.setRow b3 #[.int .i64 (n : Int)]).setRow b4 #[.int .i64 (d : Int)] := by rw [setCell_eq_setRow _ _ _ _ _ _ _ r4']; rfl
  have hoth : ∀ k, k ≠ b3 → k ≠ b4 → ((w.setRow b3 #[.int .i64 (n : Int)]).setRow b4 #[.int .i64 (d : Int)]).heap[k]? = w.heap[k]? := fun k h1 h2 => by rw [setRow_other _ _ _ _ h2, setRow_other _ _ _ _ h1]
  rw [e3, e4]
  refine ⟨frozen_of_row _ _ _ _ _ h.r3, by rw [cell_of_row _ _ _ _ _ _ h.r3]; rfl, frozen_of_row _ _ _ _ _ r4', by rw [cell_of_row _ _ _ _ _ _ r4']; rfl, ⟨?_, ?_, ?_, ?_, h.n13, h.n14, h.n23, h.n24, h.n34⟩, hoth⟩
  · rw [World.cell?_of_block (w := w) (hoth b1 h.n13 h.n14)]; exact h.r1
  · rw [World.cell?_of_block (w := w) (hoth b2 h.n23 h.n24)]; exact h.r2
  · rw [setRow_other _ _ _ _ h.n34]; exact setRow_heap _ _ _ _ _ _ h.r3
  · exact setRow_heap _ _ _ _ _ _ r4'
/-- what a look leaves: the longer match -/
def LkPost (b : List UInt8) (w : World) (b1 b2 b3 b4 R at_ sz ds d : Nat) (e : Ending) (w' : World) : Prop := ∃ n : Nat, e = .returned (.tuple #[]) ∧ Mt b at_ d n ∧ LkI w' b1 b2 b3 b4 R at_ (if sz < n then n else sz) (if sz < n then d else ds) ∧ w'.os = w.os ∧ w'.tape = w.tape ∧ w'.output = w.output ∧ w'.heap.size = w.heap.size ∧ ∀ k, k ≠ b3 → k ≠ b4 → w'.heap[k]? = w.heap[k]?
set_option maxHeartbeats 4000000 in
set_option maxRecDepth 100000 in
theorem look_calls (b1 b2 b3 b4 R at_ sz ds d : Nat) (A : Option Addr) (c : Nat) (b : List UInt8) (w : World) (hI : LkI w b1 b2 b3 b4 R at_ sz ds) (hR : w.cell? ⟨R, 0, none⟩ = some (.slice A b.length c)) (hr : Rd w A b) (hd : 1 ≤ d) (hda : d ≤ at_) (hl : at_ ≤ b.length) (hb : b.length ≤ 4096) :
    Calls Tryd.prog 36 #[.int .i64 d, .pointer (some ⟨b1, 0, none⟩), .pointer (some ⟨b2, 0, none⟩), .pointer (some ⟨b3, 0, none⟩), .pointer (some ⟨b4, 0, none⟩)] w fun e w' => LkPost b w b1 b2 b3 b4 R at_ sz ds d e w' := by
  have HI := Lib.hid hI
  have r1 := hI.r1
  have r2 := hI.r2
  have HM := Lib.hid (match_calls R A c b at_ d w hR hr hd hda hl hb)
  clear hI hR hr
  go_enter Tryd.func36, Tryd.ntmps36
  go_wp2_with fail
  refine (HM.out).mono ?_
  rintro e w1 ⟨n, rfl, hmt, hsm⟩
  have HI1 := Lib.hid (HI.out.sm hsm)
  have Hmt := Lib.hid hmt
  have Hsm := Lib.hid hsm
  obtain ⟨f3, c3, f4, c4, hI2, hoth⟩ := HI1.out.put n d
  have HE := Lib.hid (And.intro hI2 hoth)
  clear hmt hsm hI2 hoth HM
  by_cases hlt : sz < n
  · have hlti : (sz : Int) < (n : Int) := by omega
    go_wp2_with fail
    go_end0
    refine ⟨n, rfl, Hmt.out, by rw [if_pos hlt, if_pos hlt]; exact HE.out.1, Hsm.out.os, Hsm.out.tape, Hsm.out.output, ?_, fun k h1 h2 => by rw [HE.out.2 k h1 h2, Hsm.out.heap]⟩
    simp [Hsm.out.heap]
  · have hlti : ¬ (sz : Int) < (n : Int) := by omega
    go_wp2_with fail
    go_end0
    exact ⟨n, rfl, Hmt.out, by rw [if_neg hlt, if_neg hlt]; exact HI1.out, Hsm.out.os, Hsm.out.tape, Hsm.out.output, by rw [Hsm.out.heap], fun k _ _ => by rw [Hsm.out.heap]⟩
end Go.Proofs.YtfogepoebihnoaaDoor
