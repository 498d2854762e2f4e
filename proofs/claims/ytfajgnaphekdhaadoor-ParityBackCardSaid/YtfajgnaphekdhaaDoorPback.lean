/- slices.Backward over a slice of slices of bytes: a contract for whatever loop body keeps what lay below a block (turned from the kit's worked text on slices.All). -/
import Derived.RangeFuncBox
import Derived.RangeFuncLeaves
import Derived.Shelf.Abstract
import Derived.WalkKit
import Derived.OwnWalkIn
import Derived.TacticsInMore
import Derived.LoopNIn
import Derived.LoopIn
import Derived.Test.YtfajgnaphekdhaaDoorPpad
namespace Go.Proofs.YtfajgnaphekdhaaDoor
open Go.RowKit Go.Shelf
set_option linter.unusedSimpArgs false
set_option linter.unusedVariables false
attribute [local go_sem] Oper.semAt_some
/-- a piece, as it lies in the world w0: its place in the list, its slice, its bytes -/
structure Pc (w0 : World) (n : Nat) where
  idx : Nat
  A : Option Addr
  c : Nat
  bs : List UInt8
  rd : Rd w0 A bs
  le : bs.length ≤ n
def Pc.val {w0 : World} {n : Nat} (x : Pc w0 n) : Value := .slice x.A x.bs.length x.c
def upto {α : Type} (f : Nat → α) (k : Nat) : List α := (List.range k).map f
/-- what a round keeps: what lay below n₀, and the box of the slice -/
def KpB (n₀ Bs : Nat) (W W' : World) : Prop := Below n₀ W W' ∧ W'.heap[Bs]? = W.heap[Bs]?
theorem KpB.refl (n₀ Bs : Nat) (W : World) : KpB n₀ Bs W W := ⟨Below.refl _ _, rfl⟩
theorem KpB.trans {n₀ Bs : Nat} {A B C : World} (h : KpB n₀ Bs A B) (k : KpB n₀ Bs B C) : KpB n₀ Bs A C := ⟨h.1.trans k.1, k.2.trans h.2⟩
theorem upto_succ {α : Type} (f : Nat → α) (k : Nat) : upto f (k + 1) = upto f k ++ [f k] := by simp [upto, List.range_succ]
theorem upto_length {α : Type} (f : Nat → α) (k : Nat) : (upto f k).length = k := by simp [upto]
set_option maxRecDepth 100000 in
set_option maxHeartbeats 2000000 in
theorem back1_in (F : Fence) (m : Nat) (h8 : F.fn 53) (hro : F.round = none) (hn : 1 ≤ m) (w0 : World) (n : Nat) (l Bs n₀ b off len cap : Nat) (f : Nat → Pc w0 n) (hlen : len ≤ 1000) (hf : ∀ j, j < len → (f j).idx = j) (hb : b < n₀) (J Jx : List (Pc w0 n) → World → Prop)
    (hY : ∀ pre x W, J pre W → pre.length < len → YieldAt F (m - 1) Tryd.prog l #[.int .i64 (x.idx : Int), .slice x.A x.bs.length x.c] W fun e W' =>
      (e = .returned (.bool true) ∧ J (pre ++ [x]) W' ∧ KpB n₀ Bs W W') ∨ (e = .returned (.bool false) ∧ Jx (pre ++ [x]) W'))
    (W : World) (hBs : W.cell? ⟨Bs, 0, none⟩ = some (.slice (some ⟨b, off, none⟩) len cap)) (hc : ∀ j, j < len → W.cell? ⟨b, off + j, none⟩ = some (.slice (f j).A (f j).bs.length (f j).c)) (h0 : J [] W) :
    CallsIn F m Tryd.prog 53 #[.func (.yield l) #[] #[], .pointer (some ⟨Bs, 0, none⟩)] W fun e W' => (∃ v, e = .returned v) ∧
      ((∃ ys, ys = upto (fun k => f (len - 1 - k)) len ∧ J ys W') ∨ (∃ pre, (∃ k, k ≤ len ∧ pre = upto (fun k => f (len - 1 - k)) k) ∧ Jx pre W')) := by
  obtain ⟨iS, hiS, hsz⟩ := infoS
  refine callsIn_of_wp Tryd.func53 rfl h8 ?_ hro
  simp only [Tryd.ntmps53, List.size_toArray, List.length_cons, List.length_nil, Nat.reduceAdd, Nat.reduceSub, Array.replicate_succ, Array.replicate_zero, List.push_toArray, List.append_toArray, List.nil_append, List.cons_append]
  gi_wp2
  gi_loopw [3] (fun i wr => ∃ k j : Nat, k + j = len ∧ i = .int .i64 ((j : Int) - 1) ∧ J (upto (fun k => f (len - 1 - k)) k) wr ∧ KpB n₀ Bs W wr)
    (fun i _ => (intOf i + 1).toNat)
  case atStart => exact ⟨0, len, by omega, rfl, h0, KpB.refl _ _ _⟩
  case round =>
    obtain ⟨k, j, hkj, rfl, hJs, hnx⟩ := hrel
    cases j with
    | succ j =>
      have hjl : j < len := by omega
      have e : len - 1 - k = j := by omega
      have hid := hf j hjl
      have hcx : wr.cell? ⟨b, off + j, none⟩ = some (.slice (f j).A (f j).bs.length (f j).c) := (hnx.1.cell (p := ⟨b, off + j, none⟩) hb).trans (hc j hjl)
      have hcs : wr.cell? ⟨Bs, 0, none⟩ = some (.slice (some ⟨b, off, none⟩) len cap) := by rw [← hBs]; simp only [World.cell?, hnx.2]
      obtain ⟨fn, tmps, assign, body, hy, hR⟩ := hY _ (f j) wr hJs (by rw [upto_length]; omega)
      rw [hid] at hy
      have hji : ((j + 1 : Nat) : Int) - 1 = (j : Int) := by omega
      rw [hji]
      have Hkj := Lib.hid hkj
      have He := Lib.hid e
      clear hkj e
      gi_wp2
      refine hR.mono ?_
      rintro e W3 (⟨rfl, hJ3, hk3⟩ | ⟨rfl, hJx3⟩)
      · gi_wp2
        go_roundw
        case rel => exact ⟨k + 1, j, by have := Hkj.out; omega, by simp, by rw [upto_succ, He.out]; exact hJ3, hnx.trans hk3⟩
        case measure => simp [intOf]
      · gi_wp2
        refine bodyPost_ret (results_none rfl _ _ _) rfl ?_
        exact ⟨⟨_, rfl⟩, .inr ⟨_, ⟨k + 1, by have := Hkj.out; omega, by rw [upto_succ, He.out]⟩, hJx3⟩⟩
    | zero =>
      have hcs : wr.cell? ⟨Bs, 0, none⟩ = some (.slice (some ⟨b, off, none⟩) len cap) := by rw [← hBs]; simp only [World.cell?, hnx.2]
      obtain rfl : k = len := by omega
      gi_wp2
      go_end0
      exact ⟨⟨_, rfl⟩, .inl ⟨_, rfl, hJs⟩⟩
set_option maxHeartbeats 1000000 in
theorem backward_in (F : Fence) (m : Nat) (h6 : F.fn 47) (hro : F.round = none) (a : Option Addr) (len cap : Nat) (w : World) :
    CallsIn F m Tryd.prog 47 #[.slice a len cap] w fun e w' => e = .returned (.func (.func 53) #[] #[.pointer (some ⟨w.heap.size, 0, none⟩)]) ∧ w' = w.alloc (.cells #[.slice a len cap] 23) := by
  refine callsIn_of_wp Tryd.func47 rfl h6 ?_ hro
  simp only [Tryd.ntmps47, List.size_toArray, List.length_cons, List.length_nil, Nat.reduceAdd, Nat.reduceSub, Array.replicate_succ, Array.replicate_zero, List.push_toArray, List.append_toArray, List.nil_append, List.cons_append]
  gi_wp2
  go_ret
  exact ⟨rfl, rfl⟩
theorem back_stops (F : Fence) (m : Nat) (h8 : F.fn 53) (hro : F.round = none) (hn : 1 ≤ m) (w0 : World) (n : Nat) (Bs n₀ b off len cap : Nat) (f : Nat → Pc w0 n) (hlen : len ≤ 1000) (hf : ∀ j, j < len → (f j).idx = j) (hb : b < n₀)
    (w : World) (hBsl : Bs < w.heap.size) (hn₀ : n₀ ≤ w.heap.size) (hBs : w.cell? ⟨Bs, 0, none⟩ = some (.slice (some ⟨b, off, none⟩) len cap)) (hc : ∀ j, j < len → w.cell? ⟨b, off + j, none⟩ = some (.slice (f j).A (f j).bs.length (f j).c)) :
    SeqStopsK F m Tryd.prog 53 #[.pointer (some ⟨Bs, 0, none⟩)] (fun x : Pc w0 n => #[.int .i64 (x.idx : Int), .slice x.A x.bs.length x.c]) (KpB n₀ Bs) (fun ys => ys = upto (fun k => f (len - 1 - k)) len)
      (fun pre => ∃ k, k ≤ len ∧ pre = upto (fun k => f (len - 1 - k)) k) len w := fun l J Jx W hW _ _ hY h0 =>
  back1_in F m h8 hro hn w0 n l Bs n₀ b off len cap f hlen hf hb J Jx hY W ((hW.cell (p := ⟨Bs, 0, none⟩) hBsl).trans hBs) (fun j hj => (hW.cell (p := ⟨b, off + j, none⟩) (by show b < _; omega)).trans (hc j hj)) h0
end Go.Proofs.YtfajgnaphekdhaaDoor
