/- slices.Chunk over a slice of bytes, 18 at once: a contract for whatever loop body keeps what lay below a block, and the two boxes (turned from the kit's worked text on slices.All). -/
import Derived.RangeFuncBox
import Derived.RangeFuncLeaves
import Derived.Shelf.Abstract
import Derived.WalkKit
import Derived.OwnWalkIn
import Derived.TacticsInMore
import Derived.LoopNIn
import Derived.LoopIn
import Derived.BigRegionIn
import Derived.Sort.CutIn
import Derived.RangeFuncCalls
import Derived.Stop.RegionWithIn
import Derived.Test.YtgkamdgegfioiaaDoorSbt
namespace Go.Proofs.YtgkamdgegfioiaaDoor
open Go.RowKit Go.Shelf
set_option linter.unusedSimpArgs false
set_option linter.unusedVariables false
attribute [local go_sem] Oper.semAt_some
/-- a chunk of L bytes: its number -/
structure Ck (L : Nat) where
  k : Nat
  hk : 18 * k < L
def Ck.len {L : Nat} (x : Ck L) : Nat := min 18 (L - 18 * x.k)
def Ck.args {L : Nat} (g o : Nat) (x : Ck L) : Array Value := #[.slice (some ⟨g, o + 18 * x.k, none⟩) x.len x.len]
/-- what a round keeps: what lay below n₀, and the boxes of Chunk -/
def KpC (n₀ Bs : Nat) (W W' : World) : Prop := Below n₀ W W' ∧ W'.heap[Bs]? = W.heap[Bs]? ∧ W'.heap[Bs + 1]? = W.heap[Bs + 1]?
theorem KpC.refl (n₀ Bs : Nat) (W : World) : KpC n₀ Bs W W := ⟨Below.refl _ _, rfl, rfl⟩
theorem KpC.trans {n₀ Bs : Nat} {A B C : World} (h : KpC n₀ Bs A B) (k : KpC n₀ Bs B C) : KpC n₀ Bs A C := ⟨h.1.trans k.1, k.2.1.trans h.2.1, k.2.2.trans h.2.2⟩
/-- all chunks, in order; the first ones -/
def AllC (L : Nat) (ys : List (Ck L)) : Prop := ys.map (·.k) = List.range ((L + 17) / 18)
def SomeC (L : Nat) (ys : List (Ck L)) : Prop := ∃ j, j ≤ (L + 17) / 18 ∧ ys.map (·.k) = List.range j
theorem ck_from (g o L c p : Nat) (hp : p < L) (hc : L ≤ c) (W : World) : (Instr.sliceAt 22 (.slice (some ⟨g, o, none⟩) L c) (some (.int .i64 (p : Int))) none none).run Tryd.prog W = .ok (.slice (some ⟨g, o + p, none⟩) (L - p) (c - p)) W := by
  obtain ⟨i5, hi5, hz0, hz1, hz2⟩ := info_parts info5
  have b1 : (0 : Int) ≤ p ∧ (p : Int) ≤ (L : Int) := by omega
  have b2 : ¬ L < p := by omega
  have b3 : ¬ c = p := by omega
  have hadd : (⟨g, o, none⟩ : Addr).add p = ⟨g, o + p, none⟩ := by unfold Addr.add; split <;> simp_all
  simp [Instr.sliceAt, Instr.slice, run_underlying Tryd.underlying22, Instr.sliceBounds, Instr.sliceBound, asIntOf, b1, b2, b3, sizeOf, typeInfo, hi5, hz1, hadd]
theorem ck_slice (g o L c p e q : Nat) (hpe : p + e = q) (he : 0 < e) (hq : q ≤ L) (hc : L ≤ c) (W : World) : (Instr.sliceAt 22 (.slice (some ⟨g, o, none⟩) L c) (some (.int .i64 (p : Int))) (some (.int .i64 (q : Int))) (some (.int .i64 (q : Int)))).run Tryd.prog W = .ok (.slice (some ⟨g, o + p, none⟩) e e) W := by
  obtain ⟨i5, hi5, hz0, hz1, hz2⟩ := info_parts info5
  have b2 : (0 : Int) ≤ (q : Int) ∧ (q : Int) ≤ (c : Int) := by omega
  have b3 : ¬ (q < p) := by omega
  have b4 : (0 : Int) ≤ (p : Int) ∧ (p : Int) ≤ (q : Int) := by omega
  have b5 : q - p = e := by omega
  have b6 : ¬ q = p := by omega
  have b7 : q ≤ c := by omega
  have b8 : p ≤ q := by omega
  have b9 : ¬ e = 0 := by omega
  have hadd : (⟨g, o, none⟩ : Addr).add p = ⟨g, o + p, none⟩ := by unfold Addr.add; split <;> simp_all
  simp [Instr.sliceAt, Instr.slice, run_underlying Tryd.underlying22, Instr.sliceBounds, Instr.sliceBound, asIntOf, b2, b3, b4, b5, b6, b7, b8, b9, sizeOf, typeInfo, hi5, hz1, hadd]
set_option maxRecDepth 100000 in
set_option maxHeartbeats 4000000 in
theorem chunk1_in (F : Fence) (m : Nat) (h8 : F.fn 69) (hro : F.round = none) (hn : 1 ≤ m) (l Bs n₀ g o L c : Nat) (A : Option Addr) (hA : 0 < L → A = some ⟨g, o, none⟩) (hL : L ≤ 140737488351232) (hc : L ≤ c) (J Jx : List (Ck L) → World → Prop) (hJd : ∀ ys W, J ys W → J ys W.drew)
    (hY : ∀ pre x W, J pre W → pre.length < (L + 17) / 18 → YieldAt F (m - 1) Tryd.prog l (Ck.args g o x) W fun e W' =>
      (e = .returned (.bool true) ∧ J (pre ++ [x]) W' ∧ KpC n₀ Bs W W') ∨ (e = .returned (.bool false) ∧ Jx (pre ++ [x]) W'))
    (W : World) (hBs : W.cell? ⟨Bs, 0, none⟩ = some (.slice A L c)) (hBn : W.cell? ⟨Bs + 1, 0, none⟩ = some (.int .i64 18)) (h0 : J [] W) :
    CallsIn F m Tryd.prog 69 #[.func (.yield l) #[] #[], .pointer (some ⟨Bs, 0, none⟩), .pointer (some ⟨Bs + 1, 0, none⟩)] W fun e W' => (∃ v, e = .returned v) ∧
      ((∃ ys, AllC L ys ∧ J ys W') ∨ (∃ pre, SomeC L pre ∧ Jx pre W')) := by
  refine callsIn_of_wp Tryd.func69 rfl h8 ?_ hro
  simp only [Tryd.ntmps69, List.size_toArray, List.length_cons, List.length_nil, Nat.reduceAdd, Nat.reduceSub, Array.replicate_succ, Array.replicate_zero, List.push_toArray, List.append_toArray, List.nil_append, List.cons_append]
  gi_wp2
  gi_loopw [4] (fun i wr => ∃ (k : Nat) (ys : List (Ck L)), i = .int .i64 ((18 * k : Nat) : Int) ∧ k ≤ (L + 17) / 18 ∧ ys.map (·.k) = List.range k ∧ Hid (J ys wr ∧ KpC n₀ Bs W wr))
    (fun i _ => L + 18 - (intOf i).toNat)
  case atStart => exact ⟨0, [], rfl, by omega, rfl, Lib.hid ⟨h0, KpC.refl _ _ _⟩⟩
  case round =>
    obtain ⟨k, ys, rfl, hkc, hys, H⟩ := hrel
    have hcs : wr.cell? ⟨Bs, 0, none⟩ = some (.slice A L c) := (World.cell?_of_block H.out.2.2.1).trans hBs
    have hcn : wr.cell? ⟨Bs + 1, 0, none⟩ = some (.int .i64 18) := (World.cell?_of_block H.out.2.2.2).trans hBn
    have hcsd : wr.drew.cell? ⟨Bs, 0, none⟩ = some (.slice A L c) := hcs
    have hcnd : wr.drew.cell? ⟨Bs + 1, 0, none⟩ = some (.int .i64 18) := hcn
    obtain ⟨p, hp⟩ : ∃ p, 18 * k = p := ⟨_, rfl⟩
    rw [hp]
    by_cases hlt : p < L
    · have hlti : (p : Int) < (L : Int) := by omega
      obtain rfl := hA (by omega)
      have hyl : ys.length = k := by
        have := congrArg List.length hys
        simpa using this
      obtain ⟨x, hx⟩ : ∃ x : Ck L, x.k = k := ⟨⟨k, by omega⟩, rfl⟩
      obtain ⟨fn, tmps, assign, body, hy, hR⟩ := hY ys x wr.drew (hJd _ _ H.out.1) (by rw [hyl]; omega)
      obtain ⟨e, he⟩ : ∃ e, min 18 (L - p) = e := ⟨_, rfl⟩
      obtain ⟨q, hq⟩ : ∃ q, p + e = q := ⟨_, rfl⟩
      have hsl := fun W => ck_from g o L c p hlt hc W
      have hsm := fun W => ck_slice g o L c p e q hq (by omega) (by omega) hc W
      have hargs : Ck.args g o x = #[.slice (some ⟨g, o + p, none⟩) e e] := by unfold Ck.args Ck.len; rw [hx, hp, he]
      rw [hargs] at hy
      have g1 : (L : Int) - (p : Int) = ((L - p : Nat) : Int) := by omega
      have hpi : (p : Int) + (e : Int) = (q : Int) := by omega
      have Hp := Lib.hid hp
      have Hq := Lib.hid hq
      have He := Lib.hid he
      have Hys := Lib.hid hys
      have hR' := Lib.hid hR
      have Hkc := Lib.hid hkc
      have Hx := Lib.hid hx
      clear hargs hp hq hys hR hkc hyl hx hA
      gi_wp2_with fail
      gi_cut [5] from 6 (fun v wc => v = .int .i64 (e : Int) ∧ wc = wr.drew)
      case first =>
        by_cases h18 : (18 : Nat) ≤ L - p
        · have h18i : (18 : Int) ≤ ((L - p : Nat) : Int) := by omega
          obtain rfl : e = 18 := by have := He.out; omega
          gi_region
          all_goals
            gi_wp2_with fail
            gi_meet
            case rel => exact ⟨rfl, rfl⟩
        · have h18i : ¬ (18 : Int) ≤ ((L - p : Nat) : Int) := by omega
          obtain rfl : e = L - p := by have := He.out; omega
          gi_region
          all_goals
            gi_wp2_with fail
            gi_meet
            case rel => exact ⟨rfl, rfl⟩
      case rest =>
        obtain ⟨rfl, rfl⟩ := hcut
        have hdd : (wr.drew).cell? ⟨Bs, 0, none⟩ = some (.slice (some ⟨g, o, none⟩) L c) := hcs
        gi_wp2_with fail
        refine hR'.out.mono ?_
        rintro e W3 (⟨rfl, hJ3, hk3⟩ | ⟨rfl, hJx3⟩)
        · have hW3 : W3.cell? ⟨Bs + 1, 0, none⟩ = some (.int .i64 18) := (World.cell?_of_block hk3.2.2).trans hcnd
          have H3 := Lib.hid (And.intro hJ3 hk3)
          have hHd := Lib.hid (show KpC n₀ Bs W wr.drew from ⟨H.out.2.1.drew, H.out.2.2⟩)
          clear hJ3 hk3
          gi_wp2_with fail
          go_roundw
          case rel => exact ⟨k + 1, ys ++ [x], by have := Hp.out; simp; omega, by have := Hp.out; omega, by rw [List.map_append, Hys.out, List.range_succ]; simp [Hx.out], Lib.hid ⟨H3.out.1, hHd.out.trans H3.out.2⟩⟩
          case measure => simp [intOf]; omega
        · gi_wp2_with fail
          refine bodyPost_ret (results_none rfl _ _ _) rfl ?_
          exact ⟨⟨_, rfl⟩, .inr ⟨_, ⟨k + 1, by have := Hp.out; omega, by rw [List.map_append, Hys.out, List.range_succ]; simp [Hx.out]⟩, hJx3⟩⟩
    · have hlti : ¬ (p : Int) < (L : Int) := by omega
      have hk : k = (L + 17) / 18 := by omega
      have HE := Lib.hid (show AllC L ys from by unfold AllC; rw [hys, hk])
      clear hp hk hys
      gi_wp2_with fail
      go_end0
      exact ⟨⟨_, rfl⟩, .inl ⟨_, HE.out, H.out.1⟩⟩
set_option maxHeartbeats 1000000 in
theorem chunk_in (F : Fence) (m : Nat) (h6 : F.fn 53) (hro : F.round = none) (A : Option Addr) (len cap : Nat) (w : World) :
    CallsIn F m Tryd.prog 53 #[.slice A len cap, .int .i64 18] w fun e w' => e = .returned (.func (.func 69) #[] #[.pointer (some ⟨w.heap.size, 0, none⟩), .pointer (some ⟨w.heap.size + 1, 0, none⟩)]) ∧ w' = (w.alloc (.cells #[.slice A len cap] 22)).alloc (.cells #[.int .i64 18] 3) := by
  refine callsIn_of_wp Tryd.func53 rfl h6 ?_ hro
  simp only [Tryd.ntmps53, List.size_toArray, List.length_cons, List.length_nil, Nat.reduceAdd, Nat.reduceSub, Array.replicate_succ, Array.replicate_zero, List.push_toArray, List.append_toArray, List.nil_append, List.cons_append]
  gi_wp2
  go_ret
  exact ⟨rfl, rfl⟩
theorem chunk_stops (F : Fence) (m : Nat) (h8 : F.fn 69) (hro : F.round = none) (hn : 1 ≤ m) (Bs n₀ g o L c : Nat) (A : Option Addr) (hA : 0 < L → A = some ⟨g, o, none⟩) (hL : L ≤ 140737488351232) (hc : L ≤ c)
    (w : World) (hBsl : Bs + 1 < w.heap.size) (hBs : w.cell? ⟨Bs, 0, none⟩ = some (.slice A L c)) (hBn : w.cell? ⟨Bs + 1, 0, none⟩ = some (.int .i64 18)) :
    SeqStopsK F m Tryd.prog 69 #[.pointer (some ⟨Bs, 0, none⟩), .pointer (some ⟨Bs + 1, 0, none⟩)] (Ck.args (L := L) g o) (KpC n₀ Bs) (AllC L) (SomeC L) ((L + 17) / 18) w := fun l J Jx W hW hJ _ hY h0 =>
  chunk1_in F m h8 hro hn l Bs n₀ g o L c A hA hL hc J Jx (fun ys W h => hJ ys W W.drew none h ⟨rfl, rfl, rfl, Nat.le_refl _, fun _ _ _ => rfl⟩ (fun r e => by cases e)) hY W
    ((hW.cell (p := ⟨Bs, 0, none⟩) (by show Bs < _; omega)).trans hBs) ((hW.cell (p := ⟨Bs + 1, 0, none⟩) hBsl).trans hBn) h0
end Go.Proofs.YtgkamdgegfioiaaDoor
