/- (*space.Space).Runs and what it gives: a contract for whatever loop body keeps what lay below a block. -/
import Derived.Test.YtgkamdgegfioiaaDoorSpr
import Derived.Test.YtgkamdgegfioiaaDoorRnd
import Derived.RangeFuncBox
import Derived.RangeFuncLeaves
import Derived.Shelf.Abstract
import Derived.TacticsInMore
import Derived.LoopNIn
import Derived.LoopIn
import Derived.BigRegionIn
import Derived.Sort.CutIn
import Derived.RangeFuncNested
import Derived.BigGuardIn
namespace Go.Proofs.YtgkamdgegfioiaaDoor
open Go.RowKit Go.Shelf
set_option linter.unusedSimpArgs false
set_option linter.unusedVariables false
attribute [local go_sem] Oper.semAt_some
/-- a piece within the bounds that its writing wants -/
structure LP where
  p : Pc
  h1 : p.at_ < 4294967296
  h2 : p.n < 4294967296
  h3 : p.cnt < 65536
  h4 : p.tag < 18446744073709551616
def LP.args (x : LP) : Array Value := #[.agg #[.int .i64 (x.p.at_ : Int), .int .i64 (x.p.n : Int), .int .i64 (x.p.cnt : Int), .int .u64 (x.p.tag : Int)]]
def AllR (ps : List Pc) (ys : List LP) : Prop := ys.map (·.p) = live ps
def SomeR (ps : List Pc) (ys : List LP) : Prop := ∃ j, j ≤ ps.length ∧ ys.map (·.p) = live (ps.take j)
theorem live_take {ps : List Pc} {i : Nat} (h : i < ps.length) : live (ps.take (i + 1)) = live (ps.take i) ++ (if ps[i].cnt = 0 then [] else [ps[i]]) := by
  rw [take_snocP h, live_append]
  congr 1
  unfold live
  rw [List.filter_cons]
  by_cases hc : ps[i].cnt = 0 <;> simp [hc]
theorem live_len (ps : List Pc) : (live ps).length ≤ ps.length := List.length_filter_le ..
set_option maxRecDepth 100000 in
set_option maxHeartbeats 4000000 in
theorem runs1_in (F : Fence) (m : Nat) (h8 : F.fn 54) (hro : F.round = none) (hn : 1 ≤ m) (l n₀ bx B R r : Nat) (v : Value) (ps : List Pc) (J Jx : List LP → World → Prop) (hJa : ∀ ys W o, J ys W → J ys (W.alloc o)) (hJxa : ∀ ys W o, Jx ys W → Jx ys (W.alloc o))
    (hY : ∀ pre x W, J pre W → pre.length < ps.length → YieldAt F (m - 1) Tryd.prog l (LP.args x) W fun e W' =>
      (e = .returned (.bool true) ∧ J (pre ++ [x]) W' ∧ Below n₀ W W') ∨ (e = .returned (.bool false) ∧ Jx (pre ++ [x]) W'))
    (W : World) (hS : Sp W B R v r ps) (hn0 : n₀ ≤ W.heap.size) (hRn : R < n₀) (hvn : ∀ k, rowOf v = some k → k < n₀) (hbx : W.cell? ⟨bx, 0, none⟩ = some (.pointer (some ⟨R, 0, none⟩))) (h0 : J [] W) :
    CallsIn F m Tryd.prog 54 #[.func (.yield l) #[] #[], .pointer (some ⟨bx, 0, none⟩)] W fun e W' => (∃ v, e = .returned v) ∧
      ((∃ ys, AllR ps ys ∧ J ys W') ∨ (∃ pre, SomeR ps pre ∧ Jx pre W')) := by
  have HS := Lib.hid hS
  obtain ⟨N, hN⟩ : ∃ N, ps.length = N := ⟨_, rfl⟩
  have HN := Lib.hid hN
  have hNr := hS.len
  rw [hN] at hNr
  obtain ⟨A, c, hv, hc1, hc2, hrd⟩ := hS.own.rd
  rw [hN] at hv
  obtain ⟨cR0, cR1, fR⟩ := hS.cells
  have hvn2 : ∀ j, j < N → ∀ g, A = some ⟨g, 0, none⟩ → g < n₀ := fun j hj g e => by
    refine hvn g ?_
    have hc0 : c ≠ 0 := by omega
    rw [hv, e]
    simp [rowOf, hc0]
  have Hrd := Lib.hid hrd
  have Hvn2 := Lib.hid hvn2
  have HJa := Lib.hid hJa
  have hr := hS.hr
  subst hv
  have h0 := Lib.hid h0
  clear hS hN hc1 hc2 hrd fR hvn hvn2 hJa
  refine callsIn_of_wp Tryd.func54 rfl h8 ?_ hro
  simp only [Tryd.ntmps54, List.size_toArray, List.length_cons, List.length_nil, Nat.reduceAdd, Nat.reduceSub, Array.replicate_succ, Array.replicate_zero, List.push_toArray, List.append_toArray, List.nil_append, List.cons_append]
  gi_wp2
  gi_loopw [10] (fun j wr => ∃ (i : Nat) (ys : List LP), j = .int .i64 (i : Int) ∧ i ≤ N ∧ Hid (ys.map (·.p) = live (ps.take i) ∧ ys.length ≤ i ∧ J ys wr ∧ Below n₀ W wr)) (fun j _ => N - (intOf j).toNat)
  case atStart => exact ⟨0, [], rfl, by omega, Lib.hid ⟨by simp [live], Nat.le_refl _, h0.out, Below.refl _ _⟩⟩
  case round =>
    rename World => wr
    obtain ⟨i, ys, rfl, hi, H⟩ := hrel
    by_cases hlt : i < N
    · have hlti : (i : Int) < (N : Int) := by omega
      obtain ⟨g, hA, hgw, hgf, hgc⟩ := (Hrd.out.below H.out.2.2.2 (Hvn2.out i hlt)) i (by rw [HN.out]; exact hlt)
      subst hA
      obtain ⟨p, hp⟩ : ∃ p, ps[i]'(by rw [HN.out]; exact hlt) = p := ⟨_, rfl⟩
      have hlv := live_take (ps := ps) (i := i) (by rw [HN.out]; exact hlt)
      have hall := HS.out.wf.all p (by rw [← hp]; exact List.getElem_mem _)
      rw [hp] at hgc hlv
      have g0 : wr.cell? ⟨g, i * 5, none⟩ = some (.int .i64 (p.at_ : Int)) := hgc 0 (by omega)
      have g1 : wr.cell? ⟨g, i * 5 + 1, none⟩ = some (.int .i64 (p.n : Int)) := hgc 1 (by omega)
      have g2 : wr.cell? ⟨g, i * 5 + 2, none⟩ = some (.int .i64 (p.cnt : Int)) := hgc 2 (by omega)
      have g3 : wr.cell? ⟨g, i * 5 + 3, none⟩ = some (.int .u64 (p.tag : Int)) := hgc 3 (by omega)
      have g4 : wr.cell? ⟨g, i * 5 + 4, none⟩ = some (.bool p.old) := hgc 4 (by omega)
      have hBa : Below n₀ W (wr.alloc (.cells (pcA p) 90)) := H.out.2.2.2.alloc (Nat.le_trans hn0 (H.out.2.2.2).size) _
      obtain ⟨cn, hcn⟩ : ∃ cn, p.cnt = cn := ⟨_, rfl⟩
      by_cases hc0 : cn = 0
      · have hci : ¬ (0 : Int) < (cn : Int) := by omega
        have HE := Lib.hid (show ys.map (·.p) = live (ps.take (i + 1)) ∧ ys.length ≤ i + 1 ∧ J ys (wr.alloc (.cells (pcA p) 90)) ∧ Below n₀ W (wr.alloc (.cells (pcA p) 90)) from ⟨by rw [hlv, hcn, if_pos hc0, List.append_nil]; exact H.out.1, by have := H.out.2.1; omega, HJa.out _ _ _ H.out.2.2.1, hBa⟩)
        unfold pcA at HE
        rw [hcn] at g2 HE
        clear hlv hgc hp hBa hall hc0 hcn
        gi_wp2_with fail
        all_goals
          refine ⟨(fun f h => by cases h), ?_⟩
          gi_wp2_with fail
          exact ⟨⟨i + 1, ys, by go_num, by omega, HE⟩, by simp [intOf]; omega⟩
      · have hci : (0 : Int) < (cn : Int) := by omega
        obtain ⟨x, hx⟩ : ∃ x : LP, x.p = p := ⟨⟨p, by have := hall.2.2.2.2; unfold Pc.fin at this; omega, by have := hall.2.2.2.2; unfold Pc.fin at this; omega, by have := hall.2.2.1; omega, hall.2.2.2.1⟩, rfl⟩
        obtain ⟨fn, tmps, assign, body, hy, hR⟩ := hY ys x (wr.alloc (.cells (pcA p) 90)) (HJa.out _ _ _ H.out.2.2.1) (by have := H.out.2.1; rw [HN.out]; omega)
        have HE := Lib.hid (show ys.map (·.p) ++ [x.p] = live (ps.take (i + 1)) ∧ ys.length ≤ i ∧ Below n₀ W (wr.alloc (.cells (pcA p) 90)) from ⟨by rw [hlv, hcn, if_neg hc0, H.out.1, hx], H.out.2.1, hBa⟩)
        unfold LP.args at hy
        unfold pcA at hy hR HE
        rw [hx] at hy
        rw [hcn] at g2 hy hR HE
        have hR' := Lib.hid hR
        clear hlv hgc hp hBa hall hR hcn hc0
        gi_wp2_with fail
        refine hR'.out.mono ?_
        rintro e W3 (⟨rfl, hJ3, hk3⟩ | ⟨rfl, hJx3⟩)
        · have H3 := Lib.hid (And.intro hJ3 hk3)
          clear hJ3 hk3
          gi_wp2_with fail
          exact ⟨⟨i + 1, ys ++ [x], by go_num, by omega, Lib.hid ⟨by rw [List.map_append]; exact HE.out.1, by rw [List.length_append]; have := HE.out.2.1; simp; omega, H3.out.1, HE.out.2.2.trans H3.out.2⟩⟩, by simp [intOf]; omega⟩
        · gi_wp2_with fail
          refine bodyPost_ret (results_none rfl _ _ _) rfl ?_
          exact ⟨⟨_, rfl⟩, .inr ⟨_, ⟨i + 1, by rw [HN.out]; omega, by rw [List.map_append]; exact HE.out.1⟩, hJx3⟩⟩
    · obtain rfl : i = N := by omega
      have HE := Lib.hid (show AllR ps ys from by
        have := H.out.1
        rw [List.take_of_length_le (by rw [HN.out]; exact Nat.le_refl _)] at this
        exact this)
      gi_wp2_with fail
      go_end0
      exact ⟨⟨_, rfl⟩, .inl ⟨_, HE.out, H.out.2.2.1⟩⟩
end Go.Proofs.YtgkamdgegfioiaaDoor
