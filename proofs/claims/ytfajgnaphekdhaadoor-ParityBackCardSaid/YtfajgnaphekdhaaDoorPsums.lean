/- The walk of parity.sums. -/
import Derived.Test.YtfajgnaphekdhaaDoorPback
import Derived.BigRegionIn
import Derived.Sort.CutIn
import Derived.RangeFuncCalls
import Derived.Stop.RegionWithIn
namespace Go.Proofs.YtfajgnaphekdhaaDoor
open Go.RowKit Go.Shelf
set_option linter.unusedSimpArgs false
set_option linter.unusedVariables false
attribute [local go_sem] Oper.semAt_some
theorem four (w : World) (a b c d : Obj) : ((((w.alloc a).alloc b).alloc c).alloc d).drew.heap[w.heap.size]? = some a ∧ ((((w.alloc a).alloc b).alloc c).alloc d).drew.heap[w.heap.size + 1]? = some b ∧
    ((((w.alloc a).alloc b).alloc c).alloc d).drew.heap[w.heap.size + 1 + 1]? = some c ∧ ((((w.alloc a).alloc b).alloc c).alloc d).drew.heap[w.heap.size + 1 + 1 + 1]? = some d ∧ Below w.heap.size w ((((w.alloc a).alloc b).alloc c).alloc d).drew := by
  have e : ∀ (X : World), X.drew.heap = X.heap := fun _ => rfl
  refine ⟨?_, ?_, ?_, ?_, Below.drew ((((((Below.refl _ _).alloc (Nat.le_refl _) _).alloc (by simp) _).alloc (by simp; omega) _).alloc (by simp; omega) _))⟩
  · rw [e, Below.heap_alloc _ _ _ (by simp <;> omega), Below.heap_alloc _ _ _ (by simp <;> omega), Below.heap_alloc _ _ _ (by simp)]
    exact heap_alloc_new w a
  · rw [e, Below.heap_alloc _ _ _ (by simp <;> omega), Below.heap_alloc _ _ _ (by simp)]
    have := heap_alloc_new (w.alloc a) b
    rwa [World.size_alloc] at this
  · rw [e, Below.heap_alloc _ _ _ (by simp)]
    have := heap_alloc_new ((w.alloc a).alloc b) c
    rwa [World.size_alloc, World.size_alloc] at this
  · rw [e]
    have := heap_alloc_new (((w.alloc a).alloc b).alloc c) d
    rwa [World.size_alloc, World.size_alloc, World.size_alloc] at this
/-- the two pads, boxed -/
structure Ps (w wx : World) (bp bq gp gq n : Nat) (Lp Lq : List UInt8) : Prop where
  below : Below w.heap.size w wx
  hbp : w.heap.size ≤ bp
  hbq : w.heap.size ≤ bq
  hgp : w.heap.size ≤ gp
  hgq : w.heap.size ≤ gq
  rp : wx.heap[bp]? = some (.cells #[.slice (some ⟨gp, 0, none⟩) n n] 57 (0, 0))
  rq : wx.heap[bq]? = some (.cells #[.slice (some ⟨gq, 0, none⟩) n n] 57 (0, 0))
  cp : wx.heap[gp]? = some (.cells (bArr Lp) 5 (0, 0))
  cq : wx.heap[gq]? = some (.cells (bArr Lq) 5 (0, 0))
  lp : Lp.length = n
  lq : Lq.length = n
  ne : gp ≠ gq
/-- what a round of the loop over Backward keeps -/
def St (B n₀ Bs : Nat) (W W' : World) : Prop := KeepsFrom B W W' ∧ KpB n₀ Bs W W'
theorem st_setRow {B n₀ Bs g : Nat} {W : World} {C : Array Value} {t : TypeId} (L : List UInt8) (hg : W.heap[g]? = some (.cells C t (0, 0))) (hn : n₀ ≤ g) (hB : g < Bs) : St B n₀ Bs W (W.setRow g (bArr L)) := by
  refine ⟨KeepsOthers.from ⟨by simp, fun k o hk ho => ?_⟩ _, below_setRow (Below.refl _ _) hn _, ?_⟩
  · rw [setRow_other W g k _ (fun e => by
      rw [e, hg] at hk
      cases hk
      cases ho)]
    exact hk
  · exact setRow_other W g Bs _ (by omega)
theorem st_trans {B n₀ Bs : Nat} {X Y Z : World} (h : St B n₀ Bs X Y) (k : St B n₀ Bs Y Z) : St B n₀ Bs X Z := ⟨h.1.trans k.1, h.2.trans k.2⟩
theorem st_drew {B n₀ Bs : Nat} {X Y : World} (h : St B n₀ Bs X Y) : St B n₀ Bs X Y.drew := ⟨h.1.trans ((KeepsOthers.drew Y).from B), ⟨h.2.1.drew, h.2.2⟩⟩
theorem ps_drew {w W : World} {bp bq gp gq n : Nat} {Lp Lq : List UInt8} (h : Ps w W bp bq gp gq n Lp Lq) : Ps w W.drew bp bq gp gq n Lp Lq := ⟨h.below.drew, h.hbp, h.hbq, h.hgp, h.hgq, h.rp, h.rq, h.cp, h.cq, h.lp, h.lq, h.ne⟩
theorem ps_setP {w W : World} {bp bq gp gq n : Nat} {Lp Lq : List UInt8} (h : Ps w W bp bq gp gq n Lp Lq) (L : List UInt8) (hL : L.length = n) : Ps w (W.setRow gp (bArr L)) bp bq gp gq n L Lq := by
  have hbp : bp ≠ gp := fun e => by have h1 := h.rp; rw [e, h.cp] at h1; injection h1 with h1; injection h1 with _ h2 _; exact absurd h2 (by decide)
  have hbq : bq ≠ gp := fun e => by have h1 := h.rq; rw [e, h.cp] at h1; injection h1 with h1; injection h1 with _ h2 _; exact absurd h2 (by decide)
  exact ⟨below_setRow h.below h.hgp _, h.hbp, h.hbq, h.hgp, h.hgq, by rw [setRow_other _ _ _ _ hbp]; exact h.rp, by rw [setRow_other _ _ _ _ hbq]; exact h.rq, setRow_heap W gp _ _ _ _ h.cp, by rw [setRow_other _ _ _ _ h.ne.symm]; exact h.cq, hL, h.lq, h.ne⟩
theorem ps_setQ {w W : World} {bp bq gp gq n : Nat} {Lp Lq : List UInt8} (h : Ps w W bp bq gp gq n Lp Lq) (L : List UInt8) (hL : L.length = n) : Ps w (W.setRow gq (bArr L)) bp bq gp gq n Lp L := by
  have hbp : bp ≠ gq := fun e => by have h1 := h.rp; rw [e, h.cq] at h1; injection h1 with h1; injection h1 with _ h2 _; exact absurd h2 (by decide)
  have hbq : bq ≠ gq := fun e => by have h1 := h.rq; rw [e, h.cq] at h1; injection h1 with h1; injection h1 with _ h2 _; exact absurd h2 (by decide)
  exact ⟨below_setRow h.below h.hgq _, h.hbp, h.hbq, h.hgp, h.hgq, by rw [setRow_other _ _ _ _ hbp]; exact h.rp, by rw [setRow_other _ _ _ _ hbq]; exact h.rq, by rw [setRow_other _ _ _ _ h.ne]; exact h.cp, setRow_heap W gq _ _ _ _ h.cq, h.lp, hL, h.ne⟩
theorem addr_lit (b o j : Nat) : (⟨b, o, none⟩ : Addr).add j = ⟨b, o + j, none⟩ := by
  unfold Addr.add
  by_cases h : j = 0 <;> simp [h]
def mapD (L : List UInt8) : List UInt8 := L.map fun x => UInt8.ofNat (dbl x.toNat)
theorem ofN (n : Nat) (h : n < 256) : (UInt8.ofNat n).toNat = n := by
  rw [UInt8.toNat_ofNat']; omega
theorem mapD_step (L : List UInt8) (k : Nat) (hk : k < L.length) : (mapD (L.take k) ++ L.drop k).getD k 0 = L.getD k 0 ∧ (mapD (L.take k) ++ L.drop k).set k (UInt8.ofNat (dbl (L.getD k 0).toNat)) = mapD (L.take (k + 1)) ++ L.drop (k + 1) ∧ (mapD (L.take k) ++ L.drop k).length = L.length := by
  have hl : (mapD (L.take k)).length = k := by simp [mapD]; omega
  refine ⟨?_, ?_, by simp [mapD]; omega⟩
  · rw [List.getD, List.getD, List.getElem?_append_right (by omega), hl, Nat.sub_self, List.getElem?_drop, Nat.add_zero]
  · rw [List.set_append_right _ _ (by omega), hl, Nat.sub_self, List.drop_eq_getElem_cons hk, List.set_cons_zero, List.take_succ_eq_append_getElem hk]
    have e : L.getD k 0 = L[k] := by simp [List.getD, hk]
    rw [e, show mapD (L.take k ++ [L[k]]) = mapD (L.take k) ++ [UInt8.ofNat (dbl L[k].toNat)] by unfold mapD; rw [List.map_append]; rfl, List.append_assoc]
    rfl
/-- P and Q of pieces that came one behind the other -/
def pAcc (n : Nat) (xs : List (List UInt8)) : List UInt8 := xs.foldl xorL (List.replicate n 0)
def qAcc (n : Nat) (xs : List (List UInt8)) : List UInt8 := xs.foldl (fun L b => xorL (mapD L) b) (List.replicate n 0)
theorem pAcc_snoc (n : Nat) (xs : List (List UInt8)) (b : List UInt8) : pAcc n (xs ++ [b]) = xorL (pAcc n xs) b := by simp [pAcc]
theorem qAcc_snoc (n : Nat) (xs : List (List UInt8)) (b : List UInt8) : qAcc n (xs ++ [b]) = xorL (mapD (qAcc n xs)) b := by simp [qAcc]
theorem ps_own {w : World} {bp bq gp gq n B : Nat} {Lp Lq : List UInt8} {W W' : World} {row : Option Nat} (h : Ps w W bp bq gp gq n Lp Lq) (hB : w.heap.size ≤ B) (hg : W.grownBy W' row) (hr : ∀ r, row = some r → B ≤ r ∧ ∃ o : Obj, W.heap[r]? = some o ∧ o.isCells = false) : Ps w W' bp bq gp gq n Lp Lq := by
  have keep : ∀ (k : Nat) (C : Array Value) (t : TypeId), W.heap[k]? = some (.cells C t (0, 0)) → W'.heap[k]? = some (.cells C t (0, 0)) := by
    intro k C t hk
    rw [hg.block k (Array.getElem?_eq_some_iff.1 hk).1 (fun e => by
      obtain ⟨_, o, ho, hoc⟩ := hr k e.symm
      rw [hk] at ho
      cases ho
      cases hoc)]
    exact hk
  exact ⟨h.below.grown hg h.below.size (fun k e => Nat.le_trans hB (hr k e).1), h.hbp, h.hbq, h.hgp, h.hgq, keep _ _ _ h.rp, keep _ _ _ h.rq, keep _ _ _ h.cp, keep _ _ _ h.cq, h.lp, h.lq, h.ne⟩
set_option maxRecDepth 100000 in
set_option maxHeartbeats 4000000 in
theorem sums_calls (b0 off c : Nat) (ls : List (List UInt8)) (n : Nat) (w : World) (hr : RdL w (some ⟨b0, off, none⟩) ls) (hn : 0 < n) (hn2 : n ≤ 4096) (hl : ls.length ≤ 1000) (hl0 : 0 < ls.length) (hs : ∀ b ∈ ls, b.length ≤ n) :
    Calls Tryd.prog 34 #[.slice (some ⟨b0, off, none⟩) ls.length c, .int .i64 n] w fun e W' => ∃ gp gq, e = .returned (.tuple #[.slice (some ⟨gp, 0, none⟩) n n, .slice (some ⟨gq, 0, none⟩) n n]) ∧ W'.heap[gp]? = some (.cells (bArr (pAcc n ls.reverse)) 5 (0, 0)) ∧ W'.heap[gq]? = some (.cells (bArr (qAcc n ls.reverse)) 5 (0, 0)) ∧ w.heap.size ≤ gp ∧ w.heap.size ≤ gq ∧ gp ≠ gq ∧ Below w.heap.size w W' := by
  obtain ⟨i5, hi, hz0, hz1, hz2⟩ := info_parts info5
  have hmk := fun W => run_make (P := Tryd.prog) W 57 5 i5 _ Tryd.underlying57 hi hz0 .i64 .i64 (n : Int) (n : Int) (by omega) (by omega) (by rw [hz2]; omega) (by omega)
  have hmb : madeCells (Value.int .u8 0).cells ((n : Int).toNat * i5.size) = bArr (List.replicate n 0) := by
    rw [hz1, Nat.mul_one, Int.toNat_natCast]; exact made_bytes n
  simp only [hmb, Int.toNat_natCast] at hmk
  refine (callsIn_wide (n := 6)).1 ?_
  refine callsIn_of_wp_marks Tryd.func34 rfl trivial ?_ rfl
  simp only [Tryd.ntmps34, List.size_toArray, List.length_cons, List.length_nil, Nat.reduceAdd, Nat.reduceSub, Array.replicate_succ, Array.replicate_zero, List.push_toArray, List.append_toArray, List.nil_append, List.cons_append]
  gi_wp2
  gi_cut [6, 7, 12, 14] from 8 (fun p q sp sq wx => ∃ bp bq gp gq : Nat, p = .pointer (some ⟨bp, 0, none⟩) ∧ q = .pointer (some ⟨bq, 0, none⟩) ∧ sp = .slice (some ⟨gp, 0, none⟩) n n ∧ sq = .slice (some ⟨gq, 0, none⟩) n n ∧ Hid (Ps w wx bp bq gp gq n (List.replicate n 0) (List.replicate n 0)))
  case first =>
    gi_region
    all_goals
      gi_wp2
      gi_meet
      case rel =>
        exact ⟨_, _, _, _, rfl, rfl, rfl, rfl, Lib.hid ⟨(four w _ _ _ _).2.2.2.2, by omega, by omega, by omega, by omega,
          by first | exact (four w _ _ _ _).1 | exact (four w _ _ _ _).2.1 | exact (four w _ _ _ _).2.2.1 | exact (four w _ _ _ _).2.2.2.1, by first | exact (four w _ _ _ _).1 | exact (four w _ _ _ _).2.1 | exact (four w _ _ _ _).2.2.1 | exact (four w _ _ _ _).2.2.2.1,
          by rw [← made_bytes]; first | exact (four w _ _ _ _).1 | exact (four w _ _ _ _).2.1 | exact (four w _ _ _ _).2.2.1 | exact (four w _ _ _ _).2.2.2.1, by rw [← made_bytes]; first | exact (four w _ _ _ _).1 | exact (four w _ _ _ _).2.1 | exact (four w _ _ _ _).2.2.1 | exact (four w _ _ _ _).2.2.2.1, by simp, by simp, by omega⟩⟩
  case rest =>
    obtain ⟨bp, bq, gp, gq, rfl, rfl, rfl, rfl, HP⟩ := hcut
    have hf : ∃ f : Nat → Pc w n, ∀ j, (hj : j < ls.length) → (f j).idx = j ∧ (f j).bs = ls[j] ∧ w.cell? ⟨b0, off + j, none⟩ = some (.slice (f j).A (f j).bs.length (f j).c) := by
      have each : ∀ j, ∃ x : Pc w n, (hj : j < ls.length) → x.idx = j ∧ x.bs = ls[j] ∧ w.cell? ⟨b0, off + j, none⟩ = some (.slice x.A x.bs.length x.c) := by
        intro j
        by_cases hj : j < ls.length
        · obtain ⟨ad, Aj, cj, h1, h2, h3, _⟩ := hr j hj
          cases h1
          rw [addr_lit] at h2
          exact ⟨⟨j, Aj, cj, ls[j], h3, hs _ (List.getElem_mem hj)⟩, fun _ => ⟨rfl, rfl, h2⟩⟩
        · exact ⟨⟨0, none, 0, [], fun j hj => by simp at hj, by simp⟩, fun h => absurd h hj⟩
      exact ⟨fun j => (each j).choose, fun j => (each j).choose_spec⟩
    obtain ⟨f, hf⟩ := hf
    have hbl : b0 < w.heap.size := by
      obtain ⟨_, _, h⟩ := hf 0 hl0
      rcases Nat.lt_or_ge b0 w.heap.size with h' | h'
      · exact h'
      · simp [World.cell?, Array.getElem?_eq_none h'] at h
    have hwsz := HP.out.below.size
    gi_wp2_with fail
    refine ⟨trivial, (backward_in Fence.wide 5 trivial rfl _ _ _ _).mono ?_⟩
    rintro e w' ⟨rfl, rfl⟩
    have HPb := ps_own (row := none) (B := w.heap.size) HP.out (Nat.le_refl _) (World.grownBy_alloc wc (.cells #[.slice (some ⟨b0, off, none⟩) ls.length c] 23) none) (fun r e => by cases e)
    have hbB := HP.out.below.trans (((Below.refl wc.heap.size wc).alloc (Nat.le_refl _) (.cells #[.slice (some ⟨b0, off, none⟩) ls.length c] 23)).mono HP.out.below.size)
    have hbox : (wc.alloc (.cells #[.slice (some ⟨b0, off, none⟩) ls.length c] 23)).cell? ⟨wc.heap.size, 0, none⟩ = some (.slice (some ⟨b0, off, none⟩) ls.length c) := by
      rw [cell_of_row _ _ _ _ _ _ (heap_alloc_new wc _)]; rfl
    gi_wp2_with fail
    have hB2 : w.heap.size ≤ (wc.alloc (.cells #[.slice (some ⟨b0, off, none⟩) ls.length c] 23)).heap.size := by rw [World.size_alloc]; omega
    refine wpIn_rangeFunc_ownG (F := Fence.wide) (n := 6) rfl (by omega) (gf := 53) (lb := #[.pointer (some ⟨wc.heap.size, 0, none⟩)]) rfl trivial (enters_of Tryd.func53 (by kernel_rfl) rfl)
      (back_stops Fence.wide 5 trivial rfl (by omega) w n wc.heap.size w.heap.size b0 off ls.length c f hl (fun j hj => (hf j hj).1) hbl _ (by rw [World.size_alloc]; omega) hB2 hbox (fun j hj => (hbB.cell (p := ⟨b0, off + j, none⟩) hbl).trans (hf j hj).2.2))
      (fun h k => h.trans k) ?hKb (Below.refl _ _) (fun _ => rfl)
      (fun pre W => Ps w W bp bq gp gq n (pAcc n (pre.map (·.bs))) (qAcc n (pre.map (·.bs))))
      (fun _ _ _ => False)
      (fun s W W' row hs hg hr => ps_own hs hB2 hg hr)
      (fun _ _ _ _ _ hs _ _ => hs)
      HPb
      (fun x => { tmps := #[.slice (some ⟨b0, off, none⟩) ls.length c, .int .i64 n, undef, undef, .slice none 0 0, .slice none 0 0, .pointer (some ⟨bp, 0, none⟩), .pointer (some ⟨bq, 0, none⟩), u8, .slice x.A x.bs.length x.c, u10, u11, .slice (some ⟨gp, 0, none⟩) n n, u13, .slice (some ⟨gq, 0, none⟩) n n, .slice (some ⟨b0, off, none⟩) ls.length c, .func (.func 53) #[] #[.pointer (some ⟨wc.heap.size, 0, none⟩)], .int .i64 (x.idx : Int), .slice x.A x.bs.length x.c, u19, u20, u21, u22, u23, u24, u25, u26, u27, u28, u29, u30, u31, u32, u33, u34, u35, u36, u37, u38, u39, u40], defers := [] }) ?assign ?body ?done ?stop
    case hKb =>
      intro W l o o' hl hW ho hw
      refine ⟨belowK_b (w := w) (Nat.le_refl _) W l o o' (by omega) hW ho hw, ?_⟩
      rw [World.putObj_heap_other (by rw [World.size_alloc] at hl; omega)]
    case assign =>
      intro l x W K hK
      gi_wp2
      exact hK
    case body =>
      rintro l pre x W HI _
      generalize hLp : pAcc n (pre.map (·.bs)) = Lp at *
      generalize hLq : qAcc n (pre.map (·.bs)) = Lq at *
      have hcp : W.cell? ⟨bp, 0, none⟩ = some (.slice (some ⟨gp, 0, none⟩) n n) := by rw [cell_of_row _ _ _ _ _ _ HI.rp]; rfl
      have hadd := add_calls w W gp Lp x.bs x.A x.c n HI.cp HI.hgp HI.below x.rd (by rw [HI.lp]; exact x.le) (by rw [HI.lp]; exact hn2)
      rw [HI.lp] at hadd
      have Hadd := Lib.hid hadd
      have HI1 := ps_setP HI (xorL Lp x.bs) (by rw [xorL_len _ _ (by rw [HI.lp]; exact x.le), HI.lp])
      have hk1 := st_setRow (B := (wc.alloc (.cells #[.slice (some ⟨b0, off, none⟩) ls.length c] 23)).heap.size) (Bs := wc.heap.size) (xorL Lp x.bs) HI.cp HI.hgp (by have := (Array.getElem?_eq_some_iff.1 HP.out.cp).1; omega)
      have HS1 := Lib.hid (And.intro HI1 hk1)
      clear hadd HI1 hk1
      gi_wp2_with fail
      refine ⟨trivial, (CallsIn.inRound l (callsIn_wide.2 Hadd.out)).mono ?_⟩
      rintro e w' ⟨rfl, rfl⟩
      generalize W.setRow gp (bArr (xorL Lp x.bs)) = W1 at *
      have hcq : W1.cell? ⟨bq, 0, none⟩ = some (.slice (some ⟨gq, 0, none⟩) n n) := by rw [cell_of_row _ _ _ _ _ _ HS1.out.1.rq]; rfl
      gi_wp2_with fail
      gi_loopw [24] (fun i wr => ∃ k : Nat, k ≤ n ∧ i = .int .i64 k ∧ Hid (Ps w wr bp bq gp gq n (xorL Lp x.bs) (mapD (Lq.take k) ++ Lq.drop k) ∧ St (wc.alloc (.cells #[.slice (some ⟨b0, off, none⟩) ls.length c] 23)).heap.size w.heap.size wc.heap.size W wr)) (fun i _ => n - (intOf i).toNat)
      case atStart => exact ⟨0, by omega, rfl, Lib.hid (by simpa [mapD] using HS1.out)⟩
      case round =>
        obtain ⟨k, hk, rfl, G⟩ := hrel
        by_cases hlt : k < n
        · have hcq : wr.cell? ⟨bq, 0, none⟩ = some (.slice (some ⟨gq, 0, none⟩) n n) := by rw [cell_of_row _ _ _ _ _ _ G.out.1.rq]; rfl
          have hLl : Lq.length = n := HI.lq
          obtain ⟨hm1, hm2, hm3⟩ := mapD_step Lq k (by rw [hLl]; exact hlt)
          have hrc : wr.cell? ⟨gq, k, none⟩ = some (.int .u8 ((Lq.getD k 0).toNat : Int)) := by
            rw [cell_of_row _ _ _ _ _ _ G.out.1.cq, bArr_getD _ _ (by rw [hm3, hLl]; exact hlt), hm1]
          have hfz : wr.frozen? ⟨gq, k, none⟩ = false := frozen_of_row _ _ _ _ _ G.out.1.cq
          have hal := (Lq.getD k 0).toNat_lt
          have hdl := dbl_lt (Lq.getD k 0).toNat (by omega)
          have hst : wr.setCell ⟨gq, k, none⟩ (.int .u8 ((dbl (Lq.getD k 0).toNat : Nat) : Int)) = wr.setRow gq (bArr (mapD (Lq.take (k + 1)) ++ Lq.drop (k + 1))) := by
            rw [setCell_eq_setRow _ gq k _ _ _ _ G.out.1.cq, ← hm2, ← bArr_set, ofN _ hdl]
          have hG2 := ps_setQ G.out.1 (mapD (Lq.take (k + 1)) ++ Lq.drop (k + 1)) (by simp [mapD]; omega)
          have hS2 := st_trans G.out.2 (st_setRow (B := (wc.alloc (.cells #[.slice (some ⟨b0, off, none⟩) ls.length c] 23)).heap.size) (Bs := wc.heap.size) (mapD (Lq.take (k + 1)) ++ Lq.drop (k + 1)) G.out.1.cq HI.hgq (by have := (Array.getElem?_eq_some_iff.1 HP.out.cq).1; omega))
          rw [← hst] at hG2 hS2
          have HG2 := Lib.hid hG2
          have HS2 := Lib.hid hS2
          have hdc := Lib.hid (fun W => double_calls (Lq.getD k 0).toNat (by omega) W)
          clear hst hG2 hS2 hm1 hm2 hm3 hLq
          generalize (Lq.getD k 0).toNat = a at *
          gi_wp2_with fail
          gi_region_with (refine ⟨trivial, (CallsIn.inRound l (callsIn_wide.2 (hdc.out _))).mono ?_⟩; rintro e w' ⟨rfl, rfl⟩)
          all_goals
            gi_wp2_with fail
            exact ⟨⟨k + 1, by omega, by go_num, Lib.hid (by first | exact ⟨ps_drew HG2.out, st_drew HS2.out⟩ | exact ⟨HG2.out, HS2.out⟩)⟩, by simp [intOf]; omega⟩
        · obtain rfl : n = k := by omega
          have hcq : wr.cell? ⟨bq, 0, none⟩ = some (.slice (some ⟨gq, 0, none⟩) n n) := by rw [cell_of_row _ _ _ _ _ _ G.out.1.rq]; rfl
          have hG := G.out.1
          rw [List.take_of_length_le (by rw [HI.lq]; exact Nat.le_refl _), List.drop_of_length_le (by rw [HI.lq]; exact Nat.le_refl _), List.append_nil] at hG
          have hml : (mapD Lq).length = n := hG.lq
          have hadd2 := add_calls w wr gq (mapD Lq) x.bs x.A x.c n hG.cq hG.hgq hG.below x.rd (by rw [hml]; exact x.le) (by rw [hml]; exact hn2)
          rw [hml] at hadd2
          have Hadd2 := Lib.hid hadd2
          have hE := ps_setQ hG (xorL (mapD Lq) x.bs) (by rw [xorL_len _ _ (by rw [hml]; exact x.le), hml])
          have hS2 := st_trans G.out.2 (st_setRow (B := (wc.alloc (.cells #[.slice (some ⟨b0, off, none⟩) ls.length c] 23)).heap.size) (Bs := wc.heap.size) (xorL (mapD Lq) x.bs) hG.cq HI.hgq (by have := (Array.getElem?_eq_some_iff.1 HP.out.cq).1; omega))
          have HE := Lib.hid (And.intro hS2 hE)
          have HL1 := Lib.hid (show pAcc n ((pre ++ [x]).map (·.bs)) = xorL Lp x.bs by rw [List.map_append, List.map_cons, List.map_nil, pAcc_snoc, hLp])
          have HL2 := Lib.hid (show qAcc n ((pre ++ [x]).map (·.bs)) = xorL (mapD Lq) x.bs by rw [List.map_append, List.map_cons, List.map_nil, qAcc_snoc, hLq])
          clear hadd2 hE hS2 hG hLp hLq
          gi_wp2_with fail
          refine ⟨trivial, (CallsIn.inRound l (callsIn_wide.2 Hadd2.out)).mono ?_⟩
          rintro e w' ⟨rfl, rfl⟩
          gi_wp2_with fail
          refine ⟨HE.out.1.1, HE.out.1.2, ?_⟩
          show Ps w _ bp bq gp gq n (pAcc n ((pre ++ [x]).map (·.bs))) (qAcc n ((pre ++ [x]).map (·.bs)))
          rw [HL1.out, HL2.out]
          exact HE.out.2
    case done =>
      rintro D ys W hD rfl HI hK
      have hrev : (upto (fun k => f (ls.length - 1 - k)) ls.length).map (·.bs) = ls.reverse := by
        apply List.ext_getElem
        · simp [upto]
        · intro i h1 h2
          have hi : i < ls.length := by simpa [upto] using h1
          simp only [upto, List.getElem_map, List.getElem_range, List.getElem_reverse]
          exact (hf (ls.length - 1 - i) (by omega)).2.1
      have HI2 : Ps w W bp bq gp gq n (pAcc n ls.reverse) (qAcc n ls.reverse) := by rw [← hrev]; exact HI
      have hcp : W.cell? ⟨bp, 0, none⟩ = some (.slice (some ⟨gp, 0, none⟩) n n) := by rw [cell_of_row _ _ _ _ _ _ HI2.rp]; rfl
      have hcq : W.cell? ⟨bq, 0, none⟩ = some (.slice (some ⟨gq, 0, none⟩) n n) := by rw [cell_of_row _ _ _ _ _ _ HI2.rq]; rfl
      have H2 := Lib.hid HI2
      have HK := Lib.hid hK
      clear HI HI2 hrev hK
      gi_wp2_with fail
      gi_region
      all_goals
        gi_wp2_with fail
      have HF := ps_own (B := (wc.alloc (.cells #[.slice (some ⟨b0, off, none⟩) ls.length c] 23)).heap.size) (ps_drew H2.out) hB2 (grownBy_putObj' W.drew D (.deferred none)) (fun r e => by cases e; exact ⟨hD, _, HK.out, rfl⟩)
      refine ⟨by simp, .inl ⟨_, _, rfl, run_takeDeferred HK.out, ?_⟩⟩
      exact ⟨_, results_tmp2 rfl _ _ _, gp, gq, rfl, HF.cp, HF.cq, HF.hgp, HF.hgq, HF.ne, HF.below⟩
    case stop =>
      rintro D c pre W _ _ h _
      exact h.elim
end Go.Proofs.YtfajgnaphekdhaaDoor
