/- The walk of space.Load's loop. -/
import Derived.Test.YtgkamdgegfioiaaDoorLdp
namespace Go.Proofs.YtgkamdgegfioiaaDoor
open Go.RowKit Go.Shelf
set_option linter.unusedSimpArgs false
set_option linter.unusedVariables false
attribute [local go_sem] Oper.semAt_some
def LdPost (w : World) (r K : Nat) (bs : List UInt8) (e : Ending) (w' : World) : Prop :=
  match loadF r 0 K bs with
  | none => e = .returned (.tuple #[.pointer none, errE 7]) ∧ Below w.heap.size w w'
  | some ps => ∃ R v, e = .returned (.tuple #[.pointer (some ⟨R, 0, none⟩), .nilIface]) ∧ Sp w' w.heap.size R v r ps ∧ Below w.heap.size w w'
theorem bs_from (g N c : Nat) (h4 : 4 ≤ N) (hc : N ≤ c) : ∃ A' c', (∀ W, (Instr.sliceAt 22 (.slice (some ⟨g, 0, none⟩) N c) (some (.int .i64 4)) none none).run Tryd.prog W = .ok (.slice A' (N - 4) c') W) ∧ (0 < N - 4 → A' = some ⟨g, 4, none⟩) ∧ N - 4 ≤ c' := by
  obtain ⟨i5, hi5, hz0, hz1, hz2⟩ := info_parts info5
  have b1 : (4 : Int) ≤ (N : Int) := by omega
  have b2 : ¬ N < 4 := by omega
  by_cases hcp : c = 4
  · refine ⟨some ⟨g, 0, none⟩, 0, fun W => ?_, fun h => by omega, by omega⟩
    have : N = 4 := by omega
    subst this
    subst hcp
    simp [Instr.sliceAt, Instr.slice, run_underlying Tryd.underlying22, Instr.sliceBounds, Instr.sliceBound, asIntOf, sizeOf, typeInfo, hi5, hz1]
  · refine ⟨some ⟨g, 4, none⟩, c - 4, fun W => ?_, fun _ => rfl, by omega⟩
    have hadd : (⟨g, 0, none⟩ : Addr).add 4 = ⟨g, 4, none⟩ := by unfold Addr.add; split <;> simp_all
    simp [Instr.sliceAt, Instr.slice, run_underlying Tryd.underlying22, Instr.sliceBounds, Instr.sliceBound, asIntOf, b1, b2, hcp, sizeOf, typeInfo, hi5, hz1, hadd]
theorem bs18a (g oy : Nat) (W : World) : (Instr.sliceAt 22 (.slice (some ⟨g, oy, none⟩) 18 18) none (some (.int .i64 4)) none).run Tryd.prog W = .ok (.slice (some ⟨g, oy, none⟩) 4 18) W := by
  obtain ⟨i5, hi5, hz0, hz1, hz2⟩ := info_parts info5
  have hadd : ∀ k, (⟨g, oy, none⟩ : Addr).add k = ⟨g, oy + k, none⟩ := fun k => by unfold Addr.add; split <;> simp_all
  simp [Instr.sliceAt, Instr.slice, run_underlying Tryd.underlying22, Instr.sliceBounds, Instr.sliceBound, asIntOf, sizeOf, typeInfo, hi5, hz1, hadd]
theorem bs18b (g oy : Nat) (W : World) : (Instr.sliceAt 22 (.slice (some ⟨g, oy, none⟩) 18 18) (some (.int .i64 4)) (some (.int .i64 8)) none).run Tryd.prog W = .ok (.slice (some ⟨g, oy + 4, none⟩) 4 14) W := by
  obtain ⟨i5, hi5, hz0, hz1, hz2⟩ := info_parts info5
  have hadd : ∀ k, (⟨g, oy, none⟩ : Addr).add k = ⟨g, oy + k, none⟩ := fun k => by unfold Addr.add; split <;> simp_all
  simp [Instr.sliceAt, Instr.slice, run_underlying Tryd.underlying22, Instr.sliceBounds, Instr.sliceBound, asIntOf, sizeOf, typeInfo, hi5, hz1, hadd]
theorem bs18c (g oy : Nat) (W : World) : (Instr.sliceAt 22 (.slice (some ⟨g, oy, none⟩) 18 18) (some (.int .i64 8)) (some (.int .i64 10)) none).run Tryd.prog W = .ok (.slice (some ⟨g, oy + 8, none⟩) 2 10) W := by
  obtain ⟨i5, hi5, hz0, hz1, hz2⟩ := info_parts info5
  have hadd : ∀ k, (⟨g, oy, none⟩ : Addr).add k = ⟨g, oy + k, none⟩ := fun k => by unfold Addr.add; split <;> simp_all
  simp [Instr.sliceAt, Instr.slice, run_underlying Tryd.underlying22, Instr.sliceBounds, Instr.sliceBound, asIntOf, sizeOf, typeInfo, hi5, hz1, hadd]
theorem bs18d (g oy : Nat) (W : World) : (Instr.sliceAt 22 (.slice (some ⟨g, oy, none⟩) 18 18) (some (.int .i64 10)) none none).run Tryd.prog W = .ok (.slice (some ⟨g, oy + 10, none⟩) 8 8) W := by
  obtain ⟨i5, hi5, hz0, hz1, hz2⟩ := info_parts info5
  have hadd : ∀ k, (⟨g, oy, none⟩ : Addr).add k = ⟨g, oy + k, none⟩ := fun k => by unfold Addr.add; split <;> simp_all
  simp [Instr.sliceAt, Instr.slice, run_underlying Tryd.underlying22, Instr.sliceBounds, Instr.sliceBound, asIntOf, sizeOf, typeInfo, hi5, hz1, hadd]
theorem run_onePc (w : World) (pa pn pc pt : Nat) : (Instr.buildSlice 86 1 #[(0, .agg #[.int .i64 (pa : Int), .int .i64 (pn : Int), .int .i64 (pc : Int), .int .u64 (pt : Int), .bool true])]).run Tryd.prog w = .ok (.slice (some ⟨w.heap.size, 0, none⟩) 1 1) (w.alloc (.cells #[.int .i64 (pa : Int), .int .i64 (pn : Int), .int .i64 (pc : Int), .int .u64 (pt : Int), .bool true] 90)) := by
  obtain ⟨i5, hi, hz0, hz1, hz2⟩ := info_parts infoPc
  simp [Instr.buildSlice, run_underlying Tryd.underlying86, sizeOf, typeInfo, hi, hz0, hz1, zeroValue, Instr.fill, newRow, Value.cells, show Array.range 1 = #[0] from rfl, show Array.range 5 = #[0, 1, 2, 3, 4] from rfl]
set_option maxRecDepth 100000 in
set_option maxHeartbeats 16000000 in
theorem load_loop (w : World) (g c : Nat) (b : List UInt8) (N r : Nat) (hN : b.length = N) (hc : N ≤ c) (hr : Rd w (some ⟨g, 0, none⟩) b) (hl : N ≤ 140737488351232) (h4 : 4 ≤ N) (h18 : (N - 4) % 18 = 0) (hr4 : le (b.take 4) = r) (hrm : r ≤ 1073741824) :
    Calls Tryd.prog 26 #[.slice (some ⟨g, 0, none⟩) N c] w fun e w' => LdPost w r ((N - 4) / 18) (b.drop 4) e w' := by
  obtain ⟨W, hW, hb, x2, x3, hsz⟩ := ld_boxes w
  have hrW : Rd W (some ⟨g, 0, none⟩) (b.take 4) := rd_take (hr.below hb) 4
  have hget := get_calls W (some ⟨g, 0, none⟩) c (b.take 4) 4 (by rw [List.length_take]; omega) hrW (by omega)
  rw [hr4] at hget
  have Hget := Lib.hid hget
  have Hnew := Lib.hid (new_calls r W hrm)
  have hsl := fun W => bs_upto g N c 4 (by omega) W
  obtain ⟨A', c', hsl4, hA', hc'⟩ := bs_from g N c h4 hc
  have hr0 : ∀ x : Ck (N - 4), Rd w (some ⟨g, 4 + 18 * x.k, none⟩) (chunkAt (b.drop 4) x.k) := fun x j hj => by
    unfold chunkAt at hj ⊢
    simp only [List.length_take, List.length_drop] at hj
    obtain ⟨ad, e, hh⟩ := hr (4 + 18 * x.k + j) (by omega)
    cases e
    refine ⟨_, rfl, ?_⟩
    have e1 : (⟨g, 4 + 18 * x.k, none⟩ : Addr).add j = (⟨g, 0, none⟩ : Addr).add (4 + 18 * x.k + j) := by unfold Addr.add; split <;> split <;> simp_all <;> omega
    rw [e1, hh]
    simp
  have hx18 : ∀ x : Ck (N - 4), x.len = 18 ∧ (chunkAt (b.drop 4) x.k).length = 18 := fun x => by
    have := x.hk
    unfold Ck.len chunkAt
    rw [List.length_take, List.length_drop, List.length_drop, hN]
    omega
  have Hr0 := Lib.hid hr0
  have Hx18 := Lib.hid hx18
  have HA' := Lib.hid hA'
  have HX := Lib.hid (And.intro hb (And.intro x2 (And.intro x3 hsz)))
  obtain ⟨L, hL⟩ : ∃ L, N - 4 = L := ⟨_, rfl⟩
  have h1 : ¬ (N : Int) < 4 := by omega
  have h2 : (((N : Int) - 4) % 18 != 0) = false := by
    have : ((N : Int) - 4) % 18 = 0 := by omega
    rw [this]; rfl
  have hrf : r < 4294967296 := by omega
  obtain ⟨bs, hbs⟩ : ∃ bs, b.drop 4 = bs := ⟨_, rfl⟩
  rw [hbs] at Hr0 Hx18 ⊢
  rw [hL] at hsl4 HA' Hr0 Hx18 hc' ⊢
  have hL2 : L ≤ 140737488351232 := by omega
  have HL18 := Lib.hid (show L % 18 = 0 by rw [← hL]; exact h18)
  clear hr hN hget hrW hr0 hx18 hA' hb x2 x3 hsz h18 hr4 hbs
  refine (callsIn_wide (n := 6)).1 ?_
  refine callsIn_of_wp_marks Tryd.func26 rfl trivial ?_ rfl
  simp only [Tryd.ntmps26, List.size_toArray, List.length_cons, List.length_nil, Nat.reduceAdd, Nat.reduceSub, Array.replicate_succ, Array.replicate_zero, List.push_toArray, List.append_toArray, List.nil_append, List.cons_append]
  gi_wp2_with fail
  refine ⟨trivial, (callsIn_wide.2 Hget.out).mono ?_⟩
  rintro e w' ⟨rfl, rfl⟩
  gi_wp2_with fail
  refine ⟨trivial, (callsIn_wide.2 Hnew.out).mono ?_⟩
  rintro e W1 ⟨rfl, hs1, hb1⟩
  have HS1 := Lib.hid (And.intro hs1 hb1)
  clear hs1 hb1 Hget Hnew
  gi_wp2_with fail
  refine ⟨trivial, (chunk_in Fence.wide 5 trivial rfl _ _ _ _).mono ?_⟩
  rintro e W2 ⟨rfl, hW2⟩
  gi_wp2_with fail
  rw [← hW2]
  obtain ⟨b2, hb2⟩ : ∃ b2, w.heap.size = b2 := ⟨_, rfl⟩
  obtain ⟨b3, hb3⟩ : ∃ b3, w.heap.size + 1 = b3 := ⟨_, rfl⟩
  obtain ⟨R, hR⟩ : ∃ R, W.heap.size = R := ⟨_, rfl⟩
  obtain ⟨b4, hb4⟩ : ∃ b4, W1.heap.size = b4 := ⟨_, rfl⟩
  obtain ⟨b6, hb6⟩ : ∃ b6, W1.heap.size + 1 = b6 := ⟨_, rfl⟩
  obtain ⟨Bs, hBs⟩ : ∃ Bs, W1.heap.size + 1 + 1 = Bs := ⟨_, rfl⟩
  obtain ⟨hb, x2, x3, hsz⟩ := HX.out
  obtain ⟨hs1, hb1⟩ := HS1.out
  have hs1sz := hb1.size
  have hRW1 : W.heap.size < W1.heap.size := (Array.getElem?_eq_some_iff.1 hs1.row).1
  have hbW1 : Below w.heap.size w W1 := hb.trans (hb1.mono hb.size)
  have HI := Lib.hid (show Ldi w W2 b2 b3 b4 b6 Bs R r (endS 0 []) (.slice none 0 0) [] A' L c' ∧ loadL r 0 (([] : List (Ck L)).map (fun x => chunkAt bs x.k)) = some [] from by
    have y4 := (((Bx.new W1 24 #[.pointer (some ⟨R, 0, none⟩)]).alloc (.cells #[.int .i64 0] 3)).alloc (.cells #[.slice A' L c'] 22)).alloc (.cells #[.int .i64 18] 3)
    have y6 := ((Bx.new (W1.alloc (.cells #[.pointer (some ⟨R, 0, none⟩)] 24)) 3 #[.int .i64 0]).alloc (.cells #[.slice A' L c'] 22)).alloc (.cells #[.int .i64 18] 3)
    have yB := (Bx.new ((W1.alloc (.cells #[.pointer (some ⟨R, 0, none⟩)] 24)).alloc (.cells #[.int .i64 0] 3)) 22 #[.slice A' L c']).alloc (.cells #[.int .i64 18] 3)
    have yC := Bx.new (((W1.alloc (.cells #[.pointer (some ⟨R, 0, none⟩)] 24)).alloc (.cells #[.int .i64 0] 3)).alloc (.cells #[.slice A' L c'] 22)) 3 #[.int .i64 18]
    simp only [World.size_alloc] at y4 y6 yB yC
    rw [hR] at hW2
    rw [← hW2, hb4] at y4
    rw [← hW2, hb6] at y6
    rw [← hW2, hBs] at yB
    rw [← hW2, hBs] at yC
    have hB2 : Below W1.heap.size W1 W2 := by
      rw [hW2]
      exact ((((Below.refl _ _).alloc (Nat.le_refl _) _).alloc (by simp) _).alloc (by simp; omega) _).alloc (by simp; omega) _
    have hsp := hs1.below hB2
    rw [hR] at hsp
    exact ⟨⟨hbW1.trans (hB2.mono hbW1.size), by omega, by omega, by omega, by omega, by omega, by rw [← hb2]; exact (x2.below hb1 x2.lt).below hB2 (x2.below hb1 x2.lt).lt, by rw [← hb3]; exact (x3.below hb1 x3.lt).below hB2 (x3.below hb1 x3.lt).lt, y4, y6, yB, yC, hsp.mono (by omega)⟩, rfl⟩)
  have hn0 : w.heap.size ≤ W2.heap.size := HI.out.1.below.size
  have hBsl : Bs + 1 < W2.heap.size := HI.out.1.rC.lt
  have HZ := Lib.hid (And.intro hb2 (And.intro hb3 (And.intro hb4 hb6)))
  rw [hb3, hR, hBs, hb6, hb4, hb2]
  clear hW2 hb2 hb3 hR hb4 hb6 hBs hb x2 x3 hsz hs1 hb1 hs1sz hRW1 hbW1 HX HS1 hW
  refine wpIn_rangeFunc_ownG (F := Fence.wide) (n := 6) rfl (by omega) (gf := 69) (lb := #[.pointer (some ⟨Bs, 0, none⟩), .pointer (some ⟨Bs + 1, 0, none⟩)]) rfl trivial (enters_of Tryd.func69 (by kernel_rfl) rfl)
    (chunk_stops Fence.wide 5 trivial rfl (by omega) Bs w.heap.size g 4 L c' A' HA'.out hL2 hc' W2 hBsl (HI.out.1.rB.cell 0) (HI.out.1.rC.cell 0))
    (fun h k => h.trans k) ?hKb (Below.refl _ _) (fun _ => rfl)
    (fun pre W => ∃ v ps, Ldi w W b2 b3 b4 b6 Bs R r (endS 0 ps) v ps A' L c' ∧ loadL r 0 (pre.map (fun x => chunkAt bs x.k)) = some ps)
    (fun c pre W => c = .ret ∧ loadL r 0 (pre.map (fun x => chunkAt bs x.k)) = none ∧ Bx W b2 24 #[.pointer none] ∧ Bx W b3 62 #[errE 7] ∧ Below w.heap.size w W)
    ?hI ?hIx ⟨_, _, HI.out⟩
    (fun x => { tmps := #[.slice (some ⟨g, 0, none⟩) N c, undef, .pointer (some ⟨b2, 0, none⟩), .pointer (some ⟨b3, 0, none⟩), .pointer (some ⟨b4, 0, none⟩), .nilIface, .pointer (some ⟨b6, 0, none⟩), .slice (some ⟨g, 4 + 18 * x.k, none⟩) x.len x.len, undef, .slice (some ⟨g, 0, none⟩) N c, .int .i64 (N : Int), .bool false, .bool false, .slice (some ⟨g, 0, none⟩) N c, .int .i64 (N : Int), .int .i64 ((N : Int) - 4), .int .i64 (((N : Int) - 4) % 18), .bool false, .bool false, undef, .tuple #[.pointer (some ⟨R, 0, none⟩), .nilIface], .slice (some ⟨g, 0, none⟩) N c, .slice (some ⟨g, 0, none⟩) 4 c, .int .u64 (r : Int), .int .i64 (r : Int), .tuple #[.pointer (some ⟨R, 0, none⟩), .nilIface], .pointer (some ⟨R, 0, none⟩), .nilIface, .nilIface, .bool false, undef, .slice (some ⟨g, 0, none⟩) N c, .slice A' L c', .func (.func 69) #[] #[.pointer (some ⟨Bs, 0, none⟩), .pointer (some ⟨Bs + 1, 0, none⟩)], .slice (some ⟨g, 4 + 18 * x.k, none⟩) x.len x.len, undef, undef, undef, undef, undef, undef, undef, undef, undef, undef, undef, undef, undef, undef, undef, undef, undef, undef, undef, undef, undef, undef, undef, undef, undef, undef, undef, undef, undef, undef, undef, undef, undef, undef, undef, undef, undef, undef, undef, undef, undef, undef, undef, undef, undef, undef, undef, undef, undef, undef, undef, undef, undef, undef, undef, undef, undef], defers := [] }) ?assign ?body ?done ?stop
  case hKb =>
    intro W l ob ob' hl hW ho hw
    refine ⟨belowK_b (w := w) (Nat.le_refl _) W l ob ob' (by omega) hW ho hw, ?_, ?_⟩
    · rw [World.putObj_heap_other (by omega)]
    · rw [World.putObj_heap_other (by omega)]
  case hI =>
    rintro s W W' row ⟨v, ps, h1, h2⟩ hg hr
    exact ⟨v, ps, h1.owned hn0 hg hr, h2⟩
  case hIx =>
    rintro c s W W' row ⟨h1, h2, h3, h4, h5⟩ hg hr
    exact ⟨h1, h2, h3.grown hg (fun q e => (hr q e).2), h4.grown hg (fun q e => (hr q e).2), h5.grown hg h5.size (fun k e => by have := (hr k e).1; omega)⟩
  case assign =>
    intro l x W K hK
    unfold Ck.args
    gi_wp2
    exact hK
  case body =>
    rintro l pre x W ⟨v, ps, HJ, hld⟩ _
    obtain ⟨hx1, hx2⟩ := Hx18.out x
    have hrd := Hr0.out x
    obtain ⟨cb, hcb⟩ : ∃ cb, chunkAt bs x.k = cb := ⟨_, rfl⟩
    obtain ⟨oy, hoy⟩ : ∃ oy, 4 + 18 * x.k = oy := ⟨_, rfl⟩
    rw [hcb] at hx2 hrd
    rw [hoy] at hrd
    have hsn : loadL r 0 ((pre ++ [x]).map (fun x => chunkAt bs x.k)) = if badP r (endS 0 ps) (decP cb) then none else some (ps ++ [decP cb]) := by
      rw [List.map_append, List.map_cons, List.map_nil, hcb]
      exact loadL_snoc hld
    obtain ⟨q1, q2, q3, q4, q5⟩ := decP_bounds hx2
    have hsub : ∀ k m, k + m ≤ 18 → Rd w (some ⟨g, oy + k, none⟩) ((cb.drop k).take m) := fun k m hkm j hj => by
      simp only [List.length_take, List.length_drop] at hj
      obtain ⟨ad, e, hh⟩ := hrd (k + j) (by omega)
      cases e
      refine ⟨_, rfl, ?_⟩
      have e1 : (⟨g, oy + k, none⟩ : Addr).add j = (⟨g, oy, none⟩ : Addr).add (k + j) := by unfold Addr.add; split <;> split <;> simp_all <;> omega
      rw [e1, hh]
      simp
    have s1 := hsub 0 4 (by omega)
    have s2 := hsub 4 4 (by omega)
    have s3 := hsub 8 2 (by omega)
    have s4 := hsub 10 8 (by omega)
    obtain ⟨⟨pa, pn, pc, pt, po⟩, hp⟩ : ∃ q, decP cb = q := ⟨_, rfl⟩
    have l1 : le (cb.take 4) = pa := congrArg Pc.at_ hp
    have l2 : le ((cb.drop 4).take 4) = pn := congrArg Pc.n hp
    have l3 : le ((cb.drop 8).take 2) = pc := congrArg Pc.cnt hp
    have l4 : le (cb.drop 10) = pt := congrArg Pc.tag hp
    rw [hp] at q1 q2 q3 q4 q5 hsn
    simp only at q1 q2 q3 q4 q5
    subst q5
    have hg1 := Lib.hid (show ∀ V, Below w.heap.size w V → Calls Tryd.prog 52 #[.slice (some ⟨g, oy, none⟩) 4 18] V fun e w' => e = .returned (.int .u64 (pa : Int)) ∧ V = w' from fun V hV => by
      have := get_calls V (some ⟨g, oy, none⟩) 18 (cb.take 4) 4 (by rw [List.length_take]; omega) (s1.below hV) (by omega)
      rw [l1] at this
      exact this)
    have hg2 := Lib.hid (show ∀ V, Below w.heap.size w V → Calls Tryd.prog 52 #[.slice (some ⟨g, oy + 4, none⟩) 4 14] V fun e w' => e = .returned (.int .u64 (pn : Int)) ∧ V = w' from fun V hV => by
      have := get_calls V (some ⟨g, oy + 4, none⟩) 14 ((cb.drop 4).take 4) 4 (by rw [List.length_take, List.length_drop]; omega) (s2.below hV) (by omega)
      rw [l2] at this
      exact this)
    have hg3 := Lib.hid (show ∀ V, Below w.heap.size w V → Calls Tryd.prog 52 #[.slice (some ⟨g, oy + 8, none⟩) 2 10] V fun e w' => e = .returned (.int .u64 (pc : Int)) ∧ V = w' from fun V hV => by
      have := get_calls V (some ⟨g, oy + 8, none⟩) 10 ((cb.drop 8).take 2) 2 (by rw [List.length_take, List.length_drop]; omega) (s3.below hV) (by omega)
      rw [l3] at this
      exact this)
    have hg4 := Lib.hid (show ∀ V, Below w.heap.size w V → Calls Tryd.prog 52 #[.slice (some ⟨g, oy + 10, none⟩) 8 8] V fun e w' => e = .returned (.int .u64 (pt : Int)) ∧ V = w' from fun V hV => by
      have := get_calls V (some ⟨g, oy + 10, none⟩) 8 ((cb.drop 10).take 8) 8 (by rw [List.length_take, List.length_drop]; omega) (s4.below hV) (by omega)
      rw [List.take_of_length_le (by rw [List.length_drop]; omega), l4] at this
      exact this)
    have t1 := fun W => bs18a g oy W
    have t2 := fun W => bs18b g oy W
    have t3 := fun W => bs18c g oy W
    have t4 := fun W => bs18d g oy W
    have w1 : IntKind.i64.wrap (pa : Int) = (pa : Int) := by rw [IntKind.wrap_i64]; omega
    have w2 : IntKind.i64.wrap (pn : Int) = (pn : Int) := by rw [IntKind.wrap_i64]; omega
    have w3 : IntKind.i64.wrap (pc : Int) = (pc : Int) := by rw [IntKind.wrap_i64]; omega
    have hBd : Below w.heap.size w W.drew := HJ.below.drew
    have hBa : Below w.heap.size w (W.drew.alloc (.cells #[.int .i64 0, .int .i64 0, .int .i64 0, .int .u64 0, .bool false] 90)) := HJ.below.drew.alloc HJ.below.size _
    have Hs := Lib.hid (And.intro HJ hsn)
    rw [hx1, hoy]
    clear hsub s1 s2 s3 s4 l1 l2 l3 l4 hp hcb hoy hx1 hx2 hrd HJ hsn hld
    gi_wp2_with fail
    gi_cut [8] from 35 (fun v8 wc => v8 = .pointer (some ⟨W.heap.size, 0, none⟩) ∧ wc = W.drew.alloc (.cells #[.int .i64 (pa : Int), .int .i64 (pn : Int), .int .i64 (pc : Int), .int .u64 (pt : Int), .bool true] 90))
    case first =>
      refine region_toRound (fun _ => True) (by kernel_rfl) (by kernel_rfl) (by rintro ⟨_, _, h⟩; exact h) trivial (fun hHeld => ?_)
      refine wpAnyH_take (i := 0) (v := ?_) rfl (by kernel_rfl) (by kernel_rfl) (by kernel_rfl) (fun _ _ _ h => h) (Or.inl ⟨by kernel_rfl, ?_⟩) (by assumption) ?_
      rotate_left
      · intro w hSw; (try dsimp only at hSw); go_simp; (try with_reducible rfl)
      try simp only [Act.put, List.setIfInBounds_toArray, List.set_cons_zero, List.set_cons_succ]
      refine wpAnyH_take (i := 1) (v := ?_) rfl (by kernel_rfl) (by kernel_rfl) (by kernel_rfl) (fun _ _ _ h => h) (Or.inl ⟨by kernel_rfl, ?_⟩) (by assumption) ?_
      rotate_left
      · intro w hSw; (try dsimp only at hSw); go_simp; (try with_reducible rfl)
      try simp only [Act.put, List.setIfInBounds_toArray, List.set_cons_zero, List.set_cons_succ]
      refine wpAnyH_take (i := 4) (v := ?_) rfl (by kernel_rfl) (by kernel_rfl) (by kernel_rfl) (fun _ _ _ h => h) (Or.inl ⟨by kernel_rfl, ?_⟩) (by assumption) ?_
      rotate_left
      · intro w hSw; (try dsimp only at hSw); go_simp; (try with_reducible rfl)
      try simp only [Act.put, List.setIfInBounds_toArray, List.set_cons_zero, List.set_cons_succ]
      refine wpAnyH_take (i := 5) (v := ?_) rfl (by kernel_rfl) (by kernel_rfl) (by kernel_rfl) (fun _ _ _ h => h) (Or.inl ⟨by kernel_rfl, ?_⟩) (by assumption) ?_
      rotate_left
      · intro w hSw; (try dsimp only at hSw); go_simp; (try with_reducible rfl)
      try simp only [Act.put, List.setIfInBounds_toArray, List.set_cons_zero, List.set_cons_succ]
      refine wpAnyH_take (i := 8) (v := ?_) rfl (by kernel_rfl) (by kernel_rfl) (by kernel_rfl) (fun _ _ _ h => h) (Or.inl ⟨by kernel_rfl, ?_⟩) (by assumption) ?_
      rotate_left
      · intro w hSw; (try dsimp only at hSw); go_simp; (try with_reducible rfl)
      try simp only [Act.put, List.setIfInBounds_toArray, List.set_cons_zero, List.set_cons_succ]
      refine wpAnyH_take (i := 9) (v := ?_) rfl (by kernel_rfl) (by kernel_rfl) (by kernel_rfl) (fun _ _ _ h => h) (Or.inl ⟨by kernel_rfl, ?_⟩) (by assumption) ?_
      rotate_left
      · intro w hSw; (try dsimp only at hSw); go_simp; (try with_reducible rfl)
      try simp only [Act.put, List.setIfInBounds_toArray, List.set_cons_zero, List.set_cons_succ]
      refine wpAnyH_take (i := 12) (v := ?_) rfl (by kernel_rfl) (by kernel_rfl) (by kernel_rfl) (fun _ _ _ h => h) (Or.inl ⟨by kernel_rfl, ?_⟩) (by assumption) ?_
      rotate_left
      · intro w hSw; (try dsimp only at hSw); go_simp; (try with_reducible rfl)
      try simp only [Act.put, List.setIfInBounds_toArray, List.set_cons_zero, List.set_cons_succ]
      refine wpAnyH_take (i := 13) (v := ?_) rfl (by kernel_rfl) (by kernel_rfl) (by kernel_rfl) (fun _ _ _ h => h) (Or.inl ⟨by kernel_rfl, ?_⟩) (by assumption) ?_
      rotate_left
      · intro w hSw; (try dsimp only at hSw); go_simp; (try with_reducible rfl)
      try simp only [Act.put, List.setIfInBounds_toArray, List.set_cons_zero, List.set_cons_succ]
      refine wpAnyH_ready (rs := [2, 17]) (by kernel_rfl) (by simp) ?_
      refine AllReadyH.cons rfl (fun K hK => ?_) (AllReadyH.cons rfl (fun K hK => ?_) AllReadyH.nil)
      · go_simp
        refine (hg1.out _ (by first | exact hBd | exact hBa)).mono ?_
        rintro e w' ⟨rfl, rfl⟩
        refine hK.out _ _ trivial (fun hHeld => ?_)
        clear hK K
        try simp only [Act.put, List.setIfInBounds_toArray, List.set_cons_zero, List.set_cons_succ]
        refine wpAnyH_take (i := 3) (v := ?_) rfl (by kernel_rfl) (by kernel_rfl) (by kernel_rfl) (fun _ _ _ h => h) (Or.inl ⟨by kernel_rfl, ?_⟩) (by assumption) ?_
        rotate_left
        · intro w hSw; (try dsimp only at hSw); go_simp; (try with_reducible rfl)
        try simp only [Act.put, List.setIfInBounds_toArray, List.set_cons_zero, List.set_cons_succ]
        refine wpAnyH_ready (rs := [6, 17]) (by kernel_rfl) (by simp) ?_
        refine AllReadyH.cons rfl (fun K hK => ?_) (AllReadyH.cons rfl (fun K hK => ?_) AllReadyH.nil)
        · go_simp
          refine (hg2.out _ (by first | exact hBd | exact hBa)).mono ?_
          rintro e w' ⟨rfl, rfl⟩
          refine hK.out _ _ trivial (fun hHeld => ?_)
          clear hK K
          try simp only [Act.put, List.setIfInBounds_toArray, List.set_cons_zero, List.set_cons_succ]
          refine wpAnyH_take (i := 7) (v := ?_) rfl (by kernel_rfl) (by kernel_rfl) (by kernel_rfl) (fun _ _ _ h => h) (Or.inl ⟨by kernel_rfl, ?_⟩) (by assumption) ?_
          rotate_left
          · intro w hSw; (try dsimp only at hSw); go_simp; (try with_reducible rfl)
          try simp only [Act.put, List.setIfInBounds_toArray, List.set_cons_zero, List.set_cons_succ]
          refine wpAnyH_ready (rs := [10, 17]) (by kernel_rfl) (by simp) ?_
          refine AllReadyH.cons rfl (fun K hK => ?_) (AllReadyH.cons rfl (fun K hK => ?_) AllReadyH.nil)
          · go_simp
            refine (hg3.out _ (by first | exact hBd | exact hBa)).mono ?_
            rintro e w' ⟨rfl, rfl⟩
            refine hK.out _ _ trivial (fun hHeld => ?_)
            clear hK K
            try simp only [Act.put, List.setIfInBounds_toArray, List.set_cons_zero, List.set_cons_succ]
            refine wpAnyH_take (i := 11) (v := ?_) rfl (by kernel_rfl) (by kernel_rfl) (by kernel_rfl) (fun _ _ _ h => h) (Or.inl ⟨by kernel_rfl, ?_⟩) (by assumption) ?_
            rotate_left
            · intro w hSw; (try dsimp only at hSw); go_simp; (try with_reducible rfl)
            try simp only [Act.put, List.setIfInBounds_toArray, List.set_cons_zero, List.set_cons_succ]
            refine wpAnyH_ready (rs := [14, 17]) (by kernel_rfl) (by simp) ?_
            refine AllReadyH.cons rfl (fun K hK => ?_) (AllReadyH.cons rfl (fun K hK => ?_) AllReadyH.nil)
            · go_simp
              refine (hg4.out _ (by first | exact hBd | exact hBa)).mono ?_
              rintro e w' ⟨rfl, rfl⟩
              refine hK.out _ _ trivial (fun hHeld => ?_)
              clear hK K
              try simp only [Act.put, List.setIfInBounds_toArray, List.set_cons_zero, List.set_cons_succ]
              refine wpAnyH_take (i := 15) (v := ?_) rfl (by kernel_rfl) (by kernel_rfl) (by kernel_rfl) (fun _ _ _ h => h) (Or.inl ⟨by kernel_rfl, ?_⟩) (by assumption) ?_
              rotate_left
              · intro w hSw; (try dsimp only at hSw); go_simp; (try with_reducible rfl)
              try simp only [Act.put, List.setIfInBounds_toArray, List.set_cons_zero, List.set_cons_succ]
              refine wpAnyH_take (i := 16) (v := ?_) rfl (by kernel_rfl) (by kernel_rfl) (by kernel_rfl) (fun _ _ _ h => h) (Or.inl ⟨by kernel_rfl, ?_⟩) (by assumption) ?_
              rotate_left
              · intro w hSw; (try dsimp only at hSw); go_simp; (try with_reducible rfl)
              try simp only [Act.put, List.setIfInBounds_toArray, List.set_cons_zero, List.set_cons_succ]
              refine wpAnyH_ready (rs := [17]) (by kernel_rfl) (by simp) ?_
              refine AllReadyH.cons rfl (fun K hK => ?_) AllReadyH.nil
              go_simp
              refine hK.out _ _ trivial (fun hHeld => ?_)
              clear hK K
              try simp only [Act.put, List.setIfInBounds_toArray, List.set_cons_zero, List.set_cons_succ]
              refine wpAnyH_ready (rs := [18]) (by kernel_rfl) (by simp) ?_
              refine AllReadyH.cons rfl (fun K hK => ?_) AllReadyH.nil
              go_simp
              refine hK.out _ _ trivial (fun hHeld => ?_)
              clear hK K
              try simp only [Act.put, List.setIfInBounds_toArray, List.set_cons_zero, List.set_cons_succ]
              refine wpAnyH_done (by kernel_rfl) ?_ _
              gi_wp2_with fail
              gi_meet
              case rel => exact ⟨rfl, rfl⟩
            · go_simp
              refine hK.out _ _ trivial (fun hHeld => ?_)
              clear hK K
              try simp only [Act.put, List.setIfInBounds_toArray, List.set_cons_zero, List.set_cons_succ]
              refine wpAnyH_ready (rs := [14]) (by kernel_rfl) (by simp) ?_
              refine AllReadyH.cons rfl (fun K hK => ?_) AllReadyH.nil
              go_simp
              refine (hg4.out _ (by first | exact hBd | exact hBa)).mono ?_
              rintro e w' ⟨rfl, rfl⟩
              refine hK.out _ _ trivial (fun hHeld => ?_)
              clear hK K
              try simp only [Act.put, List.setIfInBounds_toArray, List.set_cons_zero, List.set_cons_succ]
              refine wpAnyH_take (i := 15) (v := ?_) rfl (by kernel_rfl) (by kernel_rfl) (by kernel_rfl) (fun _ _ _ h => h) (Or.inl ⟨by kernel_rfl, ?_⟩) (by assumption) ?_
              rotate_left
              · intro w hSw; (try dsimp only at hSw); go_simp; (try with_reducible rfl)
              try simp only [Act.put, List.setIfInBounds_toArray, List.set_cons_zero, List.set_cons_succ]
              refine wpAnyH_take (i := 16) (v := ?_) rfl (by kernel_rfl) (by kernel_rfl) (by kernel_rfl) (fun _ _ _ h => h) (Or.inl ⟨by kernel_rfl, ?_⟩) (by assumption) ?_
              rotate_left
              · intro w hSw; (try dsimp only at hSw); go_simp; (try with_reducible rfl)
              try simp only [Act.put, List.setIfInBounds_toArray, List.set_cons_zero, List.set_cons_succ]
              refine wpAnyH_ready (rs := [18]) (by kernel_rfl) (by simp) ?_
              refine AllReadyH.cons rfl (fun K hK => ?_) AllReadyH.nil
              go_simp
              refine hK.out _ _ trivial (fun hHeld => ?_)
              clear hK K
              try simp only [Act.put, List.setIfInBounds_toArray, List.set_cons_zero, List.set_cons_succ]
              refine wpAnyH_done (by kernel_rfl) ?_ _
              gi_wp2_with fail
              gi_meet
              case rel => exact ⟨rfl, rfl⟩
          · go_simp
            refine hK.out _ _ trivial (fun hHeld => ?_)
            clear hK K
            try simp only [Act.put, List.setIfInBounds_toArray, List.set_cons_zero, List.set_cons_succ]
            refine wpAnyH_ready (rs := [10]) (by kernel_rfl) (by simp) ?_
            refine AllReadyH.cons rfl (fun K hK => ?_) AllReadyH.nil
            go_simp
            refine (hg3.out _ (by first | exact hBd | exact hBa)).mono ?_
            rintro e w' ⟨rfl, rfl⟩
            refine hK.out _ _ trivial (fun hHeld => ?_)
            clear hK K
            try simp only [Act.put, List.setIfInBounds_toArray, List.set_cons_zero, List.set_cons_succ]
            refine wpAnyH_take (i := 11) (v := ?_) rfl (by kernel_rfl) (by kernel_rfl) (by kernel_rfl) (fun _ _ _ h => h) (Or.inl ⟨by kernel_rfl, ?_⟩) (by assumption) ?_
            rotate_left
            · intro w hSw; (try dsimp only at hSw); go_simp; (try with_reducible rfl)
            try simp only [Act.put, List.setIfInBounds_toArray, List.set_cons_zero, List.set_cons_succ]
            refine wpAnyH_ready (rs := [14]) (by kernel_rfl) (by simp) ?_
            refine AllReadyH.cons rfl (fun K hK => ?_) AllReadyH.nil
            go_simp
            refine (hg4.out _ (by first | exact hBd | exact hBa)).mono ?_
            rintro e w' ⟨rfl, rfl⟩
            refine hK.out _ _ trivial (fun hHeld => ?_)
            clear hK K
            try simp only [Act.put, List.setIfInBounds_toArray, List.set_cons_zero, List.set_cons_succ]
            refine wpAnyH_take (i := 15) (v := ?_) rfl (by kernel_rfl) (by kernel_rfl) (by kernel_rfl) (fun _ _ _ h => h) (Or.inl ⟨by kernel_rfl, ?_⟩) (by assumption) ?_
            rotate_left
            · intro w hSw; (try dsimp only at hSw); go_simp; (try with_reducible rfl)
            try simp only [Act.put, List.setIfInBounds_toArray, List.set_cons_zero, List.set_cons_succ]
            refine wpAnyH_take (i := 16) (v := ?_) rfl (by kernel_rfl) (by kernel_rfl) (by kernel_rfl) (fun _ _ _ h => h) (Or.inl ⟨by kernel_rfl, ?_⟩) (by assumption) ?_
            rotate_left
            · intro w hSw; (try dsimp only at hSw); go_simp; (try with_reducible rfl)
            try simp only [Act.put, List.setIfInBounds_toArray, List.set_cons_zero, List.set_cons_succ]
            refine wpAnyH_ready (rs := [18]) (by kernel_rfl) (by simp) ?_
            refine AllReadyH.cons rfl (fun K hK => ?_) AllReadyH.nil
            go_simp
            refine hK.out _ _ trivial (fun hHeld => ?_)
            clear hK K
            try simp only [Act.put, List.setIfInBounds_toArray, List.set_cons_zero, List.set_cons_succ]
            refine wpAnyH_done (by kernel_rfl) ?_ _
            gi_wp2_with fail
            gi_meet
            case rel => exact ⟨rfl, rfl⟩
        · go_simp
          refine hK.out _ _ trivial (fun hHeld => ?_)
          clear hK K
          try simp only [Act.put, List.setIfInBounds_toArray, List.set_cons_zero, List.set_cons_succ]
          refine wpAnyH_ready (rs := [6]) (by kernel_rfl) (by simp) ?_
          refine AllReadyH.cons rfl (fun K hK => ?_) AllReadyH.nil
          go_simp
          refine (hg2.out _ (by first | exact hBd | exact hBa)).mono ?_
          rintro e w' ⟨rfl, rfl⟩
          refine hK.out _ _ trivial (fun hHeld => ?_)
          clear hK K
          try simp only [Act.put, List.setIfInBounds_toArray, List.set_cons_zero, List.set_cons_succ]
          refine wpAnyH_take (i := 7) (v := ?_) rfl (by kernel_rfl) (by kernel_rfl) (by kernel_rfl) (fun _ _ _ h => h) (Or.inl ⟨by kernel_rfl, ?_⟩) (by assumption) ?_
          rotate_left
          · intro w hSw; (try dsimp only at hSw); go_simp; (try with_reducible rfl)
          try simp only [Act.put, List.setIfInBounds_toArray, List.set_cons_zero, List.set_cons_succ]
          refine wpAnyH_ready (rs := [10]) (by kernel_rfl) (by simp) ?_
          refine AllReadyH.cons rfl (fun K hK => ?_) AllReadyH.nil
          go_simp
          refine (hg3.out _ (by first | exact hBd | exact hBa)).mono ?_
          rintro e w' ⟨rfl, rfl⟩
          refine hK.out _ _ trivial (fun hHeld => ?_)
          clear hK K
          try simp only [Act.put, List.setIfInBounds_toArray, List.set_cons_zero, List.set_cons_succ]
          refine wpAnyH_take (i := 11) (v := ?_) rfl (by kernel_rfl) (by kernel_rfl) (by kernel_rfl) (fun _ _ _ h => h) (Or.inl ⟨by kernel_rfl, ?_⟩) (by assumption) ?_
          rotate_left
          · intro w hSw; (try dsimp only at hSw); go_simp; (try with_reducible rfl)
          try simp only [Act.put, List.setIfInBounds_toArray, List.set_cons_zero, List.set_cons_succ]
          refine wpAnyH_ready (rs := [14]) (by kernel_rfl) (by simp) ?_
          refine AllReadyH.cons rfl (fun K hK => ?_) AllReadyH.nil
          go_simp
          refine (hg4.out _ (by first | exact hBd | exact hBa)).mono ?_
          rintro e w' ⟨rfl, rfl⟩
          refine hK.out _ _ trivial (fun hHeld => ?_)
          clear hK K
          try simp only [Act.put, List.setIfInBounds_toArray, List.set_cons_zero, List.set_cons_succ]
          refine wpAnyH_take (i := 15) (v := ?_) rfl (by kernel_rfl) (by kernel_rfl) (by kernel_rfl) (fun _ _ _ h => h) (Or.inl ⟨by kernel_rfl, ?_⟩) (by assumption) ?_
          rotate_left
          · intro w hSw; (try dsimp only at hSw); go_simp; (try with_reducible rfl)
          try simp only [Act.put, List.setIfInBounds_toArray, List.set_cons_zero, List.set_cons_succ]
          refine wpAnyH_take (i := 16) (v := ?_) rfl (by kernel_rfl) (by kernel_rfl) (by kernel_rfl) (fun _ _ _ h => h) (Or.inl ⟨by kernel_rfl, ?_⟩) (by assumption) ?_
          rotate_left
          · intro w hSw; (try dsimp only at hSw); go_simp; (try with_reducible rfl)
          try simp only [Act.put, List.setIfInBounds_toArray, List.set_cons_zero, List.set_cons_succ]
          refine wpAnyH_ready (rs := [18]) (by kernel_rfl) (by simp) ?_
          refine AllReadyH.cons rfl (fun K hK => ?_) AllReadyH.nil
          go_simp
          refine hK.out _ _ trivial (fun hHeld => ?_)
          clear hK K
          try simp only [Act.put, List.setIfInBounds_toArray, List.set_cons_zero, List.set_cons_succ]
          refine wpAnyH_done (by kernel_rfl) ?_ _
          gi_wp2_with fail
          gi_meet
          case rel => exact ⟨rfl, rfl⟩
      · go_simp
        refine hK.out _ _ trivial (fun hHeld => ?_)
        clear hK K
        try simp only [Act.put, List.setIfInBounds_toArray, List.set_cons_zero, List.set_cons_succ]
        refine wpAnyH_ready (rs := [2]) (by kernel_rfl) (by simp) ?_
        refine AllReadyH.cons rfl (fun K hK => ?_) AllReadyH.nil
        go_simp
        refine (hg1.out _ (by first | exact hBd | exact hBa)).mono ?_
        rintro e w' ⟨rfl, rfl⟩
        refine hK.out _ _ trivial (fun hHeld => ?_)
        clear hK K
        try simp only [Act.put, List.setIfInBounds_toArray, List.set_cons_zero, List.set_cons_succ]
        refine wpAnyH_take (i := 3) (v := ?_) rfl (by kernel_rfl) (by kernel_rfl) (by kernel_rfl) (fun _ _ _ h => h) (Or.inl ⟨by kernel_rfl, ?_⟩) (by assumption) ?_
        rotate_left
        · intro w hSw; (try dsimp only at hSw); go_simp; (try with_reducible rfl)
        try simp only [Act.put, List.setIfInBounds_toArray, List.set_cons_zero, List.set_cons_succ]
        refine wpAnyH_ready (rs := [6]) (by kernel_rfl) (by simp) ?_
        refine AllReadyH.cons rfl (fun K hK => ?_) AllReadyH.nil
        go_simp
        refine (hg2.out _ (by first | exact hBd | exact hBa)).mono ?_
        rintro e w' ⟨rfl, rfl⟩
        refine hK.out _ _ trivial (fun hHeld => ?_)
        clear hK K
        try simp only [Act.put, List.setIfInBounds_toArray, List.set_cons_zero, List.set_cons_succ]
        refine wpAnyH_take (i := 7) (v := ?_) rfl (by kernel_rfl) (by kernel_rfl) (by kernel_rfl) (fun _ _ _ h => h) (Or.inl ⟨by kernel_rfl, ?_⟩) (by assumption) ?_
        rotate_left
        · intro w hSw; (try dsimp only at hSw); go_simp; (try with_reducible rfl)
        try simp only [Act.put, List.setIfInBounds_toArray, List.set_cons_zero, List.set_cons_succ]
        refine wpAnyH_ready (rs := [10]) (by kernel_rfl) (by simp) ?_
        refine AllReadyH.cons rfl (fun K hK => ?_) AllReadyH.nil
        go_simp
        refine (hg3.out _ (by first | exact hBd | exact hBa)).mono ?_
        rintro e w' ⟨rfl, rfl⟩
        refine hK.out _ _ trivial (fun hHeld => ?_)
        clear hK K
        try simp only [Act.put, List.setIfInBounds_toArray, List.set_cons_zero, List.set_cons_succ]
        refine wpAnyH_take (i := 11) (v := ?_) rfl (by kernel_rfl) (by kernel_rfl) (by kernel_rfl) (fun _ _ _ h => h) (Or.inl ⟨by kernel_rfl, ?_⟩) (by assumption) ?_
        rotate_left
        · intro w hSw; (try dsimp only at hSw); go_simp; (try with_reducible rfl)
        try simp only [Act.put, List.setIfInBounds_toArray, List.set_cons_zero, List.set_cons_succ]
        refine wpAnyH_ready (rs := [14]) (by kernel_rfl) (by simp) ?_
        refine AllReadyH.cons rfl (fun K hK => ?_) AllReadyH.nil
        go_simp
        refine (hg4.out _ (by first | exact hBd | exact hBa)).mono ?_
        rintro e w' ⟨rfl, rfl⟩
        refine hK.out _ _ trivial (fun hHeld => ?_)
        clear hK K
        try simp only [Act.put, List.setIfInBounds_toArray, List.set_cons_zero, List.set_cons_succ]
        refine wpAnyH_take (i := 15) (v := ?_) rfl (by kernel_rfl) (by kernel_rfl) (by kernel_rfl) (fun _ _ _ h => h) (Or.inl ⟨by kernel_rfl, ?_⟩) (by assumption) ?_
        rotate_left
        · intro w hSw; (try dsimp only at hSw); go_simp; (try with_reducible rfl)
        try simp only [Act.put, List.setIfInBounds_toArray, List.set_cons_zero, List.set_cons_succ]
        refine wpAnyH_take (i := 16) (v := ?_) rfl (by kernel_rfl) (by kernel_rfl) (by kernel_rfl) (fun _ _ _ h => h) (Or.inl ⟨by kernel_rfl, ?_⟩) (by assumption) ?_
        rotate_left
        · intro w hSw; (try dsimp only at hSw); go_simp; (try with_reducible rfl)
        try simp only [Act.put, List.setIfInBounds_toArray, List.set_cons_zero, List.set_cons_succ]
        refine wpAnyH_ready (rs := [18]) (by kernel_rfl) (by simp) ?_
        refine AllReadyH.cons rfl (fun K hK => ?_) AllReadyH.nil
        go_simp
        refine hK.out _ _ trivial (fun hHeld => ?_)
        clear hK K
        try simp only [Act.put, List.setIfInBounds_toArray, List.set_cons_zero, List.set_cons_succ]
        refine wpAnyH_done (by kernel_rfl) ?_ _
        gi_wp2_with fail
        gi_meet
        case rel => exact ⟨rfl, rfl⟩
    case rest =>
      obtain ⟨rfl, rfl⟩ := hcut
      obtain ⟨HJ, hsn⟩ := Hs.out
      obtain ⟨b8, hb8⟩ : ∃ b8, W.heap.size = b8 := ⟨_, rfl⟩
      obtain ⟨V, hV⟩ : ∃ V, W.drew.alloc (.cells #[.int .i64 (pa : Int), .int .i64 (pn : Int), .int .i64 (pc : Int), .int .u64 (pt : Int), .bool true] 90) = V := ⟨_, rfl⟩
      obtain ⟨at_, hat⟩ : ∃ at_, endS 0 ps = at_ := ⟨_, rfl⟩
      obtain ⟨fn, hfn⟩ : ∃ fn, pa + pn = fn := ⟨_, rfl⟩
      rw [hat] at HJ hsn
      have HV : Ldi w V b2 b3 b4 b6 Bs R r at_ v ps A' L c' := by rw [← hV]; exact HJ.drew.alloc _
      have rP : Bx V b8 90 #[.int .i64 (pa : Int), .int .i64 (pn : Int), .int .i64 (pc : Int), .int .u64 (pt : Int), .bool true] := by
        have := Bx.new W.drew 90 #[.int .i64 (pa : Int), .int .i64 (pn : Int), .int .i64 (pc : Int), .int .u64 (pt : Int), .bool true]
        rw [hV] at this
        rw [← hb8]
        exact this
      have hWV : LdK w.heap.size Bs W2.heap.size W V := by rw [← hV]; exact (LdK.drewR W).trans (LdK.allocR W.drew _ HJ.below.size HJ.rC.lt)
      have hv8 : rowOf v ≠ some b8 := fun e => by
        have := (HJ.sp.own.row b8 e).2.1
        omega
      have hbp : badP r at_ ⟨pa, pn, pc, pt, true⟩ ↔ (pa < at_ ∨ pn < 1 ∨ pc = 0 ∨ r < fn) := by rw [← hfn]; exact Iff.rfl
      have hEnd := Lib.hid (show ∀ X, Calls Tryd.prog 48 #[.agg #[.int .i64 (pa : Int), .int .i64 (pn : Int), .int .i64 (pc : Int), .int .u64 (pt : Int), .bool true]] X fun e w' => e = .returned (.int .i64 (fn : Int)) ∧ w' = X.alloc (.cells #[.int .i64 (pa : Int), .int .i64 (pn : Int), .int .i64 (pc : Int), .int .u64 (pt : Int), .bool true] 90) from fun X => by
        have := end_calls ⟨pa, pn, pc, pt, true⟩ X (by show pa + pn ≤ _; omega)
        rw [show (⟨pa, pn, pc, pt, true⟩ : Pc).fin = fn from hfn] at this
        exact this)
      rw [hV, hb8]
      have z0 : V.cell? ⟨b8, 0, none⟩ = some (.int .i64 (pa : Int)) := rP.cell 0
      have z1 : V.cell? ⟨b8, 1, none⟩ = some (.int .i64 (pn : Int)) := rP.cell 1
      have z2 : V.cell? ⟨b8, 2, none⟩ = some (.int .i64 (pc : Int)) := rP.cell 2
      have z3 : V.cell? ⟨b8, 3, none⟩ = some (.int .u64 (pt : Int)) := rP.cell 3
      have z4 : V.cell? ⟨b8, 4, none⟩ = some (.bool true) := rP.cell 4
      have z5 : V.cell? ⟨b6, 0, none⟩ = some (.int .i64 (at_ : Int)) := HV.r6.cell 0
      have z6 : V.cell? ⟨b4, 0, none⟩ = some (.pointer (some ⟨R, 0, none⟩)) := HV.r4.cell 0
      have z7 : V.cell? ⟨R, 0, none⟩ = some (.int .i64 (r : Int)) := HV.sp.cells.1
      have HG := Lib.hid (And.intro HV (And.intro rP (And.intro hWV (And.intro hv8 (And.intro hbp (And.intro hsn hat))))))
      have hBl : b8 < V.heap.size := rP.lt
      have hS0 : V.drew.cell? ⟨b8, 0, none⟩ = some (.int .i64 (pa : Int)) ∧ V.drew.cell? ⟨b8, 1, none⟩ = some (.int .i64 (pn : Int)) ∧ V.drew.cell? ⟨b8, 2, none⟩ = some (.int .i64 (pc : Int)) ∧ V.drew.cell? ⟨b8, 3, none⟩ = some (.int .u64 (pt : Int)) ∧ V.drew.cell? ⟨b8, 4, none⟩ = some (.bool true) ∧ V.drew.cell? ⟨b6, 0, none⟩ = some (.int .i64 (at_ : Int)) ∧ V.drew.cell? ⟨b4, 0, none⟩ = some (.pointer (some ⟨R, 0, none⟩)) ∧ V.drew.cell? ⟨R, 0, none⟩ = some (.int .i64 (r : Int)) := ⟨z0, z1, z2, z3, z4, z5, z6, z7⟩
      have hS1 : ∀ o, (V.drew.alloc o).cell? ⟨b8, 0, none⟩ = some (.int .i64 (pa : Int)) ∧ (V.drew.alloc o).cell? ⟨b8, 1, none⟩ = some (.int .i64 (pn : Int)) ∧ (V.drew.alloc o).cell? ⟨b8, 2, none⟩ = some (.int .i64 (pc : Int)) ∧ (V.drew.alloc o).cell? ⟨b8, 3, none⟩ = some (.int .u64 (pt : Int)) ∧ (V.drew.alloc o).cell? ⟨b8, 4, none⟩ = some (.bool true) ∧ (V.drew.alloc o).cell? ⟨b6, 0, none⟩ = some (.int .i64 (at_ : Int)) ∧ (V.drew.alloc o).cell? ⟨b4, 0, none⟩ = some (.pointer (some ⟨R, 0, none⟩)) ∧ (V.drew.alloc o).cell? ⟨R, 0, none⟩ = some (.int .i64 (r : Int)) := fun o => by
        have rP' : Bx V.drew b8 90 #[.int .i64 (pa : Int), .int .i64 (pn : Int), .int .i64 (pc : Int), .int .u64 (pt : Int), .bool true] := rP
        have HV' := HV.drew.alloc o
        exact ⟨(rP'.alloc o).cell 0, (rP'.alloc o).cell 1, (rP'.alloc o).cell 2, (rP'.alloc o).cell 3, (rP'.alloc o).cell 4, HV'.r6.cell 0, HV'.r4.cell 0, HV'.sp.cells.1⟩
      have HS0 := Lib.hid hS0
      have HS1 := Lib.hid hS1
      clear hV hb8 hat HJ hsn HV rP hWV hv8 hS0 hS1 z0 z1 z2 z3 z4 z5 z6 z7 Hs t1 t2 t3 t4 hg1 hg2 hg3 hg4 hBd hBa
      gi_upto_region 10 with fail
      gi_cut [77] from 52 (fun v77 wc => v77 = .bool (decide (badP r at_ ⟨pa, pn, pc, pt, true⟩)) ∧ (wc = V.drew ∨ wc = V.drew.alloc (.cells #[.int .i64 (pa : Int), .int .i64 (pn : Int), .int .i64 (pc : Int), .int .u64 (pt : Int), .bool true] 90)))
      case first =>
        by_cases c1 : pa < at_
        · have hbd : decide (badP r at_ ⟨pa, pn, pc, pt, true⟩) = true := decide_eq_true (hbp.2 (.inl c1))
          have d1 : decide ((pa : Int) < (at_ : Int)) = true := decide_eq_true (by omega)
          refine region_toRound (fun X => X.cell? ⟨b8, 0, none⟩ = some (.int .i64 (pa : Int)) ∧ X.cell? ⟨b8, 1, none⟩ = some (.int .i64 (pn : Int)) ∧ X.cell? ⟨b8, 2, none⟩ = some (.int .i64 (pc : Int)) ∧ X.cell? ⟨b8, 3, none⟩ = some (.int .u64 (pt : Int)) ∧ X.cell? ⟨b8, 4, none⟩ = some (.bool true) ∧ X.cell? ⟨b6, 0, none⟩ = some (.int .i64 (at_ : Int)) ∧ X.cell? ⟨b4, 0, none⟩ = some (.pointer (some ⟨R, 0, none⟩)) ∧ X.cell? ⟨R, 0, none⟩ = some (.int .i64 (r : Int))) (by kernel_rfl) (by kernel_rfl) (by rintro ⟨_, _, h⟩; exact h) HS0.out (fun hHeld => ?_)
          refine wpAnyH_take (i := 0) (v := ?_) rfl (by kernel_rfl) (by kernel_rfl) (by kernel_rfl) (fun _ _ _ h => h) (Or.inl ⟨by kernel_rfl, ?_⟩) (by assumption) ?_
          rotate_left
          · rintro w ⟨z0, z1, z2, z3, z4, z5, z6, z7⟩; go_simp; (try with_reducible rfl)
          try simp only [Act.put, List.setIfInBounds_toArray, List.set_cons_zero, List.set_cons_succ, d1]
          refine wpAnyH_take (i := 1) (v := ?_) rfl (by kernel_rfl) (by kernel_rfl) (by kernel_rfl) (fun _ _ _ h => h) (Or.inl ⟨by kernel_rfl, ?_⟩) (by assumption) ?_
          rotate_left
          · rintro w ⟨z0, z1, z2, z3, z4, z5, z6, z7⟩; go_simp; (try with_reducible rfl)
          try simp only [Act.put, List.setIfInBounds_toArray, List.set_cons_zero, List.set_cons_succ, d1]
          refine wpAnyH_take (i := 2) (v := ?_) rfl (by kernel_rfl) (by kernel_rfl) (by kernel_rfl) (fun _ _ _ h => h) (Or.inl ⟨by kernel_rfl, ?_⟩) (by assumption) ?_
          rotate_left
          · rintro w ⟨z0, z1, z2, z3, z4, z5, z6, z7⟩; go_simp; (try with_reducible rfl)
          try simp only [Act.put, List.setIfInBounds_toArray, List.set_cons_zero, List.set_cons_succ, d1]
          refine wpAnyH_take (i := 3) (v := ?_) rfl (by kernel_rfl) (by kernel_rfl) (by kernel_rfl) (fun _ _ _ h => h) (Or.inl ⟨by kernel_rfl, ?_⟩) (by assumption) ?_
          rotate_left
          · rintro w ⟨z0, z1, z2, z3, z4, z5, z6, z7⟩; go_simp; (try with_reducible rfl)
          try simp only [Act.put, List.setIfInBounds_toArray, List.set_cons_zero, List.set_cons_succ, d1]
          refine wpAnyH_take (i := 4) (v := ?_) rfl (by kernel_rfl) (by kernel_rfl) (by kernel_rfl) (fun _ _ _ h => h) (Or.inl ⟨by kernel_rfl, ?_⟩) (by assumption) ?_
          rotate_left
          · rintro w ⟨z0, z1, z2, z3, z4, z5, z6, z7⟩; go_simp; (try with_reducible rfl)
          try simp only [Act.put, List.setIfInBounds_toArray, List.set_cons_zero, List.set_cons_succ, d1]
          refine wpAnyH_take (i := 5) (v := ?_) rfl (by kernel_rfl) (by kernel_rfl) (by kernel_rfl) (fun _ _ _ h => h) (Or.inl ⟨by kernel_rfl, ?_⟩) (by assumption) ?_
          rotate_left
          · rintro w ⟨z0, z1, z2, z3, z4, z5, z6, z7⟩; go_simp; (try with_reducible rfl)
          try simp only [Act.put, List.setIfInBounds_toArray, List.set_cons_zero, List.set_cons_succ, d1]
          refine wpAnyH_take (i := 6) (v := undef) rfl (by kernel_rfl) (by kernel_rfl) (by kernel_rfl) (fun _ _ _ h => h) (Or.inr ⟨by kernel_rfl, rfl⟩) (by assumption) ?_
          try simp only [Act.put, List.setIfInBounds_toArray, List.set_cons_zero, List.set_cons_succ, d1]
          refine wpAnyH_take (i := 7) (v := undef) rfl (by kernel_rfl) (by kernel_rfl) (by kernel_rfl) (fun _ _ _ h => h) (Or.inr ⟨by kernel_rfl, rfl⟩) (by assumption) ?_
          try simp only [Act.put, List.setIfInBounds_toArray, List.set_cons_zero, List.set_cons_succ, d1]
          refine wpAnyH_take (i := 8) (v := undef) rfl (by kernel_rfl) (by kernel_rfl) (by kernel_rfl) (fun _ _ _ h => h) (Or.inr ⟨by kernel_rfl, rfl⟩) (by assumption) ?_
          try simp only [Act.put, List.setIfInBounds_toArray, List.set_cons_zero, List.set_cons_succ, d1]
          refine wpAnyH_take (i := 9) (v := undef) rfl (by kernel_rfl) (by kernel_rfl) (by kernel_rfl) (fun _ _ _ h => h) (Or.inr ⟨by kernel_rfl, rfl⟩) (by assumption) ?_
          try simp only [Act.put, List.setIfInBounds_toArray, List.set_cons_zero, List.set_cons_succ, d1]
          refine wpAnyH_take (i := 10) (v := ?_) rfl (by kernel_rfl) (by kernel_rfl) (by kernel_rfl) (fun _ _ _ h => h) (Or.inl ⟨by kernel_rfl, ?_⟩) (by assumption) ?_
          rotate_left
          · rintro w ⟨z0, z1, z2, z3, z4, z5, z6, z7⟩; go_simp; (try with_reducible rfl)
          try simp only [Act.put, List.setIfInBounds_toArray, List.set_cons_zero, List.set_cons_succ, d1]
          refine wpAnyH_take (i := 11) (v := ?_) rfl (by kernel_rfl) (by kernel_rfl) (by kernel_rfl) (fun _ _ _ h => h) (Or.inl ⟨by kernel_rfl, ?_⟩) (by assumption) ?_
          rotate_left
          · rintro w ⟨z0, z1, z2, z3, z4, z5, z6, z7⟩; go_simp; (try with_reducible rfl)
          try simp only [Act.put, List.setIfInBounds_toArray, List.set_cons_zero, List.set_cons_succ, d1]
          refine wpAnyH_take (i := 12) (v := undef) rfl (by kernel_rfl) (by kernel_rfl) (by kernel_rfl) (fun _ _ _ h => h) (Or.inr ⟨by kernel_rfl, rfl⟩) (by assumption) ?_
          try simp only [Act.put, List.setIfInBounds_toArray, List.set_cons_zero, List.set_cons_succ, d1]
          refine wpAnyH_take (i := 13) (v := undef) rfl (by kernel_rfl) (by kernel_rfl) (by kernel_rfl) (fun _ _ _ h => h) (Or.inr ⟨by kernel_rfl, rfl⟩) (by assumption) ?_
          try simp only [Act.put, List.setIfInBounds_toArray, List.set_cons_zero, List.set_cons_succ, d1]
          refine wpAnyH_take (i := 14) (v := undef) rfl (by kernel_rfl) (by kernel_rfl) (by kernel_rfl) (fun _ _ _ h => h) (Or.inr ⟨by kernel_rfl, rfl⟩) (by assumption) ?_
          try simp only [Act.put, List.setIfInBounds_toArray, List.set_cons_zero, List.set_cons_succ, d1]
          refine wpAnyH_take (i := 15) (v := undef) rfl (by kernel_rfl) (by kernel_rfl) (by kernel_rfl) (fun _ _ _ h => h) (Or.inr ⟨by kernel_rfl, rfl⟩) (by assumption) ?_
          try simp only [Act.put, List.setIfInBounds_toArray, List.set_cons_zero, List.set_cons_succ, d1]
          refine wpAnyH_take (i := 16) (v := ?_) rfl (by kernel_rfl) (by kernel_rfl) (by kernel_rfl) (fun _ _ _ h => h) (Or.inl ⟨by kernel_rfl, ?_⟩) (by assumption) ?_
          rotate_left
          · rintro w ⟨z0, z1, z2, z3, z4, z5, z6, z7⟩; go_simp; (try with_reducible rfl)
          try simp only [Act.put, List.setIfInBounds_toArray, List.set_cons_zero, List.set_cons_succ, d1]
          refine wpAnyH_take (i := 17) (v := ?_) rfl (by kernel_rfl) (by kernel_rfl) (by kernel_rfl) (fun _ _ _ h => h) (Or.inl ⟨by kernel_rfl, ?_⟩) (by assumption) ?_
          rotate_left
          · rintro w ⟨z0, z1, z2, z3, z4, z5, z6, z7⟩; go_simp; (try with_reducible rfl)
          try simp only [Act.put, List.setIfInBounds_toArray, List.set_cons_zero, List.set_cons_succ, d1]
          refine wpAnyH_take (i := 18) (v := undef) rfl (by kernel_rfl) (by kernel_rfl) (by kernel_rfl) (fun _ _ _ h => h) (Or.inr ⟨by kernel_rfl, rfl⟩) (by assumption) ?_
          try simp only [Act.put, List.setIfInBounds_toArray, List.set_cons_zero, List.set_cons_succ, d1]
          refine wpAnyH_take (i := 19) (v := undef) rfl (by kernel_rfl) (by kernel_rfl) (by kernel_rfl) (fun _ _ _ h => h) (Or.inr ⟨by kernel_rfl, rfl⟩) (by assumption) ?_
          try simp only [Act.put, List.setIfInBounds_toArray, List.set_cons_zero, List.set_cons_succ, d1]
          refine wpAnyH_take (i := 20) (v := undef) rfl (by kernel_rfl) (by kernel_rfl) (by kernel_rfl) (fun _ _ _ h => h) (Or.inr ⟨by kernel_rfl, rfl⟩) (by assumption) ?_
          try simp only [Act.put, List.setIfInBounds_toArray, List.set_cons_zero, List.set_cons_succ, d1]
          refine wpAnyH_take (i := 21) (v := undef) rfl (by kernel_rfl) (by kernel_rfl) (by kernel_rfl) (fun _ _ _ h => h) (Or.inr ⟨by kernel_rfl, rfl⟩) (by assumption) ?_
          try simp only [Act.put, List.setIfInBounds_toArray, List.set_cons_zero, List.set_cons_succ, d1]
          refine wpAnyH_take (i := 22) (v := undef) rfl (by kernel_rfl) (by kernel_rfl) (by kernel_rfl) (fun _ _ _ h => h) (Or.inr ⟨by kernel_rfl, rfl⟩) (by assumption) ?_
          try simp only [Act.put, List.setIfInBounds_toArray, List.set_cons_zero, List.set_cons_succ, d1]
          refine wpAnyH_take (i := 23) (v := undef) rfl (by kernel_rfl) (by kernel_rfl) (by kernel_rfl) (fun _ _ _ h => h) (Or.inr ⟨by kernel_rfl, rfl⟩) (by assumption) ?_
          try simp only [Act.put, List.setIfInBounds_toArray, List.set_cons_zero, List.set_cons_succ, d1]
          refine wpAnyH_take (i := 24) (v := undef) rfl (by kernel_rfl) (by kernel_rfl) (by kernel_rfl) (fun _ _ _ h => h) (Or.inr ⟨by kernel_rfl, rfl⟩) (by assumption) ?_
          simp only [List.getElem_toArray, List.getElem_cons_succ, List.getElem_cons_zero]
          try simp only [Act.put, List.setIfInBounds_toArray, List.set_cons_zero, List.set_cons_succ, d1]
          refine wpAnyH_take (i := 25) (v := ?_) rfl (by kernel_rfl) (by kernel_rfl) (by kernel_rfl) (fun _ _ _ h => h) (Or.inl ⟨by kernel_rfl, ?_⟩) (by assumption) ?_
          rotate_left
          · rintro w ⟨z0, z1, z2, z3, z4, z5, z6, z7⟩; go_simp; (try with_reducible rfl)
          simp only [List.getElem_toArray, List.getElem_cons_succ, List.getElem_cons_zero]
          try simp only [Act.put, List.setIfInBounds_toArray, List.set_cons_zero, List.set_cons_succ, d1]
          refine wpAnyH_done (by kernel_rfl) ?_ _
          gi_wp2_with fail
          gi_meet
          case rel => exact ⟨by rw [hbd], .inl rfl⟩
        · have d1 : decide ((pa : Int) < (at_ : Int)) = false := decide_eq_false (by omega)
          by_cases c2 : pn < 1
          · have hbd : decide (badP r at_ ⟨pa, pn, pc, pt, true⟩) = true := decide_eq_true (hbp.2 (.inr (.inl c2)))
            have d2 : decide ((pn : Int) < 1) = true := decide_eq_true (by omega)
            refine region_toRound (fun X => X.cell? ⟨b8, 0, none⟩ = some (.int .i64 (pa : Int)) ∧ X.cell? ⟨b8, 1, none⟩ = some (.int .i64 (pn : Int)) ∧ X.cell? ⟨b8, 2, none⟩ = some (.int .i64 (pc : Int)) ∧ X.cell? ⟨b8, 3, none⟩ = some (.int .u64 (pt : Int)) ∧ X.cell? ⟨b8, 4, none⟩ = some (.bool true) ∧ X.cell? ⟨b6, 0, none⟩ = some (.int .i64 (at_ : Int)) ∧ X.cell? ⟨b4, 0, none⟩ = some (.pointer (some ⟨R, 0, none⟩)) ∧ X.cell? ⟨R, 0, none⟩ = some (.int .i64 (r : Int))) (by kernel_rfl) (by kernel_rfl) (by rintro ⟨_, _, h⟩; exact h) HS0.out (fun hHeld => ?_)
            refine wpAnyH_take (i := 0) (v := ?_) rfl (by kernel_rfl) (by kernel_rfl) (by kernel_rfl) (fun _ _ _ h => h) (Or.inl ⟨by kernel_rfl, ?_⟩) (by assumption) ?_
            rotate_left
            · rintro w ⟨z0, z1, z2, z3, z4, z5, z6, z7⟩; go_simp; (try with_reducible rfl)
            try simp only [Act.put, List.setIfInBounds_toArray, List.set_cons_zero, List.set_cons_succ, d1, d2]
            refine wpAnyH_take (i := 1) (v := ?_) rfl (by kernel_rfl) (by kernel_rfl) (by kernel_rfl) (fun _ _ _ h => h) (Or.inl ⟨by kernel_rfl, ?_⟩) (by assumption) ?_
            rotate_left
            · rintro w ⟨z0, z1, z2, z3, z4, z5, z6, z7⟩; go_simp; (try with_reducible rfl)
            try simp only [Act.put, List.setIfInBounds_toArray, List.set_cons_zero, List.set_cons_succ, d1, d2]
            refine wpAnyH_take (i := 2) (v := ?_) rfl (by kernel_rfl) (by kernel_rfl) (by kernel_rfl) (fun _ _ _ h => h) (Or.inl ⟨by kernel_rfl, ?_⟩) (by assumption) ?_
            rotate_left
            · rintro w ⟨z0, z1, z2, z3, z4, z5, z6, z7⟩; go_simp; (try with_reducible rfl)
            try simp only [Act.put, List.setIfInBounds_toArray, List.set_cons_zero, List.set_cons_succ, d1, d2]
            refine wpAnyH_take (i := 3) (v := ?_) rfl (by kernel_rfl) (by kernel_rfl) (by kernel_rfl) (fun _ _ _ h => h) (Or.inl ⟨by kernel_rfl, ?_⟩) (by assumption) ?_
            rotate_left
            · rintro w ⟨z0, z1, z2, z3, z4, z5, z6, z7⟩; go_simp; (try with_reducible rfl)
            try simp only [Act.put, List.setIfInBounds_toArray, List.set_cons_zero, List.set_cons_succ, d1, d2]
            refine wpAnyH_take (i := 4) (v := ?_) rfl (by kernel_rfl) (by kernel_rfl) (by kernel_rfl) (fun _ _ _ h => h) (Or.inl ⟨by kernel_rfl, ?_⟩) (by assumption) ?_
            rotate_left
            · rintro w ⟨z0, z1, z2, z3, z4, z5, z6, z7⟩; go_simp; (try with_reducible rfl)
            try simp only [Act.put, List.setIfInBounds_toArray, List.set_cons_zero, List.set_cons_succ, d1, d2]
            refine wpAnyH_take (i := 5) (v := ?_) rfl (by kernel_rfl) (by kernel_rfl) (by kernel_rfl) (fun _ _ _ h => h) (Or.inl ⟨by kernel_rfl, ?_⟩) (by assumption) ?_
            rotate_left
            · rintro w ⟨z0, z1, z2, z3, z4, z5, z6, z7⟩; go_simp; (try with_reducible rfl)
            try simp only [Act.put, List.setIfInBounds_toArray, List.set_cons_zero, List.set_cons_succ, d1, d2]
            refine wpAnyH_take (i := 6) (v := ?_) rfl (by kernel_rfl) (by kernel_rfl) (by kernel_rfl) (fun _ _ _ h => h) (Or.inl ⟨by kernel_rfl, ?_⟩) (by assumption) ?_
            rotate_left
            · rintro w ⟨z0, z1, z2, z3, z4, z5, z6, z7⟩; go_simp; (try with_reducible rfl)
            try simp only [Act.put, List.setIfInBounds_toArray, List.set_cons_zero, List.set_cons_succ, d1, d2]
            refine wpAnyH_take (i := 7) (v := ?_) rfl (by kernel_rfl) (by kernel_rfl) (by kernel_rfl) (fun _ _ _ h => h) (Or.inl ⟨by kernel_rfl, ?_⟩) (by assumption) ?_
            rotate_left
            · rintro w ⟨z0, z1, z2, z3, z4, z5, z6, z7⟩; go_simp; (try with_reducible rfl)
            try simp only [Act.put, List.setIfInBounds_toArray, List.set_cons_zero, List.set_cons_succ, d1, d2]
            refine wpAnyH_take (i := 8) (v := ?_) rfl (by kernel_rfl) (by kernel_rfl) (by kernel_rfl) (fun _ _ _ h => h) (Or.inl ⟨by kernel_rfl, ?_⟩) (by assumption) ?_
            rotate_left
            · rintro w ⟨z0, z1, z2, z3, z4, z5, z6, z7⟩; go_simp; (try with_reducible rfl)
            try simp only [Act.put, List.setIfInBounds_toArray, List.set_cons_zero, List.set_cons_succ, d1, d2]
            refine wpAnyH_take (i := 9) (v := ?_) rfl (by kernel_rfl) (by kernel_rfl) (by kernel_rfl) (fun _ _ _ h => h) (Or.inl ⟨by kernel_rfl, ?_⟩) (by assumption) ?_
            rotate_left
            · rintro w ⟨z0, z1, z2, z3, z4, z5, z6, z7⟩; go_simp; (try with_reducible rfl)
            try simp only [Act.put, List.setIfInBounds_toArray, List.set_cons_zero, List.set_cons_succ, d1, d2]
            refine wpAnyH_take (i := 10) (v := ?_) rfl (by kernel_rfl) (by kernel_rfl) (by kernel_rfl) (fun _ _ _ h => h) (Or.inl ⟨by kernel_rfl, ?_⟩) (by assumption) ?_
            rotate_left
            · rintro w ⟨z0, z1, z2, z3, z4, z5, z6, z7⟩; go_simp; (try with_reducible rfl)
            try simp only [Act.put, List.setIfInBounds_toArray, List.set_cons_zero, List.set_cons_succ, d1, d2]
            refine wpAnyH_take (i := 11) (v := ?_) rfl (by kernel_rfl) (by kernel_rfl) (by kernel_rfl) (fun _ _ _ h => h) (Or.inl ⟨by kernel_rfl, ?_⟩) (by assumption) ?_
            rotate_left
            · rintro w ⟨z0, z1, z2, z3, z4, z5, z6, z7⟩; go_simp; (try with_reducible rfl)
            try simp only [Act.put, List.setIfInBounds_toArray, List.set_cons_zero, List.set_cons_succ, d1, d2]
            refine wpAnyH_take (i := 12) (v := undef) rfl (by kernel_rfl) (by kernel_rfl) (by kernel_rfl) (fun _ _ _ h => h) (Or.inr ⟨by kernel_rfl, rfl⟩) (by assumption) ?_
            try simp only [Act.put, List.setIfInBounds_toArray, List.set_cons_zero, List.set_cons_succ, d1, d2]
            refine wpAnyH_take (i := 13) (v := undef) rfl (by kernel_rfl) (by kernel_rfl) (by kernel_rfl) (fun _ _ _ h => h) (Or.inr ⟨by kernel_rfl, rfl⟩) (by assumption) ?_
            try simp only [Act.put, List.setIfInBounds_toArray, List.set_cons_zero, List.set_cons_succ, d1, d2]
            refine wpAnyH_take (i := 14) (v := undef) rfl (by kernel_rfl) (by kernel_rfl) (by kernel_rfl) (fun _ _ _ h => h) (Or.inr ⟨by kernel_rfl, rfl⟩) (by assumption) ?_
            try simp only [Act.put, List.setIfInBounds_toArray, List.set_cons_zero, List.set_cons_succ, d1, d2]
            refine wpAnyH_take (i := 15) (v := undef) rfl (by kernel_rfl) (by kernel_rfl) (by kernel_rfl) (fun _ _ _ h => h) (Or.inr ⟨by kernel_rfl, rfl⟩) (by assumption) ?_
            try simp only [Act.put, List.setIfInBounds_toArray, List.set_cons_zero, List.set_cons_succ, d1, d2]
            refine wpAnyH_take (i := 16) (v := ?_) rfl (by kernel_rfl) (by kernel_rfl) (by kernel_rfl) (fun _ _ _ h => h) (Or.inl ⟨by kernel_rfl, ?_⟩) (by assumption) ?_
            rotate_left
            · rintro w ⟨z0, z1, z2, z3, z4, z5, z6, z7⟩; go_simp; (try with_reducible rfl)
            try simp only [Act.put, List.setIfInBounds_toArray, List.set_cons_zero, List.set_cons_succ, d1, d2]
            refine wpAnyH_take (i := 17) (v := ?_) rfl (by kernel_rfl) (by kernel_rfl) (by kernel_rfl) (fun _ _ _ h => h) (Or.inl ⟨by kernel_rfl, ?_⟩) (by assumption) ?_
            rotate_left
            · rintro w ⟨z0, z1, z2, z3, z4, z5, z6, z7⟩; go_simp; (try with_reducible rfl)
            try simp only [Act.put, List.setIfInBounds_toArray, List.set_cons_zero, List.set_cons_succ, d1, d2]
            refine wpAnyH_take (i := 18) (v := undef) rfl (by kernel_rfl) (by kernel_rfl) (by kernel_rfl) (fun _ _ _ h => h) (Or.inr ⟨by kernel_rfl, rfl⟩) (by assumption) ?_
            try simp only [Act.put, List.setIfInBounds_toArray, List.set_cons_zero, List.set_cons_succ, d1, d2]
            refine wpAnyH_take (i := 19) (v := undef) rfl (by kernel_rfl) (by kernel_rfl) (by kernel_rfl) (fun _ _ _ h => h) (Or.inr ⟨by kernel_rfl, rfl⟩) (by assumption) ?_
            try simp only [Act.put, List.setIfInBounds_toArray, List.set_cons_zero, List.set_cons_succ, d1, d2]
            refine wpAnyH_take (i := 20) (v := undef) rfl (by kernel_rfl) (by kernel_rfl) (by kernel_rfl) (fun _ _ _ h => h) (Or.inr ⟨by kernel_rfl, rfl⟩) (by assumption) ?_
            try simp only [Act.put, List.setIfInBounds_toArray, List.set_cons_zero, List.set_cons_succ, d1, d2]
            refine wpAnyH_take (i := 21) (v := undef) rfl (by kernel_rfl) (by kernel_rfl) (by kernel_rfl) (fun _ _ _ h => h) (Or.inr ⟨by kernel_rfl, rfl⟩) (by assumption) ?_
            try simp only [Act.put, List.setIfInBounds_toArray, List.set_cons_zero, List.set_cons_succ, d1, d2]
            refine wpAnyH_take (i := 22) (v := undef) rfl (by kernel_rfl) (by kernel_rfl) (by kernel_rfl) (fun _ _ _ h => h) (Or.inr ⟨by kernel_rfl, rfl⟩) (by assumption) ?_
            try simp only [Act.put, List.setIfInBounds_toArray, List.set_cons_zero, List.set_cons_succ, d1, d2]
            refine wpAnyH_take (i := 23) (v := undef) rfl (by kernel_rfl) (by kernel_rfl) (by kernel_rfl) (fun _ _ _ h => h) (Or.inr ⟨by kernel_rfl, rfl⟩) (by assumption) ?_
            try simp only [Act.put, List.setIfInBounds_toArray, List.set_cons_zero, List.set_cons_succ, d1, d2]
            refine wpAnyH_take (i := 24) (v := undef) rfl (by kernel_rfl) (by kernel_rfl) (by kernel_rfl) (fun _ _ _ h => h) (Or.inr ⟨by kernel_rfl, rfl⟩) (by assumption) ?_
            simp only [List.getElem_toArray, List.getElem_cons_succ, List.getElem_cons_zero]
            try simp only [Act.put, List.setIfInBounds_toArray, List.set_cons_zero, List.set_cons_succ, d1, d2]
            refine wpAnyH_take (i := 25) (v := ?_) rfl (by kernel_rfl) (by kernel_rfl) (by kernel_rfl) (fun _ _ _ h => h) (Or.inl ⟨by kernel_rfl, ?_⟩) (by assumption) ?_
            rotate_left
            · rintro w ⟨z0, z1, z2, z3, z4, z5, z6, z7⟩; go_simp; (try with_reducible rfl)
            simp only [List.getElem_toArray, List.getElem_cons_succ, List.getElem_cons_zero]
            try simp only [Act.put, List.setIfInBounds_toArray, List.set_cons_zero, List.set_cons_succ, d1, d2]
            refine wpAnyH_done (by kernel_rfl) ?_ _
            gi_wp2_with fail
            gi_meet
            case rel => exact ⟨by rw [hbd], .inl rfl⟩
          · have d2 : decide ((pn : Int) < 1) = false := decide_eq_false (by omega)
            by_cases c3 : pc = 0
            · have hbd : decide (badP r at_ ⟨pa, pn, pc, pt, true⟩) = true := decide_eq_true (hbp.2 (.inr (.inr (.inl c3))))
              have d3 : ((pc : Int) == 0) = true := by simp only [beq_iff_eq]; omega
              refine region_toRound (fun X => X.cell? ⟨b8, 0, none⟩ = some (.int .i64 (pa : Int)) ∧ X.cell? ⟨b8, 1, none⟩ = some (.int .i64 (pn : Int)) ∧ X.cell? ⟨b8, 2, none⟩ = some (.int .i64 (pc : Int)) ∧ X.cell? ⟨b8, 3, none⟩ = some (.int .u64 (pt : Int)) ∧ X.cell? ⟨b8, 4, none⟩ = some (.bool true) ∧ X.cell? ⟨b6, 0, none⟩ = some (.int .i64 (at_ : Int)) ∧ X.cell? ⟨b4, 0, none⟩ = some (.pointer (some ⟨R, 0, none⟩)) ∧ X.cell? ⟨R, 0, none⟩ = some (.int .i64 (r : Int))) (by kernel_rfl) (by kernel_rfl) (by rintro ⟨_, _, h⟩; exact h) HS0.out (fun hHeld => ?_)
              refine wpAnyH_take (i := 0) (v := ?_) rfl (by kernel_rfl) (by kernel_rfl) (by kernel_rfl) (fun _ _ _ h => h) (Or.inl ⟨by kernel_rfl, ?_⟩) (by assumption) ?_
              rotate_left
              · rintro w ⟨z0, z1, z2, z3, z4, z5, z6, z7⟩; go_simp; (try with_reducible rfl)
              try simp only [Act.put, List.setIfInBounds_toArray, List.set_cons_zero, List.set_cons_succ, d1, d2, d3]
              refine wpAnyH_take (i := 1) (v := ?_) rfl (by kernel_rfl) (by kernel_rfl) (by kernel_rfl) (fun _ _ _ h => h) (Or.inl ⟨by kernel_rfl, ?_⟩) (by assumption) ?_
              rotate_left
              · rintro w ⟨z0, z1, z2, z3, z4, z5, z6, z7⟩; go_simp; (try with_reducible rfl)
              try simp only [Act.put, List.setIfInBounds_toArray, List.set_cons_zero, List.set_cons_succ, d1, d2, d3]
              refine wpAnyH_take (i := 2) (v := ?_) rfl (by kernel_rfl) (by kernel_rfl) (by kernel_rfl) (fun _ _ _ h => h) (Or.inl ⟨by kernel_rfl, ?_⟩) (by assumption) ?_
              rotate_left
              · rintro w ⟨z0, z1, z2, z3, z4, z5, z6, z7⟩; go_simp; (try with_reducible rfl)
              try simp only [Act.put, List.setIfInBounds_toArray, List.set_cons_zero, List.set_cons_succ, d1, d2, d3]
              refine wpAnyH_take (i := 3) (v := ?_) rfl (by kernel_rfl) (by kernel_rfl) (by kernel_rfl) (fun _ _ _ h => h) (Or.inl ⟨by kernel_rfl, ?_⟩) (by assumption) ?_
              rotate_left
              · rintro w ⟨z0, z1, z2, z3, z4, z5, z6, z7⟩; go_simp; (try with_reducible rfl)
              try simp only [Act.put, List.setIfInBounds_toArray, List.set_cons_zero, List.set_cons_succ, d1, d2, d3]
              refine wpAnyH_take (i := 4) (v := ?_) rfl (by kernel_rfl) (by kernel_rfl) (by kernel_rfl) (fun _ _ _ h => h) (Or.inl ⟨by kernel_rfl, ?_⟩) (by assumption) ?_
              rotate_left
              · rintro w ⟨z0, z1, z2, z3, z4, z5, z6, z7⟩; go_simp; (try with_reducible rfl)
              try simp only [Act.put, List.setIfInBounds_toArray, List.set_cons_zero, List.set_cons_succ, d1, d2, d3]
              refine wpAnyH_take (i := 5) (v := ?_) rfl (by kernel_rfl) (by kernel_rfl) (by kernel_rfl) (fun _ _ _ h => h) (Or.inl ⟨by kernel_rfl, ?_⟩) (by assumption) ?_
              rotate_left
              · rintro w ⟨z0, z1, z2, z3, z4, z5, z6, z7⟩; go_simp; (try with_reducible rfl)
              try simp only [Act.put, List.setIfInBounds_toArray, List.set_cons_zero, List.set_cons_succ, d1, d2, d3]
              refine wpAnyH_take (i := 6) (v := ?_) rfl (by kernel_rfl) (by kernel_rfl) (by kernel_rfl) (fun _ _ _ h => h) (Or.inl ⟨by kernel_rfl, ?_⟩) (by assumption) ?_
              rotate_left
              · rintro w ⟨z0, z1, z2, z3, z4, z5, z6, z7⟩; go_simp; (try with_reducible rfl)
              try simp only [Act.put, List.setIfInBounds_toArray, List.set_cons_zero, List.set_cons_succ, d1, d2, d3]
              refine wpAnyH_take (i := 7) (v := ?_) rfl (by kernel_rfl) (by kernel_rfl) (by kernel_rfl) (fun _ _ _ h => h) (Or.inl ⟨by kernel_rfl, ?_⟩) (by assumption) ?_
              rotate_left
              · rintro w ⟨z0, z1, z2, z3, z4, z5, z6, z7⟩; go_simp; (try with_reducible rfl)
              try simp only [Act.put, List.setIfInBounds_toArray, List.set_cons_zero, List.set_cons_succ, d1, d2, d3]
              refine wpAnyH_take (i := 8) (v := ?_) rfl (by kernel_rfl) (by kernel_rfl) (by kernel_rfl) (fun _ _ _ h => h) (Or.inl ⟨by kernel_rfl, ?_⟩) (by assumption) ?_
              rotate_left
              · rintro w ⟨z0, z1, z2, z3, z4, z5, z6, z7⟩; go_simp; (try with_reducible rfl)
              try simp only [Act.put, List.setIfInBounds_toArray, List.set_cons_zero, List.set_cons_succ, d1, d2, d3]
              refine wpAnyH_take (i := 9) (v := ?_) rfl (by kernel_rfl) (by kernel_rfl) (by kernel_rfl) (fun _ _ _ h => h) (Or.inl ⟨by kernel_rfl, ?_⟩) (by assumption) ?_
              rotate_left
              · rintro w ⟨z0, z1, z2, z3, z4, z5, z6, z7⟩; go_simp; (try with_reducible rfl)
              try simp only [Act.put, List.setIfInBounds_toArray, List.set_cons_zero, List.set_cons_succ, d1, d2, d3]
              refine wpAnyH_take (i := 10) (v := ?_) rfl (by kernel_rfl) (by kernel_rfl) (by kernel_rfl) (fun _ _ _ h => h) (Or.inl ⟨by kernel_rfl, ?_⟩) (by assumption) ?_
              rotate_left
              · rintro w ⟨z0, z1, z2, z3, z4, z5, z6, z7⟩; go_simp; (try with_reducible rfl)
              try simp only [Act.put, List.setIfInBounds_toArray, List.set_cons_zero, List.set_cons_succ, d1, d2, d3]
              refine wpAnyH_take (i := 11) (v := ?_) rfl (by kernel_rfl) (by kernel_rfl) (by kernel_rfl) (fun _ _ _ h => h) (Or.inl ⟨by kernel_rfl, ?_⟩) (by assumption) ?_
              rotate_left
              · rintro w ⟨z0, z1, z2, z3, z4, z5, z6, z7⟩; go_simp; (try with_reducible rfl)
              try simp only [Act.put, List.setIfInBounds_toArray, List.set_cons_zero, List.set_cons_succ, d1, d2, d3]
              refine wpAnyH_take (i := 12) (v := ?_) rfl (by kernel_rfl) (by kernel_rfl) (by kernel_rfl) (fun _ _ _ h => h) (Or.inl ⟨by kernel_rfl, ?_⟩) (by assumption) ?_
              rotate_left
              · rintro w ⟨z0, z1, z2, z3, z4, z5, z6, z7⟩; go_simp; (try with_reducible rfl)
              try simp only [Act.put, List.setIfInBounds_toArray, List.set_cons_zero, List.set_cons_succ, d1, d2, d3]
              refine wpAnyH_take (i := 13) (v := ?_) rfl (by kernel_rfl) (by kernel_rfl) (by kernel_rfl) (fun _ _ _ h => h) (Or.inl ⟨by kernel_rfl, ?_⟩) (by assumption) ?_
              rotate_left
              · rintro w ⟨z0, z1, z2, z3, z4, z5, z6, z7⟩; go_simp; (try with_reducible rfl)
              try simp only [Act.put, List.setIfInBounds_toArray, List.set_cons_zero, List.set_cons_succ, d1, d2, d3]
              refine wpAnyH_take (i := 14) (v := ?_) rfl (by kernel_rfl) (by kernel_rfl) (by kernel_rfl) (fun _ _ _ h => h) (Or.inl ⟨by kernel_rfl, ?_⟩) (by assumption) ?_
              rotate_left
              · rintro w ⟨z0, z1, z2, z3, z4, z5, z6, z7⟩; go_simp; (try with_reducible rfl)
              try simp only [Act.put, List.setIfInBounds_toArray, List.set_cons_zero, List.set_cons_succ, d1, d2, d3]
              refine wpAnyH_take (i := 15) (v := ?_) rfl (by kernel_rfl) (by kernel_rfl) (by kernel_rfl) (fun _ _ _ h => h) (Or.inl ⟨by kernel_rfl, ?_⟩) (by assumption) ?_
              rotate_left
              · rintro w ⟨z0, z1, z2, z3, z4, z5, z6, z7⟩; go_simp; (try with_reducible rfl)
              try simp only [Act.put, List.setIfInBounds_toArray, List.set_cons_zero, List.set_cons_succ, d1, d2, d3]
              refine wpAnyH_take (i := 16) (v := ?_) rfl (by kernel_rfl) (by kernel_rfl) (by kernel_rfl) (fun _ _ _ h => h) (Or.inl ⟨by kernel_rfl, ?_⟩) (by assumption) ?_
              rotate_left
              · rintro w ⟨z0, z1, z2, z3, z4, z5, z6, z7⟩; go_simp; (try with_reducible rfl)
              try simp only [Act.put, List.setIfInBounds_toArray, List.set_cons_zero, List.set_cons_succ, d1, d2, d3]
              refine wpAnyH_take (i := 17) (v := ?_) rfl (by kernel_rfl) (by kernel_rfl) (by kernel_rfl) (fun _ _ _ h => h) (Or.inl ⟨by kernel_rfl, ?_⟩) (by assumption) ?_
              rotate_left
              · rintro w ⟨z0, z1, z2, z3, z4, z5, z6, z7⟩; go_simp; (try with_reducible rfl)
              try simp only [Act.put, List.setIfInBounds_toArray, List.set_cons_zero, List.set_cons_succ, d1, d2, d3]
              refine wpAnyH_take (i := 18) (v := undef) rfl (by kernel_rfl) (by kernel_rfl) (by kernel_rfl) (fun _ _ _ h => h) (Or.inr ⟨by kernel_rfl, rfl⟩) (by assumption) ?_
              try simp only [Act.put, List.setIfInBounds_toArray, List.set_cons_zero, List.set_cons_succ, d1, d2, d3]
              refine wpAnyH_take (i := 19) (v := undef) rfl (by kernel_rfl) (by kernel_rfl) (by kernel_rfl) (fun _ _ _ h => h) (Or.inr ⟨by kernel_rfl, rfl⟩) (by assumption) ?_
              try simp only [Act.put, List.setIfInBounds_toArray, List.set_cons_zero, List.set_cons_succ, d1, d2, d3]
              refine wpAnyH_take (i := 20) (v := undef) rfl (by kernel_rfl) (by kernel_rfl) (by kernel_rfl) (fun _ _ _ h => h) (Or.inr ⟨by kernel_rfl, rfl⟩) (by assumption) ?_
              try simp only [Act.put, List.setIfInBounds_toArray, List.set_cons_zero, List.set_cons_succ, d1, d2, d3]
              refine wpAnyH_take (i := 21) (v := undef) rfl (by kernel_rfl) (by kernel_rfl) (by kernel_rfl) (fun _ _ _ h => h) (Or.inr ⟨by kernel_rfl, rfl⟩) (by assumption) ?_
              try simp only [Act.put, List.setIfInBounds_toArray, List.set_cons_zero, List.set_cons_succ, d1, d2, d3]
              refine wpAnyH_take (i := 22) (v := undef) rfl (by kernel_rfl) (by kernel_rfl) (by kernel_rfl) (fun _ _ _ h => h) (Or.inr ⟨by kernel_rfl, rfl⟩) (by assumption) ?_
              try simp only [Act.put, List.setIfInBounds_toArray, List.set_cons_zero, List.set_cons_succ, d1, d2, d3]
              refine wpAnyH_take (i := 23) (v := undef) rfl (by kernel_rfl) (by kernel_rfl) (by kernel_rfl) (fun _ _ _ h => h) (Or.inr ⟨by kernel_rfl, rfl⟩) (by assumption) ?_
              try simp only [Act.put, List.setIfInBounds_toArray, List.set_cons_zero, List.set_cons_succ, d1, d2, d3]
              refine wpAnyH_take (i := 24) (v := undef) rfl (by kernel_rfl) (by kernel_rfl) (by kernel_rfl) (fun _ _ _ h => h) (Or.inr ⟨by kernel_rfl, rfl⟩) (by assumption) ?_
              simp only [List.getElem_toArray, List.getElem_cons_succ, List.getElem_cons_zero]
              try simp only [Act.put, List.setIfInBounds_toArray, List.set_cons_zero, List.set_cons_succ, d1, d2, d3]
              refine wpAnyH_take (i := 25) (v := ?_) rfl (by kernel_rfl) (by kernel_rfl) (by kernel_rfl) (fun _ _ _ h => h) (Or.inl ⟨by kernel_rfl, ?_⟩) (by assumption) ?_
              rotate_left
              · rintro w ⟨z0, z1, z2, z3, z4, z5, z6, z7⟩; go_simp; (try with_reducible rfl)
              simp only [List.getElem_toArray, List.getElem_cons_succ, List.getElem_cons_zero]
              try simp only [Act.put, List.setIfInBounds_toArray, List.set_cons_zero, List.set_cons_succ, d1, d2, d3]
              refine wpAnyH_done (by kernel_rfl) ?_ _
              gi_wp2_with fail
              gi_meet
              case rel => exact ⟨by rw [hbd], .inl rfl⟩
            · have d3 : ((pc : Int) == 0) = false := by simp only [beq_eq_false_iff_ne]; omega
              by_cases c4 : r < fn
              · have hbd : decide (badP r at_ ⟨pa, pn, pc, pt, true⟩) = true := decide_eq_true (hbp.2 (.inr (.inr (.inr c4))))
                have d4 : decide ((r : Int) < (fn : Int)) = true := decide_eq_true (by omega)
                refine region_toRound (fun X => X.cell? ⟨b8, 0, none⟩ = some (.int .i64 (pa : Int)) ∧ X.cell? ⟨b8, 1, none⟩ = some (.int .i64 (pn : Int)) ∧ X.cell? ⟨b8, 2, none⟩ = some (.int .i64 (pc : Int)) ∧ X.cell? ⟨b8, 3, none⟩ = some (.int .u64 (pt : Int)) ∧ X.cell? ⟨b8, 4, none⟩ = some (.bool true) ∧ X.cell? ⟨b6, 0, none⟩ = some (.int .i64 (at_ : Int)) ∧ X.cell? ⟨b4, 0, none⟩ = some (.pointer (some ⟨R, 0, none⟩)) ∧ X.cell? ⟨R, 0, none⟩ = some (.int .i64 (r : Int))) (by kernel_rfl) (by kernel_rfl) (by rintro ⟨_, _, h⟩; exact h) HS0.out (fun hHeld => ?_)
                refine wpAnyH_take (i := 0) (v := ?_) rfl (by kernel_rfl) (by kernel_rfl) (by kernel_rfl) (fun _ _ _ h => h) (Or.inl ⟨by kernel_rfl, ?_⟩) (by assumption) ?_
                rotate_left
                · rintro w ⟨z0, z1, z2, z3, z4, z5, z6, z7⟩; go_simp; (try with_reducible rfl)
                try simp only [Act.put, List.setIfInBounds_toArray, List.set_cons_zero, List.set_cons_succ, d1, d2, d3, d4]
                refine wpAnyH_take (i := 1) (v := ?_) rfl (by kernel_rfl) (by kernel_rfl) (by kernel_rfl) (fun _ _ _ h => h) (Or.inl ⟨by kernel_rfl, ?_⟩) (by assumption) ?_
                rotate_left
                · rintro w ⟨z0, z1, z2, z3, z4, z5, z6, z7⟩; go_simp; (try with_reducible rfl)
                try simp only [Act.put, List.setIfInBounds_toArray, List.set_cons_zero, List.set_cons_succ, d1, d2, d3, d4]
                refine wpAnyH_take (i := 2) (v := ?_) rfl (by kernel_rfl) (by kernel_rfl) (by kernel_rfl) (fun _ _ _ h => h) (Or.inl ⟨by kernel_rfl, ?_⟩) (by assumption) ?_
                rotate_left
                · rintro w ⟨z0, z1, z2, z3, z4, z5, z6, z7⟩; go_simp; (try with_reducible rfl)
                try simp only [Act.put, List.setIfInBounds_toArray, List.set_cons_zero, List.set_cons_succ, d1, d2, d3, d4]
                refine wpAnyH_take (i := 3) (v := ?_) rfl (by kernel_rfl) (by kernel_rfl) (by kernel_rfl) (fun _ _ _ h => h) (Or.inl ⟨by kernel_rfl, ?_⟩) (by assumption) ?_
                rotate_left
                · rintro w ⟨z0, z1, z2, z3, z4, z5, z6, z7⟩; go_simp; (try with_reducible rfl)
                try simp only [Act.put, List.setIfInBounds_toArray, List.set_cons_zero, List.set_cons_succ, d1, d2, d3, d4]
                refine wpAnyH_take (i := 4) (v := ?_) rfl (by kernel_rfl) (by kernel_rfl) (by kernel_rfl) (fun _ _ _ h => h) (Or.inl ⟨by kernel_rfl, ?_⟩) (by assumption) ?_
                rotate_left
                · rintro w ⟨z0, z1, z2, z3, z4, z5, z6, z7⟩; go_simp; (try with_reducible rfl)
                try simp only [Act.put, List.setIfInBounds_toArray, List.set_cons_zero, List.set_cons_succ, d1, d2, d3, d4]
                refine wpAnyH_take (i := 5) (v := ?_) rfl (by kernel_rfl) (by kernel_rfl) (by kernel_rfl) (fun _ _ _ h => h) (Or.inl ⟨by kernel_rfl, ?_⟩) (by assumption) ?_
                rotate_left
                · rintro w ⟨z0, z1, z2, z3, z4, z5, z6, z7⟩; go_simp; (try with_reducible rfl)
                try simp only [Act.put, List.setIfInBounds_toArray, List.set_cons_zero, List.set_cons_succ, d1, d2, d3, d4]
                refine wpAnyH_take (i := 6) (v := ?_) rfl (by kernel_rfl) (by kernel_rfl) (by kernel_rfl) (fun _ _ _ h => h) (Or.inl ⟨by kernel_rfl, ?_⟩) (by assumption) ?_
                rotate_left
                · rintro w ⟨z0, z1, z2, z3, z4, z5, z6, z7⟩; go_simp; (try with_reducible rfl)
                try simp only [Act.put, List.setIfInBounds_toArray, List.set_cons_zero, List.set_cons_succ, d1, d2, d3, d4]
                refine wpAnyH_take (i := 7) (v := ?_) rfl (by kernel_rfl) (by kernel_rfl) (by kernel_rfl) (fun _ _ _ h => h) (Or.inl ⟨by kernel_rfl, ?_⟩) (by assumption) ?_
                rotate_left
                · rintro w ⟨z0, z1, z2, z3, z4, z5, z6, z7⟩; go_simp; (try with_reducible rfl)
                try simp only [Act.put, List.setIfInBounds_toArray, List.set_cons_zero, List.set_cons_succ, d1, d2, d3, d4]
                refine wpAnyH_take (i := 8) (v := ?_) rfl (by kernel_rfl) (by kernel_rfl) (by kernel_rfl) (fun _ _ _ h => h) (Or.inl ⟨by kernel_rfl, ?_⟩) (by assumption) ?_
                rotate_left
                · rintro w ⟨z0, z1, z2, z3, z4, z5, z6, z7⟩; go_simp; (try with_reducible rfl)
                try simp only [Act.put, List.setIfInBounds_toArray, List.set_cons_zero, List.set_cons_succ, d1, d2, d3, d4]
                refine wpAnyH_take (i := 9) (v := ?_) rfl (by kernel_rfl) (by kernel_rfl) (by kernel_rfl) (fun _ _ _ h => h) (Or.inl ⟨by kernel_rfl, ?_⟩) (by assumption) ?_
                rotate_left
                · rintro w ⟨z0, z1, z2, z3, z4, z5, z6, z7⟩; go_simp; (try with_reducible rfl)
                try simp only [Act.put, List.setIfInBounds_toArray, List.set_cons_zero, List.set_cons_succ, d1, d2, d3, d4]
                refine wpAnyH_take (i := 10) (v := ?_) rfl (by kernel_rfl) (by kernel_rfl) (by kernel_rfl) (fun _ _ _ h => h) (Or.inl ⟨by kernel_rfl, ?_⟩) (by assumption) ?_
                rotate_left
                · rintro w ⟨z0, z1, z2, z3, z4, z5, z6, z7⟩; go_simp; (try with_reducible rfl)
                try simp only [Act.put, List.setIfInBounds_toArray, List.set_cons_zero, List.set_cons_succ, d1, d2, d3, d4]
                refine wpAnyH_take (i := 11) (v := ?_) rfl (by kernel_rfl) (by kernel_rfl) (by kernel_rfl) (fun _ _ _ h => h) (Or.inl ⟨by kernel_rfl, ?_⟩) (by assumption) ?_
                rotate_left
                · rintro w ⟨z0, z1, z2, z3, z4, z5, z6, z7⟩; go_simp; (try with_reducible rfl)
                try simp only [Act.put, List.setIfInBounds_toArray, List.set_cons_zero, List.set_cons_succ, d1, d2, d3, d4]
                refine wpAnyH_take (i := 12) (v := ?_) rfl (by kernel_rfl) (by kernel_rfl) (by kernel_rfl) (fun _ _ _ h => h) (Or.inl ⟨by kernel_rfl, ?_⟩) (by assumption) ?_
                rotate_left
                · rintro w ⟨z0, z1, z2, z3, z4, z5, z6, z7⟩; go_simp; (try with_reducible rfl)
                try simp only [Act.put, List.setIfInBounds_toArray, List.set_cons_zero, List.set_cons_succ, d1, d2, d3, d4]
                refine wpAnyH_take (i := 13) (v := ?_) rfl (by kernel_rfl) (by kernel_rfl) (by kernel_rfl) (fun _ _ _ h => h) (Or.inl ⟨by kernel_rfl, ?_⟩) (by assumption) ?_
                rotate_left
                · rintro w ⟨z0, z1, z2, z3, z4, z5, z6, z7⟩; go_simp; (try with_reducible rfl)
                try simp only [Act.put, List.setIfInBounds_toArray, List.set_cons_zero, List.set_cons_succ, d1, d2, d3, d4]
                refine wpAnyH_take (i := 14) (v := ?_) rfl (by kernel_rfl) (by kernel_rfl) (by kernel_rfl) (fun _ _ _ h => h) (Or.inl ⟨by kernel_rfl, ?_⟩) (by assumption) ?_
                rotate_left
                · rintro w ⟨z0, z1, z2, z3, z4, z5, z6, z7⟩; go_simp; (try with_reducible rfl)
                try simp only [Act.put, List.setIfInBounds_toArray, List.set_cons_zero, List.set_cons_succ, d1, d2, d3, d4]
                refine wpAnyH_take (i := 15) (v := ?_) rfl (by kernel_rfl) (by kernel_rfl) (by kernel_rfl) (fun _ _ _ h => h) (Or.inl ⟨by kernel_rfl, ?_⟩) (by assumption) ?_
                rotate_left
                · rintro w ⟨z0, z1, z2, z3, z4, z5, z6, z7⟩; go_simp; (try with_reducible rfl)
                try simp only [Act.put, List.setIfInBounds_toArray, List.set_cons_zero, List.set_cons_succ, d1, d2, d3, d4]
                refine wpAnyH_take (i := 16) (v := ?_) rfl (by kernel_rfl) (by kernel_rfl) (by kernel_rfl) (fun _ _ _ h => h) (Or.inl ⟨by kernel_rfl, ?_⟩) (by assumption) ?_
                rotate_left
                · rintro w ⟨z0, z1, z2, z3, z4, z5, z6, z7⟩; go_simp; (try with_reducible rfl)
                try simp only [Act.put, List.setIfInBounds_toArray, List.set_cons_zero, List.set_cons_succ, d1, d2, d3, d4]
                refine wpAnyH_take (i := 17) (v := ?_) rfl (by kernel_rfl) (by kernel_rfl) (by kernel_rfl) (fun _ _ _ h => h) (Or.inl ⟨by kernel_rfl, ?_⟩) (by assumption) ?_
                rotate_left
                · rintro w ⟨z0, z1, z2, z3, z4, z5, z6, z7⟩; go_simp; (try with_reducible rfl)
                try simp only [Act.put, List.setIfInBounds_toArray, List.set_cons_zero, List.set_cons_succ, d1, d2, d3, d4]
                refine wpAnyH_take (i := 18) (v := ?_) rfl (by kernel_rfl) (by kernel_rfl) (by kernel_rfl) (fun _ _ _ h => h) (Or.inl ⟨by kernel_rfl, ?_⟩) (by assumption) ?_
                rotate_left
                · rintro w ⟨z0, z1, z2, z3, z4, z5, z6, z7⟩; go_simp; (try with_reducible rfl)
                try simp only [Act.put, List.setIfInBounds_toArray, List.set_cons_zero, List.set_cons_succ, d1, d2, d3, d4]
                refine wpAnyH_take (i := 20) (v := ?_) rfl (by kernel_rfl) (by kernel_rfl) (by kernel_rfl) (fun _ _ _ h => h) (Or.inl ⟨by kernel_rfl, ?_⟩) (by assumption) ?_
                rotate_left
                · rintro w ⟨z0, z1, z2, z3, z4, z5, z6, z7⟩; go_simp; (try with_reducible rfl)
                try simp only [Act.put, List.setIfInBounds_toArray, List.set_cons_zero, List.set_cons_succ, d1, d2, d3, d4]
                refine wpAnyH_take (i := 21) (v := ?_) rfl (by kernel_rfl) (by kernel_rfl) (by kernel_rfl) (fun _ _ _ h => h) (Or.inl ⟨by kernel_rfl, ?_⟩) (by assumption) ?_
                rotate_left
                · rintro w ⟨z0, z1, z2, z3, z4, z5, z6, z7⟩; go_simp; (try with_reducible rfl)
                try simp only [Act.put, List.setIfInBounds_toArray, List.set_cons_zero, List.set_cons_succ, d1, d2, d3, d4]
                refine wpAnyH_take (i := 22) (v := ?_) rfl (by kernel_rfl) (by kernel_rfl) (by kernel_rfl) (fun _ _ _ h => h) (Or.inl ⟨by kernel_rfl, ?_⟩) (by assumption) ?_
                rotate_left
                · rintro w ⟨z0, z1, z2, z3, z4, z5, z6, z7⟩; go_simp; (try with_reducible rfl)
                try simp only [Act.put, List.setIfInBounds_toArray, List.set_cons_zero, List.set_cons_succ, d1, d2, d3, d4]
                refine wpAnyH_take (i := 23) (v := ?_) rfl (by kernel_rfl) (by kernel_rfl) (by kernel_rfl) (fun _ _ _ h => h) (Or.inl ⟨by kernel_rfl, ?_⟩) (by assumption) ?_
                rotate_left
                · rintro w ⟨z0, z1, z2, z3, z4, z5, z6, z7⟩; go_simp; (try with_reducible rfl)
                try simp only [Act.put, List.setIfInBounds_toArray, List.set_cons_zero, List.set_cons_succ, d1, d2, d3, d4]
                refine wpAnyH_ready (rs := [19]) (by kernel_rfl) (by simp) ?_
                refine AllReadyH.cons rfl (fun K hK => ?_) AllReadyH.nil
                go_simp
                refine (hEnd.out _).mono ?_
                rintro e w' ⟨rfl, rfl⟩
                refine hK.out _ _ (HS1.out _) (fun hHeld => ?_)
                clear hK K
                try simp only [Act.put, List.setIfInBounds_toArray, List.set_cons_zero, List.set_cons_succ, d1, d2, d3, d4]
                refine wpAnyH_take (i := 24) (v := ?_) rfl (by kernel_rfl) (by kernel_rfl) (by kernel_rfl) (fun _ _ _ h => h) (Or.inl ⟨by kernel_rfl, ?_⟩) (by assumption) ?_
                rotate_left
                · rintro w ⟨z0, z1, z2, z3, z4, z5, z6, z7⟩; go_simp; (try with_reducible rfl)
                simp only [List.getElem_toArray, List.getElem_cons_succ, List.getElem_cons_zero]
                try simp only [Act.put, List.setIfInBounds_toArray, List.set_cons_zero, List.set_cons_succ, d1, d2, d3, d4]
                refine wpAnyH_take (i := 25) (v := ?_) rfl (by kernel_rfl) (by kernel_rfl) (by kernel_rfl) (fun _ _ _ h => h) (Or.inl ⟨by kernel_rfl, ?_⟩) (by assumption) ?_
                rotate_left
                · rintro w ⟨z0, z1, z2, z3, z4, z5, z6, z7⟩; go_simp; (try with_reducible rfl)
                simp only [List.getElem_toArray, List.getElem_cons_succ, List.getElem_cons_zero]
                try simp only [Act.put, List.setIfInBounds_toArray, List.set_cons_zero, List.set_cons_succ, d1, d2, d3, d4]
                refine wpAnyH_done (by kernel_rfl) ?_ _
                gi_wp2_with fail
                gi_meet
                case rel => exact ⟨by rw [hbd], .inr rfl⟩
              · have hbd : decide (badP r at_ ⟨pa, pn, pc, pt, true⟩) = false := decide_eq_false (fun h => by have := hbp.1 h; omega)
                have d4 : decide ((r : Int) < (fn : Int)) = false := decide_eq_false (by omega)
                refine region_toRound (fun X => X.cell? ⟨b8, 0, none⟩ = some (.int .i64 (pa : Int)) ∧ X.cell? ⟨b8, 1, none⟩ = some (.int .i64 (pn : Int)) ∧ X.cell? ⟨b8, 2, none⟩ = some (.int .i64 (pc : Int)) ∧ X.cell? ⟨b8, 3, none⟩ = some (.int .u64 (pt : Int)) ∧ X.cell? ⟨b8, 4, none⟩ = some (.bool true) ∧ X.cell? ⟨b6, 0, none⟩ = some (.int .i64 (at_ : Int)) ∧ X.cell? ⟨b4, 0, none⟩ = some (.pointer (some ⟨R, 0, none⟩)) ∧ X.cell? ⟨R, 0, none⟩ = some (.int .i64 (r : Int))) (by kernel_rfl) (by kernel_rfl) (by rintro ⟨_, _, h⟩; exact h) HS0.out (fun hHeld => ?_)
                refine wpAnyH_take (i := 0) (v := ?_) rfl (by kernel_rfl) (by kernel_rfl) (by kernel_rfl) (fun _ _ _ h => h) (Or.inl ⟨by kernel_rfl, ?_⟩) (by assumption) ?_
                rotate_left
                · rintro w ⟨z0, z1, z2, z3, z4, z5, z6, z7⟩; go_simp; (try with_reducible rfl)
                try simp only [Act.put, List.setIfInBounds_toArray, List.set_cons_zero, List.set_cons_succ, d1, d2, d3, d4]
                refine wpAnyH_take (i := 1) (v := ?_) rfl (by kernel_rfl) (by kernel_rfl) (by kernel_rfl) (fun _ _ _ h => h) (Or.inl ⟨by kernel_rfl, ?_⟩) (by assumption) ?_
                rotate_left
                · rintro w ⟨z0, z1, z2, z3, z4, z5, z6, z7⟩; go_simp; (try with_reducible rfl)
                try simp only [Act.put, List.setIfInBounds_toArray, List.set_cons_zero, List.set_cons_succ, d1, d2, d3, d4]
                refine wpAnyH_take (i := 2) (v := ?_) rfl (by kernel_rfl) (by kernel_rfl) (by kernel_rfl) (fun _ _ _ h => h) (Or.inl ⟨by kernel_rfl, ?_⟩) (by assumption) ?_
                rotate_left
                · rintro w ⟨z0, z1, z2, z3, z4, z5, z6, z7⟩; go_simp; (try with_reducible rfl)
                try simp only [Act.put, List.setIfInBounds_toArray, List.set_cons_zero, List.set_cons_succ, d1, d2, d3, d4]
                refine wpAnyH_take (i := 3) (v := ?_) rfl (by kernel_rfl) (by kernel_rfl) (by kernel_rfl) (fun _ _ _ h => h) (Or.inl ⟨by kernel_rfl, ?_⟩) (by assumption) ?_
                rotate_left
                · rintro w ⟨z0, z1, z2, z3, z4, z5, z6, z7⟩; go_simp; (try with_reducible rfl)
                try simp only [Act.put, List.setIfInBounds_toArray, List.set_cons_zero, List.set_cons_succ, d1, d2, d3, d4]
                refine wpAnyH_take (i := 4) (v := ?_) rfl (by kernel_rfl) (by kernel_rfl) (by kernel_rfl) (fun _ _ _ h => h) (Or.inl ⟨by kernel_rfl, ?_⟩) (by assumption) ?_
                rotate_left
                · rintro w ⟨z0, z1, z2, z3, z4, z5, z6, z7⟩; go_simp; (try with_reducible rfl)
                try simp only [Act.put, List.setIfInBounds_toArray, List.set_cons_zero, List.set_cons_succ, d1, d2, d3, d4]
                refine wpAnyH_take (i := 5) (v := ?_) rfl (by kernel_rfl) (by kernel_rfl) (by kernel_rfl) (fun _ _ _ h => h) (Or.inl ⟨by kernel_rfl, ?_⟩) (by assumption) ?_
                rotate_left
                · rintro w ⟨z0, z1, z2, z3, z4, z5, z6, z7⟩; go_simp; (try with_reducible rfl)
                try simp only [Act.put, List.setIfInBounds_toArray, List.set_cons_zero, List.set_cons_succ, d1, d2, d3, d4]
                refine wpAnyH_take (i := 6) (v := ?_) rfl (by kernel_rfl) (by kernel_rfl) (by kernel_rfl) (fun _ _ _ h => h) (Or.inl ⟨by kernel_rfl, ?_⟩) (by assumption) ?_
                rotate_left
                · rintro w ⟨z0, z1, z2, z3, z4, z5, z6, z7⟩; go_simp; (try with_reducible rfl)
                try simp only [Act.put, List.setIfInBounds_toArray, List.set_cons_zero, List.set_cons_succ, d1, d2, d3, d4]
                refine wpAnyH_take (i := 7) (v := ?_) rfl (by kernel_rfl) (by kernel_rfl) (by kernel_rfl) (fun _ _ _ h => h) (Or.inl ⟨by kernel_rfl, ?_⟩) (by assumption) ?_
                rotate_left
                · rintro w ⟨z0, z1, z2, z3, z4, z5, z6, z7⟩; go_simp; (try with_reducible rfl)
                try simp only [Act.put, List.setIfInBounds_toArray, List.set_cons_zero, List.set_cons_succ, d1, d2, d3, d4]
                refine wpAnyH_take (i := 8) (v := ?_) rfl (by kernel_rfl) (by kernel_rfl) (by kernel_rfl) (fun _ _ _ h => h) (Or.inl ⟨by kernel_rfl, ?_⟩) (by assumption) ?_
                rotate_left
                · rintro w ⟨z0, z1, z2, z3, z4, z5, z6, z7⟩; go_simp; (try with_reducible rfl)
                try simp only [Act.put, List.setIfInBounds_toArray, List.set_cons_zero, List.set_cons_succ, d1, d2, d3, d4]
                refine wpAnyH_take (i := 9) (v := ?_) rfl (by kernel_rfl) (by kernel_rfl) (by kernel_rfl) (fun _ _ _ h => h) (Or.inl ⟨by kernel_rfl, ?_⟩) (by assumption) ?_
                rotate_left
                · rintro w ⟨z0, z1, z2, z3, z4, z5, z6, z7⟩; go_simp; (try with_reducible rfl)
                try simp only [Act.put, List.setIfInBounds_toArray, List.set_cons_zero, List.set_cons_succ, d1, d2, d3, d4]
                refine wpAnyH_take (i := 10) (v := ?_) rfl (by kernel_rfl) (by kernel_rfl) (by kernel_rfl) (fun _ _ _ h => h) (Or.inl ⟨by kernel_rfl, ?_⟩) (by assumption) ?_
                rotate_left
                · rintro w ⟨z0, z1, z2, z3, z4, z5, z6, z7⟩; go_simp; (try with_reducible rfl)
                try simp only [Act.put, List.setIfInBounds_toArray, List.set_cons_zero, List.set_cons_succ, d1, d2, d3, d4]
                refine wpAnyH_take (i := 11) (v := ?_) rfl (by kernel_rfl) (by kernel_rfl) (by kernel_rfl) (fun _ _ _ h => h) (Or.inl ⟨by kernel_rfl, ?_⟩) (by assumption) ?_
                rotate_left
                · rintro w ⟨z0, z1, z2, z3, z4, z5, z6, z7⟩; go_simp; (try with_reducible rfl)
                try simp only [Act.put, List.setIfInBounds_toArray, List.set_cons_zero, List.set_cons_succ, d1, d2, d3, d4]
                refine wpAnyH_take (i := 12) (v := ?_) rfl (by kernel_rfl) (by kernel_rfl) (by kernel_rfl) (fun _ _ _ h => h) (Or.inl ⟨by kernel_rfl, ?_⟩) (by assumption) ?_
                rotate_left
                · rintro w ⟨z0, z1, z2, z3, z4, z5, z6, z7⟩; go_simp; (try with_reducible rfl)
                try simp only [Act.put, List.setIfInBounds_toArray, List.set_cons_zero, List.set_cons_succ, d1, d2, d3, d4]
                refine wpAnyH_take (i := 13) (v := ?_) rfl (by kernel_rfl) (by kernel_rfl) (by kernel_rfl) (fun _ _ _ h => h) (Or.inl ⟨by kernel_rfl, ?_⟩) (by assumption) ?_
                rotate_left
                · rintro w ⟨z0, z1, z2, z3, z4, z5, z6, z7⟩; go_simp; (try with_reducible rfl)
                try simp only [Act.put, List.setIfInBounds_toArray, List.set_cons_zero, List.set_cons_succ, d1, d2, d3, d4]
                refine wpAnyH_take (i := 14) (v := ?_) rfl (by kernel_rfl) (by kernel_rfl) (by kernel_rfl) (fun _ _ _ h => h) (Or.inl ⟨by kernel_rfl, ?_⟩) (by assumption) ?_
                rotate_left
                · rintro w ⟨z0, z1, z2, z3, z4, z5, z6, z7⟩; go_simp; (try with_reducible rfl)
                try simp only [Act.put, List.setIfInBounds_toArray, List.set_cons_zero, List.set_cons_succ, d1, d2, d3, d4]
                refine wpAnyH_take (i := 15) (v := ?_) rfl (by kernel_rfl) (by kernel_rfl) (by kernel_rfl) (fun _ _ _ h => h) (Or.inl ⟨by kernel_rfl, ?_⟩) (by assumption) ?_
                rotate_left
                · rintro w ⟨z0, z1, z2, z3, z4, z5, z6, z7⟩; go_simp; (try with_reducible rfl)
                try simp only [Act.put, List.setIfInBounds_toArray, List.set_cons_zero, List.set_cons_succ, d1, d2, d3, d4]
                refine wpAnyH_take (i := 16) (v := ?_) rfl (by kernel_rfl) (by kernel_rfl) (by kernel_rfl) (fun _ _ _ h => h) (Or.inl ⟨by kernel_rfl, ?_⟩) (by assumption) ?_
                rotate_left
                · rintro w ⟨z0, z1, z2, z3, z4, z5, z6, z7⟩; go_simp; (try with_reducible rfl)
                try simp only [Act.put, List.setIfInBounds_toArray, List.set_cons_zero, List.set_cons_succ, d1, d2, d3, d4]
                refine wpAnyH_take (i := 17) (v := ?_) rfl (by kernel_rfl) (by kernel_rfl) (by kernel_rfl) (fun _ _ _ h => h) (Or.inl ⟨by kernel_rfl, ?_⟩) (by assumption) ?_
                rotate_left
                · rintro w ⟨z0, z1, z2, z3, z4, z5, z6, z7⟩; go_simp; (try with_reducible rfl)
                try simp only [Act.put, List.setIfInBounds_toArray, List.set_cons_zero, List.set_cons_succ, d1, d2, d3, d4]
                refine wpAnyH_take (i := 18) (v := ?_) rfl (by kernel_rfl) (by kernel_rfl) (by kernel_rfl) (fun _ _ _ h => h) (Or.inl ⟨by kernel_rfl, ?_⟩) (by assumption) ?_
                rotate_left
                · rintro w ⟨z0, z1, z2, z3, z4, z5, z6, z7⟩; go_simp; (try with_reducible rfl)
                try simp only [Act.put, List.setIfInBounds_toArray, List.set_cons_zero, List.set_cons_succ, d1, d2, d3, d4]
                refine wpAnyH_take (i := 20) (v := ?_) rfl (by kernel_rfl) (by kernel_rfl) (by kernel_rfl) (fun _ _ _ h => h) (Or.inl ⟨by kernel_rfl, ?_⟩) (by assumption) ?_
                rotate_left
                · rintro w ⟨z0, z1, z2, z3, z4, z5, z6, z7⟩; go_simp; (try with_reducible rfl)
                try simp only [Act.put, List.setIfInBounds_toArray, List.set_cons_zero, List.set_cons_succ, d1, d2, d3, d4]
                refine wpAnyH_take (i := 21) (v := ?_) rfl (by kernel_rfl) (by kernel_rfl) (by kernel_rfl) (fun _ _ _ h => h) (Or.inl ⟨by kernel_rfl, ?_⟩) (by assumption) ?_
                rotate_left
                · rintro w ⟨z0, z1, z2, z3, z4, z5, z6, z7⟩; go_simp; (try with_reducible rfl)
                try simp only [Act.put, List.setIfInBounds_toArray, List.set_cons_zero, List.set_cons_succ, d1, d2, d3, d4]
                refine wpAnyH_take (i := 22) (v := ?_) rfl (by kernel_rfl) (by kernel_rfl) (by kernel_rfl) (fun _ _ _ h => h) (Or.inl ⟨by kernel_rfl, ?_⟩) (by assumption) ?_
                rotate_left
                · rintro w ⟨z0, z1, z2, z3, z4, z5, z6, z7⟩; go_simp; (try with_reducible rfl)
                try simp only [Act.put, List.setIfInBounds_toArray, List.set_cons_zero, List.set_cons_succ, d1, d2, d3, d4]
                refine wpAnyH_take (i := 23) (v := ?_) rfl (by kernel_rfl) (by kernel_rfl) (by kernel_rfl) (fun _ _ _ h => h) (Or.inl ⟨by kernel_rfl, ?_⟩) (by assumption) ?_
                rotate_left
                · rintro w ⟨z0, z1, z2, z3, z4, z5, z6, z7⟩; go_simp; (try with_reducible rfl)
                try simp only [Act.put, List.setIfInBounds_toArray, List.set_cons_zero, List.set_cons_succ, d1, d2, d3, d4]
                refine wpAnyH_ready (rs := [19]) (by kernel_rfl) (by simp) ?_
                refine AllReadyH.cons rfl (fun K hK => ?_) AllReadyH.nil
                go_simp
                refine (hEnd.out _).mono ?_
                rintro e w' ⟨rfl, rfl⟩
                refine hK.out _ _ (HS1.out _) (fun hHeld => ?_)
                clear hK K
                try simp only [Act.put, List.setIfInBounds_toArray, List.set_cons_zero, List.set_cons_succ, d1, d2, d3, d4]
                refine wpAnyH_take (i := 24) (v := ?_) rfl (by kernel_rfl) (by kernel_rfl) (by kernel_rfl) (fun _ _ _ h => h) (Or.inl ⟨by kernel_rfl, ?_⟩) (by assumption) ?_
                rotate_left
                · rintro w ⟨z0, z1, z2, z3, z4, z5, z6, z7⟩; go_simp; (try with_reducible rfl)
                simp only [List.getElem_toArray, List.getElem_cons_succ, List.getElem_cons_zero]
                try simp only [Act.put, List.setIfInBounds_toArray, List.set_cons_zero, List.set_cons_succ, d1, d2, d3, d4]
                refine wpAnyH_take (i := 25) (v := ?_) rfl (by kernel_rfl) (by kernel_rfl) (by kernel_rfl) (fun _ _ _ h => h) (Or.inl ⟨by kernel_rfl, ?_⟩) (by assumption) ?_
                rotate_left
                · rintro w ⟨z0, z1, z2, z3, z4, z5, z6, z7⟩; go_simp; (try with_reducible rfl)
                simp only [List.getElem_toArray, List.getElem_cons_succ, List.getElem_cons_zero]
                try simp only [Act.put, List.setIfInBounds_toArray, List.set_cons_zero, List.set_cons_succ, d1, d2, d3, d4]
                refine wpAnyH_done (by kernel_rfl) ?_ _
                gi_wp2_with fail
                gi_meet
                case rel => exact ⟨by rw [hbd], .inr rfl⟩
      case rest =>
        obtain ⟨rfl, hwc⟩ := hcut
        obtain ⟨HV, rP, hWV, hv8, -, hsn, hat⟩ := HG.out
        obtain ⟨HC, rC8, hWC⟩ : Ldi w wc b2 b3 b4 b6 Bs R r at_ v ps A' L c' ∧ Bx wc b8 90 #[.int .i64 (pa : Int), .int .i64 (pn : Int), .int .i64 (pc : Int), .int .u64 (pt : Int), .bool true] ∧ LdK w.heap.size Bs W2.heap.size W wc := by
          rcases hwc with rfl | rfl
          · exact ⟨HV.drew, rP, hWV.trans (LdK.drewR V)⟩
          · exact ⟨HV.drew.alloc _, Bx.alloc (w := V.drew) rP _, (hWV.trans (LdK.drewR V)).trans (LdK.allocR V.drew _ HV.below.size HV.rC.lt)⟩
        clear hwc HS0 HS1 HV rP hWV hBl HG
        by_cases hbad : badP r at_ ⟨pa, pn, pc, pt, true⟩
        · rw [decide_eq_true hbad]
          rw [if_pos hbad] at hsn
          have n23 := bx_ne HC.r2 HC.r3 (by decide)
          have n2B := bx_ne HC.rB HC.r2 (by decide)
          have n3B := bx_ne HC.rB HC.r3 (by decide)
          have n2C := bx_ne HC.rC HC.r2 (by decide)
          have n3C := bx_ne HC.rC HC.r3 (by decide)
          have f2 : wc.frozen? ⟨b2, 0, none⟩ = false := HC.r2.frozen 0
          have c2 : wc.cell? ⟨b2, 0, none⟩ = some (.pointer none) := HC.r2.cell 0
          have k3 := HC.r3.other (Ne.symm n23) 0 (.pointer none)
          have f3 : (wc.setCell ⟨b2, 0, none⟩ (.pointer none)).frozen? ⟨b3, 0, none⟩ = false := k3.frozen 0
          have c3 : (wc.setCell ⟨b2, 0, none⟩ (.pointer none)).cell? ⟨b3, 0, none⟩ = some .nilIface := k3.cell 0
          have HE := Lib.hid (show KeepsFrom W2.heap.size W ((wc.setCell ⟨b2, 0, none⟩ (.pointer none)).setCell ⟨b3, 0, none⟩ (errE 7)) ∧ Code.ret = Code.ret ∧ loadL r 0 ((pre ++ [x]).map (fun x => chunkAt bs x.k)) = none ∧ Bx ((wc.setCell ⟨b2, 0, none⟩ (.pointer none)).setCell ⟨b3, 0, none⟩ (errE 7)) b2 24 #[.pointer none] ∧ Bx ((wc.setCell ⟨b2, 0, none⟩ (.pointer none)).setCell ⟨b3, 0, none⟩ (errE 7)) b3 62 #[errE 7] ∧ Below w.heap.size w ((wc.setCell ⟨b2, 0, none⟩ (.pointer none)).setCell ⟨b3, 0, none⟩ (errE 7)) from
            ⟨(hWC.1.trans ((KeepsOthers.setCell _ _ _).from _)).trans ((KeepsOthers.setCell _ _ _).from _), rfl, hsn, (HC.r2.set 0 _).other n23 _ _, k3.set 0 _, setB (setB HC.below HC.h2 _ _) HC.h3 _ _⟩)
          clear hsn hWC HC k3 rC8
          gi_wp2_with fail
          exact ⟨HE.out.1, rfl, HE.out.2.2⟩
        · rw [decide_eq_false hbad]
          rw [if_neg hbad] at hsn
          have hgd : at_ ≤ pa ∧ 1 ≤ pn ∧ fn ≤ r := by
            have : ¬ (pa < at_ ∨ pn < 1 ∨ pc = 0 ∨ r < fn) := fun h => hbad (hbp.2 h)
            omega
          have cc0 : wc.cell? ⟨b8, 0, none⟩ = some (.int .i64 (pa : Int)) := rC8.cell 0
          have cc1 : wc.cell? ⟨b8, 1, none⟩ = some (.int .i64 (pn : Int)) := rC8.cell 1
          have cc2 : wc.cell? ⟨b8, 2, none⟩ = some (.int .i64 (pc : Int)) := rC8.cell 2
          have cc3 : wc.cell? ⟨b8, 3, none⟩ = some (.int .u64 (pt : Int)) := rC8.cell 3
          have cc4 : wc.cell? ⟨b8, 4, none⟩ = some (.bool true) := rC8.cell 4
          obtain ⟨V3, hV3⟩ : ∃ V3, wc.alloc (.cells #[.int .i64 (pa : Int), .int .i64 (pn : Int), .int .i64 (pc : Int), .int .u64 (pt : Int), .bool true] 90) = V3 := ⟨_, rfl⟩
          have HV3 : Ldi w V3 b2 b3 b4 b6 Bs R r at_ v ps A' L c' := by rw [← hV3]; exact HC.alloc _
          have r83 : Bx V3 b8 90 #[.int .i64 (pa : Int), .int .i64 (pn : Int), .int .i64 (pc : Int), .int .u64 (pt : Int), .bool true] := by rw [← hV3]; exact rC8.alloc _
          have hWV3 : LdK w.heap.size Bs W2.heap.size W V3 := by rw [← hV3]; exact hWC.trans (LdK.allocR wc _ HC.below.size HC.rC.lt)
          obtain ⟨HV4, hK4⟩ := HV3.setAt fn W2.heap.size
          have y6 : V3.cell? ⟨b6, 0, none⟩ = some (.int .i64 (at_ : Int)) := HV3.r6.cell 0
          have g6 : V3.frozen? ⟨b6, 0, none⟩ = false := HV3.r6.frozen 0
          obtain ⟨V4, hV4⟩ : ∃ V4, V3.setCell ⟨b6, 0, none⟩ (.int .i64 (fn : Int)) = V4 := ⟨_, rfl⟩
          have r84 : Bx V4 b8 90 #[.int .i64 (pa : Int), .int .i64 (pn : Int), .int .i64 (pc : Int), .int .u64 (pt : Int), .bool true] := by rw [← hV4]; exact r83.other (bx_ne r83 HV3.r6 (by decide)) _ _
          rw [hV4] at HV4 hK4
          have hEnd3 := Lib.hid (show Calls Tryd.prog 48 #[.agg #[.int .i64 (pa : Int), .int .i64 (pn : Int), .int .i64 (pc : Int), .int .u64 (pt : Int), .bool true]] wc fun e w' => e = .returned (.int .i64 (fn : Int)) ∧ w' = V3 from (hEnd.out wc).mono (by rintro e w' ⟨rfl, rfl⟩; exact ⟨rfl, hV3⟩))
          obtain ⟨b9, hb9⟩ : ∃ b9, V4.heap.size = b9 := ⟨_, rfl⟩
          have hone := run_onePc V4.drew pa pn pc pt
          rw [show V4.drew.heap.size = b9 from hb9] at hone
          obtain ⟨V5, hV5⟩ : ∃ V5, V4.drew.alloc (.cells #[.int .i64 (pa : Int), .int .i64 (pn : Int), .int .i64 (pc : Int), .int .u64 (pt : Int), .bool true] 90) = V5 := ⟨_, rfl⟩
          rw [hV5] at hone
          have HV5 : Ldi w V5 b2 b3 b4 b6 Bs R r fn v ps A' L c' := by rw [← hV5]; exact HV4.drew.alloc _
          have r85 : Bx V5 b8 90 #[.int .i64 (pa : Int), .int .i64 (pn : Int), .int .i64 (pc : Int), .int .u64 (pt : Int), .bool true] := by rw [← hV5]; exact Bx.alloc (w := V4.drew) r84 _
          have r95 : Bx V5 b9 90 #[.int .i64 (pa : Int), .int .i64 (pn : Int), .int .i64 (pc : Int), .int .u64 (pt : Int), .bool true] := by
            have := Bx.new V4.drew 90 #[.int .i64 (pa : Int), .int .i64 (pn : Int), .int .i64 (pc : Int), .int .u64 (pt : Int), .bool true]
            rw [hV5, show V4.drew.heap.size = b9 from hb9] at this
            exact this
          have hWV5 : LdK w.heap.size Bs W2.heap.size W V5 := by rw [← hV5]; exact ((hWV3.trans hK4).trans (LdK.drewR V4)).trans (LdK.allocR V4.drew _ HV4.below.size HV4.rC.lt)
          obtain ⟨v', V6, hr, ho, hg, hlie⟩ := appendS V5 w.heap.size v ps HV5.sp.own HV5.below.size ⟨b9, 0, none⟩ 1 ⟨pa, pn, pc, pt, true⟩ (fun j u hj => by
            rw [addr_add0, cell_of_row _ _ _ _ _ _ r95, ← hj]
            rw [pcL_one]
            simp [pcA]) HV5.sp.len 86
          obtain ⟨Av, nv, cv, rfl⟩ : ∃ A n c, v' = .slice A n c := by
            obtain ⟨A, c, e, _⟩ := ho
            exact ⟨A, _, c, e⟩
          have hq : Wf r 0 (ps ++ [⟨pa, pn, pc, pt, true⟩]) := wf_snoc (p := ⟨pa, pn, pc, pt, true⟩) ps 0 HV5.sp.wf (by rw [hat]; exact hgd.1) hgd.2.1 (by show pc ≤ 65535; omega) q4 (by show pa + pn ≤ r; omega)
          obtain ⟨HP, hKP, fP, cP, keep⟩ := HV5.push ho hg hlie hq W2.heap.size
          have r46 := keep HV5.r4 (by decide) (by decide)
          have r86 : Bx V6 b8 90 #[.int .i64 (pa : Int), .int .i64 (pn : Int), .int .i64 (pc : Int), .int .u64 (pt : Int), .bool true] := (hg.block b8 r85.lt (fun e => hv8 e.symm)).trans r85
          have n8R := bx_ne r85 HV5.sp.row (by decide)
          have n4R := bx_ne HV5.r4 HV5.sp.row (by decide)
          have HSa := Lib.hid (show V4.drew.cell? ⟨b8, 0, none⟩ = some (.int .i64 (pa : Int)) ∧ V4.drew.cell? ⟨b8, 1, none⟩ = some (.int .i64 (pn : Int)) ∧ V4.drew.cell? ⟨b8, 2, none⟩ = some (.int .i64 (pc : Int)) ∧ V4.drew.cell? ⟨b8, 3, none⟩ = some (.int .u64 (pt : Int)) ∧ V4.drew.cell? ⟨b8, 4, none⟩ = some (.bool true) ∧ V4.drew.cell? ⟨b4, 0, none⟩ = some (.pointer (some ⟨R, 0, none⟩)) from by
            have a1 : Bx V4.drew b8 90 #[.int .i64 (pa : Int), .int .i64 (pn : Int), .int .i64 (pc : Int), .int .u64 (pt : Int), .bool true] := r84
            have a2 : Bx V4.drew b4 24 #[.pointer (some ⟨R, 0, none⟩)] := HV4.r4
            exact ⟨a1.cell 0, a1.cell 1, a1.cell 2, a1.cell 3, a1.cell 4, a2.cell 0⟩)
          have HSb := Lib.hid (show V5.cell? ⟨b8, 0, none⟩ = some (.int .i64 (pa : Int)) ∧ V5.cell? ⟨b8, 1, none⟩ = some (.int .i64 (pn : Int)) ∧ V5.cell? ⟨b8, 2, none⟩ = some (.int .i64 (pc : Int)) ∧ V5.cell? ⟨b8, 3, none⟩ = some (.int .u64 (pt : Int)) ∧ V5.cell? ⟨b8, 4, none⟩ = some (.bool true) ∧ V5.cell? ⟨b4, 0, none⟩ = some (.pointer (some ⟨R, 0, none⟩)) from ⟨r85.cell 0, r85.cell 1, r85.cell 2, r85.cell 3, r85.cell 4, HV5.r4.cell 0⟩)
          have HSc := Lib.hid (show V6.cell? ⟨b8, 0, none⟩ = some (.int .i64 (pa : Int)) ∧ V6.cell? ⟨b8, 1, none⟩ = some (.int .i64 (pn : Int)) ∧ V6.cell? ⟨b8, 2, none⟩ = some (.int .i64 (pc : Int)) ∧ V6.cell? ⟨b8, 3, none⟩ = some (.int .u64 (pt : Int)) ∧ V6.cell? ⟨b8, 4, none⟩ = some (.bool true) ∧ V6.cell? ⟨b4, 0, none⟩ = some (.pointer (some ⟨R, 0, none⟩)) from ⟨r86.cell 0, r86.cell 1, r86.cell 2, r86.cell 3, r86.cell 4, r46.cell 0⟩)
          have HSd := Lib.hid (show (V6.setCell ⟨R, 1, none⟩ (.slice Av nv cv)).cell? ⟨b8, 0, none⟩ = some (.int .i64 (pa : Int)) ∧ (V6.setCell ⟨R, 1, none⟩ (.slice Av nv cv)).cell? ⟨b8, 1, none⟩ = some (.int .i64 (pn : Int)) ∧ (V6.setCell ⟨R, 1, none⟩ (.slice Av nv cv)).cell? ⟨b8, 2, none⟩ = some (.int .i64 (pc : Int)) ∧ (V6.setCell ⟨R, 1, none⟩ (.slice Av nv cv)).cell? ⟨b8, 3, none⟩ = some (.int .u64 (pt : Int)) ∧ (V6.setCell ⟨R, 1, none⟩ (.slice Av nv cv)).cell? ⟨b8, 4, none⟩ = some (.bool true) ∧ (V6.setCell ⟨R, 1, none⟩ (.slice Av nv cv)).cell? ⟨b4, 0, none⟩ = some (.pointer (some ⟨R, 0, none⟩)) from ⟨(r86.other n8R _ _).cell 0, (r86.other n8R _ _).cell 1, (r86.other n8R _ _).cell 2, (r86.other n8R _ _).cell 3, (r86.other n8R _ _).cell 4, (r46.other n4R _ _).cell 0⟩)
          have cR4 : V4.drew.cell? ⟨R, 1, none⟩ = some v := HV4.sp.cells.2.1
          have cR5 : V5.cell? ⟨R, 1, none⟩ = some v := HV5.sp.cells.2.1
          have HR := Lib.hid hr
          have HE := Lib.hid (show KeepsFrom W2.heap.size W (V6.setCell ⟨R, 1, none⟩ (.slice Av nv cv)) ∧ KpC w.heap.size Bs W (V6.setCell ⟨R, 1, none⟩ (.slice Av nv cv)) ∧ ∃ v ps, Ldi w (V6.setCell ⟨R, 1, none⟩ (.slice Av nv cv)) b2 b3 b4 b6 Bs R r (endS 0 ps) v ps A' L c' ∧ loadL r 0 ((pre ++ [x]).map (fun x => chunkAt bs x.k)) = some ps from
            ⟨(hWV5.trans hKP).1, (hWV5.trans hKP).2, .slice Av nv cv, ps ++ [⟨pa, pn, pc, pt, true⟩], by
              rw [endS_snoc, show (⟨pa, pn, pc, pt, true⟩ : Pc).fin = fn from hfn]
              exact HP, hsn⟩)
          clear HV3 r83 hWV3 HV4 hK4 r84 hEnd HV5 r85 r95 hWV5 hr ho hg hlie hq HP hKP keep r46 r86 hat hsn HC rC8 hWC n8R n4R hv8 hbp hbad
          gi_wp2_with fail
          refine ⟨trivial, (CallsIn.inRound l (callsIn_wide.2 hEnd3.out)).mono ?_⟩
          rintro e w' ⟨rfl, rfl⟩
          gi_upto_region 13 with fail
          try rw [hV4]
          refine region_toRound (fun X => X.cell? ⟨b8, 0, none⟩ = some (.int .i64 (pa : Int)) ∧ X.cell? ⟨b8, 1, none⟩ = some (.int .i64 (pn : Int)) ∧ X.cell? ⟨b8, 2, none⟩ = some (.int .i64 (pc : Int)) ∧ X.cell? ⟨b8, 3, none⟩ = some (.int .u64 (pt : Int)) ∧ X.cell? ⟨b8, 4, none⟩ = some (.bool true) ∧ X.cell? ⟨b4, 0, none⟩ = some (.pointer (some ⟨R, 0, none⟩))) (by kernel_rfl) (by kernel_rfl) (by rintro ⟨_, _, h⟩; exact h) HSa.out (fun hHeld => ?_)
          refine wpAnyH_take (i := 0) (v := ?_) rfl (by kernel_rfl) (by kernel_rfl) (by kernel_rfl) (fun _ _ _ h => h) (Or.inl ⟨by kernel_rfl, ?_⟩) (by assumption) ?_
          rotate_left
          · rintro w ⟨z0, z1, z2, z3, z4, z6⟩; go_simp; (try with_reducible rfl)
          try simp only [Act.put, List.setIfInBounds_toArray, List.set_cons_zero, List.set_cons_succ]
          refine wpAnyH_take (i := 1) (v := ?_) rfl (by kernel_rfl) (by kernel_rfl) (by kernel_rfl) (fun _ _ _ h => h) (Or.inl ⟨by kernel_rfl, ?_⟩) (by assumption) ?_
          rotate_left
          · rintro w ⟨z0, z1, z2, z3, z4, z6⟩; go_simp; (try with_reducible rfl)
          try simp only [Act.put, List.setIfInBounds_toArray, List.set_cons_zero, List.set_cons_succ]
          refine wpAnyH_take (i := 2) (v := ?_) rfl (by kernel_rfl) (by kernel_rfl) (by kernel_rfl) (fun _ _ _ h => h) (Or.inl ⟨by kernel_rfl, ?_⟩) (by assumption) ?_
          rotate_left
          · rintro w ⟨z0, z1, z2, z3, z4, z6⟩; go_simp; (try with_reducible rfl)
          try simp only [Act.put, List.setIfInBounds_toArray, List.set_cons_zero, List.set_cons_succ]
          refine wpAnyH_take (i := 3) (v := ?_) rfl (by kernel_rfl) (by kernel_rfl) (by kernel_rfl) (fun _ _ _ h => h) (Or.inl ⟨by kernel_rfl, ?_⟩) (by assumption) ?_
          rotate_left
          · rintro w ⟨z0, z1, z2, z3, z4, z6⟩; go_simp; (try with_reducible rfl)
          try simp only [Act.put, List.setIfInBounds_toArray, List.set_cons_zero, List.set_cons_succ]
          refine wpAnyH_take (i := 5) (v := ?_) rfl (by kernel_rfl) (by kernel_rfl) (by kernel_rfl) (fun _ _ _ h => h) (Or.inl ⟨by kernel_rfl, ?_⟩) (by assumption) ?_
          rotate_left
          · rintro w ⟨z0, z1, z2, z3, z4, z6⟩; go_simp; (try with_reducible rfl)
          try simp only [Act.put, List.setIfInBounds_toArray, List.set_cons_zero, List.set_cons_succ]
          refine wpAnyH_ready (rs := [4, 6]) (by kernel_rfl) (by simp) ?_
          refine AllReadyH.cons rfl (fun K hK => ?_) (AllReadyH.cons rfl (fun K hK => ?_) AllReadyH.nil)
          · go_simp
            refine hK.out _ _ (by exact HSa.out) (fun hHeld => ?_)
            clear hK K
            try simp only [Act.put, List.setIfInBounds_toArray, List.set_cons_zero, List.set_cons_succ]
            refine wpAnyH_ready (rs := [6]) (by kernel_rfl) (by simp) ?_
            refine AllReadyH.cons rfl (fun K hK => ?_) AllReadyH.nil
            go_simp
            refine hK.out _ _ (by exact HSb.out) (fun hHeld => ?_)
            clear hK K
            try simp only [Act.put, List.setIfInBounds_toArray, List.set_cons_zero, List.set_cons_succ]
            refine wpAnyH_ready (rs := [7]) (by kernel_rfl) (by simp) ?_
            refine AllReadyH.cons rfl (fun K hK => ?_) AllReadyH.nil
            refine step_append_runO rfl (.tmp 85) (.tmp 87) 86 86 rfl (by rfl) (by rfl) (by exact HR.out) ?_
            refine hK.out _ _ HSc.out (fun hHeld => ?_)
            clear hK K
            try simp only [Act.put, List.setIfInBounds_toArray, List.set_cons_zero, List.set_cons_succ]
            refine wpAnyH_take (i := 8) (v := ?_) rfl (by kernel_rfl) (by kernel_rfl) (by kernel_rfl) (fun _ _ _ h => h) (Or.inl ⟨by kernel_rfl, ?_⟩) (by assumption) ?_
            rotate_left
            · rintro w ⟨z0, z1, z2, z3, z4, z6⟩; go_simp; (try with_reducible rfl)
            try simp only [Act.put, List.setIfInBounds_toArray, List.set_cons_zero, List.set_cons_succ]
            refine wpAnyH_take (i := 9) (v := ?_) rfl (by kernel_rfl) (by kernel_rfl) (by kernel_rfl) (fun _ _ _ h => h) (Or.inl ⟨by kernel_rfl, ?_⟩) (by assumption) ?_
            rotate_left
            · rintro w ⟨z0, z1, z2, z3, z4, z6⟩; go_simp; (try with_reducible rfl)
            try simp only [Act.put, List.setIfInBounds_toArray, List.set_cons_zero, List.set_cons_succ]
            refine wpAnyH_ready (rs := [10]) (by kernel_rfl) (by simp) ?_
            refine AllReadyH.cons rfl (fun K hK => ?_) AllReadyH.nil
            go_simp
            refine hK.out _ _ HSd.out (fun hHeld => ?_)
            clear hK K
            try simp only [Act.put, List.setIfInBounds_toArray, List.set_cons_zero, List.set_cons_succ]
            refine wpAnyH_done (by kernel_rfl) ?_ _
            gi_wp2_with fail
            exact HE.out
          · go_simp
            refine hK.out _ _ (by exact HSb.out) (fun hHeld => ?_)
            clear hK K
            try simp only [Act.put, List.setIfInBounds_toArray, List.set_cons_zero, List.set_cons_succ]
            refine wpAnyH_ready (rs := [4]) (by kernel_rfl) (by simp) ?_
            refine AllReadyH.cons rfl (fun K hK => ?_) AllReadyH.nil
            go_simp
            refine hK.out _ _ (by exact HSb.out) (fun hHeld => ?_)
            clear hK K
            try simp only [Act.put, List.setIfInBounds_toArray, List.set_cons_zero, List.set_cons_succ]
            refine wpAnyH_ready (rs := [7]) (by kernel_rfl) (by simp) ?_
            refine AllReadyH.cons rfl (fun K hK => ?_) AllReadyH.nil
            refine step_append_runO rfl (.tmp 85) (.tmp 87) 86 86 rfl (by rfl) (by rfl) (by exact HR.out) ?_
            refine hK.out _ _ HSc.out (fun hHeld => ?_)
            clear hK K
            try simp only [Act.put, List.setIfInBounds_toArray, List.set_cons_zero, List.set_cons_succ]
            refine wpAnyH_take (i := 8) (v := ?_) rfl (by kernel_rfl) (by kernel_rfl) (by kernel_rfl) (fun _ _ _ h => h) (Or.inl ⟨by kernel_rfl, ?_⟩) (by assumption) ?_
            rotate_left
            · rintro w ⟨z0, z1, z2, z3, z4, z6⟩; go_simp; (try with_reducible rfl)
            try simp only [Act.put, List.setIfInBounds_toArray, List.set_cons_zero, List.set_cons_succ]
            refine wpAnyH_take (i := 9) (v := ?_) rfl (by kernel_rfl) (by kernel_rfl) (by kernel_rfl) (fun _ _ _ h => h) (Or.inl ⟨by kernel_rfl, ?_⟩) (by assumption) ?_
            rotate_left
            · rintro w ⟨z0, z1, z2, z3, z4, z6⟩; go_simp; (try with_reducible rfl)
            try simp only [Act.put, List.setIfInBounds_toArray, List.set_cons_zero, List.set_cons_succ]
            refine wpAnyH_ready (rs := [10]) (by kernel_rfl) (by simp) ?_
            refine AllReadyH.cons rfl (fun K hK => ?_) AllReadyH.nil
            go_simp
            refine hK.out _ _ HSd.out (fun hHeld => ?_)
            clear hK K
            try simp only [Act.put, List.setIfInBounds_toArray, List.set_cons_zero, List.set_cons_succ]
            refine wpAnyH_done (by kernel_rfl) ?_ _
            gi_wp2_with fail
            exact HE.out
  case done =>
    rintro D ys W hD hys ⟨v, ps, HJ, hld⟩ hK
    have hlf : loadF r 0 (L / 18) bs = some ps := by
      have e : ys.map (fun x => chunkAt bs x.k) = (List.range (L / 18)).map (chunkAt bs) := by
        have h := hys
        unfold AllC at h
        have := HL18.out
        rw [show (L + 17) / 18 = L / 18 by omega] at h
        rw [← h, List.map_map]
        rfl
      rw [e, loadL_range] at hld
      exact hld
    have c4 : W.cell? ⟨b4, 0, none⟩ = some (.pointer (some ⟨R, 0, none⟩)) := HJ.r4.cell 0
    have c2 : W.cell? ⟨b2, 0, none⟩ = some (.pointer none) := HJ.r2.cell 0
    have c3 : W.cell? ⟨b3, 0, none⟩ = some .nilIface := HJ.r3.cell 0
    have f2 : W.frozen? ⟨b2, 0, none⟩ = false := HJ.r2.frozen 0
    have f3 : W.frozen? ⟨b3, 0, none⟩ = false := HJ.r3.frozen 0
    have hne := bx_ne HJ.r2 HJ.r3 (by decide)
    have hDb2 : D ≠ b2 := fun e => by
      have h := HJ.r2
      rw [← e] at h
      rw [show W.heap[D]? = _ from h] at hK
      cases hK
    have hDb3 : D ≠ b3 := fun e => by
      have h := HJ.r3
      rw [← e] at h
      rw [show W.heap[D]? = _ from h] at hK
      cases hK
    have y2 := (HJ.r2.set 0 (.pointer (some ⟨R, 0, none⟩))).other hne 0 .nilIface
    have y3 := (HJ.r3.other (Ne.symm hne) 0 (.pointer (some ⟨R, 0, none⟩))).set 0 .nilIface
    have hK3 : ((W.setCell ⟨b2, 0, none⟩ (.pointer (some ⟨R, 0, none⟩))).setCell ⟨b3, 0, none⟩ .nilIface).heap[D]? = some (.deferred (some [])) := (heap_setCell_other _ _ D _ hDb3).trans ((heap_setCell_other _ _ D _ hDb2).trans hK)
    have hS3 : Sp ((W.setCell ⟨b2, 0, none⟩ (.pointer (some ⟨R, 0, none⟩))).setCell ⟨b3, 0, none⟩ .nilIface) w.heap.size R v r ps := by
      have hs1 := HJ.sp.kept (Chg.setCell W b2 0 (.pointer (some ⟨R, 0, none⟩))) (bx_ne HJ.sp.row HJ.r2 (by decide)) (fun k hk => by
        obtain ⟨_, _, C, hC⟩ := HJ.sp.own.row k hk
        exact bx_ne hC HJ.r2 (by decide))
      exact hs1.kept (Chg.setCell _ b3 0 .nilIface) (bx_ne HJ.sp.row HJ.r3 (by decide)) (fun k hk => by
        obtain ⟨_, _, C, hC⟩ := HJ.sp.own.row k hk
        exact bx_ne hC HJ.r3 (by decide))
    have hB3 : Below w.heap.size w ((W.setCell ⟨b2, 0, none⟩ (.pointer (some ⟨R, 0, none⟩))).setCell ⟨b3, 0, none⟩ .nilIface) := setB (setB HJ.below HJ.h2 0 _) HJ.h3 0 _
    have hg := grownBy_putObj' ((W.setCell ⟨b2, 0, none⟩ (.pointer (some ⟨R, 0, none⟩))).setCell ⟨b3, 0, none⟩ .nilIface) D (.deferred none)
    have hr2 : ∀ q, some D = some q → ∃ o : Obj, ((W.setCell ⟨b2, 0, none⟩ (.pointer (some ⟨R, 0, none⟩))).setCell ⟨b3, 0, none⟩ .nilIface).heap[q]? = some o ∧ o.isCells = false := fun q e => by cases e; exact ⟨_, hK3, rfl⟩
    have z2 := (y2.grown hg hr2).cell 0
    have z3 := (y3.grown hg hr2).cell 0
    have z4 : Sp (((W.setCell ⟨b2, 0, none⟩ (.pointer (some ⟨R, 0, none⟩))).setCell ⟨b3, 0, none⟩ .nilIface).putObj D (.deferred none)) w.heap.size R v r ps := hS3.kept (Chg.ofGrown hg) (fun e => by
        have h := hS3.row
        cases e
        rw [hK3] at h
        cases h) (fun k hk e => by
        obtain ⟨_, _, C, hC⟩ := hS3.own.row k hk
        cases e
        rw [hK3] at hC
        cases hC)
    have z5 : Below w.heap.size w (((W.setCell ⟨b2, 0, none⟩ (.pointer (some ⟨R, 0, none⟩))).setCell ⟨b3, 0, none⟩ .nilIface).putObj D (.deferred none)) := hB3.grown hg hB3.size (fun k e => by cases e; omega)
    have HE := Lib.hid (And.intro hK3 (And.intro z4 (And.intro z5 hlf)))
    have Hz := Lib.hid (And.intro z2 z3)
    clear z2 z3 z4 z5 hK3 hS3 hB3 hg hr2 y2 y3 hK HJ hld hlf hys
    gi_wp2_with fail
    refine ⟨by simp, .inl ⟨_, _, rfl, run_takeDeferred HE.out.1, ?_⟩⟩
    have e2 := Hz.out.1
    have e3 := Hz.out.2
    simp only [List.setIfInBounds_toArray, List.set_cons_zero, List.getElem?_toArray, List.getElem?_cons_zero] at e2 e3
    refine ⟨.tuple #[.pointer (some ⟨R, 0, none⟩), .nilIface], by simp [results, Tryd.results26, go_sem, e2, e3], ?_⟩
    unfold LdPost
    rw [HE.out.2.2.2]
    exact ⟨R, v, rfl, HE.out.2.1, HE.out.2.2.1⟩
  case stop =>
    rintro D c pre W hD hpre ⟨rfl, h2, h3, h4, h5⟩ hK
    have hlf : loadF r 0 (L / 18) bs = none := by
      obtain ⟨j, hj, hpj⟩ := hpre
      have := HL18.out
      refine loadL_none (j := j) (by omega) ?_
      rw [← hpj, List.map_map]
      exact h2
    have hg := grownBy_putObj' W D (.deferred none)
    have hr2 : ∀ q, some D = some q → ∃ o : Obj, W.heap[q]? = some o ∧ o.isCells = false := fun q e => by cases e; exact ⟨_, hK, rfl⟩
    have z2 := (h3.grown hg hr2).cell 0
    have z3 := (h4.grown hg hr2).cell 0
    have z5 : Below w.heap.size w (W.putObj D (.deferred none)) := h5.grown hg h5.size (fun k e => by cases e; omega)
    have HE := Lib.hid (And.intro hK (And.intro z5 hlf))
    have Hz := Lib.hid (And.intro z2 z3)
    clear z2 z3 z5 hg hr2 hK h3 h4 h5 hlf hpre
    gi_wp2_with fail
    refine ⟨by simp, .inl ⟨_, _, rfl, run_takeDeferred HE.out.1, ?_⟩⟩
    have e2 := Hz.out.1
    have e3 := Hz.out.2
    simp only [List.getElem?_toArray, List.getElem?_cons_zero] at e2 e3
    refine ⟨.tuple #[.pointer none, errE 7], by simp [results, Tryd.results26, go_sem, e2, e3], ?_⟩
    unfold LdPost
    rw [HE.out.2.2]
    exact ⟨rfl, HE.out.2.1⟩
end Go.Proofs.YtgkamdgegfioiaaDoor
