/- The walk of plain.listed at runs, and of plain.Space.Runs. -/
import Derived.Test.YtgkamdgegfioiaaDoorSlr
namespace Go.Proofs.YtgkamdgegfioiaaDoor
open Go.RowKit Go.Shelf
set_option linter.unusedSimpArgs false
set_option linter.unusedVariables false
attribute [local go_sem] Oper.semAt_some
theorem wpListIn_append_run {F : Fence} {n : Nat} {P : Program} {ops : Array Oper} {rest : List Oper} {o : Oper} {a : Act} {Q : Exit → Act → World → Prop} (hgd : o.guard = none) (s x : Operand) (t t' : TypeId)
    (ho : o.op = .call { callee := .builtin .append, args := #[s, x], argTypes := #[t, t'] }) {vs vx v : Value} {w w' : World} (hs : a.eval s = vs) (hx : a.eval x = vx)
    (hr : (Builtin.append_ #[t, t'] o.type #[vs, vx]).run P w = .ok v w') (h : wpListIn F n P ops Q rest (a.put o.dst v) w') : wpListIn F n P ops Q (o :: rest) a w :=
  wpListIn_plain hgd fun _ hK => by
    refine ⟨?_, ?_⟩
    · simp [Oper.about, ho, resolve, Target.leads, Sem.run_pure]
    · rw [Oper.semAt_plain F _ _ (by rw [ho]; intro c hc'; cases hc')]
      unfold execOp
      simp only [ho, resolve, invoke, builtin, Sem.run_bind, Sem.run_pure, Result.andThen_ok, List.map_toArray, List.map_cons, List.map_nil, hs, hx, hr]
      exact hK _ _ h
theorem runs_calls (w : World) (R : Nat) : Calls Tryd.prog 29 #[.pointer (some ⟨R, 0, none⟩)] w fun e w' => e = .returned (.func (.func 54) #[] #[.pointer (some ⟨w.heap.size, 0, none⟩)]) ∧ w' = w.alloc (.cells #[.pointer (some ⟨R, 0, none⟩)] 24) := by
  go_enter Tryd.func29, Tryd.ntmps29
  go_wp2_with fail
  go_ret
  exact ⟨rfl, rfl⟩
theorem runs_stops (F : Fence) (m : Nat) (h8 : F.fn 54) (hro : F.round = none) (hn : 1 ≤ m) (w : World) (n₀ bx B R r : Nat) (v : Value) (ps : List Pc) (hS : Sp w B R v r ps) (hn0 : n₀ ≤ w.heap.size) (hRn : R < n₀) (hvn : ∀ k, rowOf v = some k → k < n₀) (hbx : w.cell? ⟨bx, 0, none⟩ = some (.pointer (some ⟨R, 0, none⟩))) :
    SeqStopsK F m Tryd.prog 54 #[.pointer (some ⟨bx, 0, none⟩)] LP.args (Below n₀) (AllR ps) (SomeR ps) ps.length w := fun l J Jx W hW hJ hJx hY h0 =>
  runs1_in F m h8 hro hn l n₀ bx B R r v ps J Jx (fun ys W o h => hJ ys W (W.alloc o) none h (World.grownBy_alloc W o none) (fun r e => by cases e)) (fun ys W o h => hJx ys W (W.alloc o) none h (World.grownBy_alloc W o none) (fun r e => by cases e)) hY W
    (hS.below hW) (Nat.le_trans hn0 hW.size) hRn hvn ((hW.cell (p := ⟨bx, 0, none⟩) (World.block_lt_of_cell? w _ hbx)).trans hbx) h0
theorem run_equalIn_func_nil (W : World) (d b : Nat) : (Op.equalIn (d + 1) 72 (.func (.func 54) #[] #[.pointer (some ⟨b, 0, none⟩)]) .nilFunc).run Tryd.prog W = .ok false W := by
  simp [Op.equalIn, run_underlying Tryd.underlying72]
theorem run_func_nil (W : World) (b : Nat) : (binOp BinOp.eql 72 (.func (.func 54) #[] #[.pointer (some ⟨b, 0, none⟩)]) .nilFunc).run Tryd.prog W = .ok (.bool false) W := by
  simp only [binOp]
  simp [Op.equal, Op.maxDepth, run_equalIn_func_nil W 9999 b]
theorem inBlock_or {id : Nat} {Q : Exit → Act → World → Prop} {e : Exit} {a : Act} {w : World} (he : e = .normal ∨ e = .exit id) (h : Exit.inBlock id Q .normal a w) : Exit.inBlock id Q e a w := by
  rcases he with rfl | rfl
  · exact h
  · simpa [Exit.inBlock] using h
def LsPost (w : World) (ps : List Pc) (most : Nat) (e : Ending) (w' : World) : Prop := ∃ v6 v7, e = .returned (.tuple #[v6, v7]) ∧ OwnR w' w.heap.size v6 ((live ps).take most) ∧ OwnR w' w.heap.size v7 (live ps) ∧ Below w.heap.size w w'
set_option maxRecDepth 100000 in
set_option maxHeartbeats 4000000 in
theorem listed_calls (w : World) (bx B R r most : Nat) (v : Value) (ps : List Pc) (hS : Sp w B R v r ps) (hbx : w.cell? ⟨bx, 0, none⟩ = some (.pointer (some ⟨R, 0, none⟩))) (hm : most ≤ 1073741824) :
    Calls Tryd.prog 28 #[.func (.func 54) #[] #[.pointer (some ⟨bx, 0, none⟩)], .int .i64 (most : Int)] w fun e w' => LsPost w ps most e w' := by
  have HS := Lib.hid hS
  have Hbx := Lib.hid hbx
  have hbl := World.block_lt_of_cell? w _ hbx
  have hRl := (Array.getElem?_eq_some_iff.1 hS.row).1
  have hvl : ∀ k, rowOf v = some k → k < w.heap.size := fun k hk => (hS.own.row k hk).2.1
  have Hvl := Lib.hid hvl
  clear hS hbx hvl
  refine (callsIn_wide (n := 6)).1 ?_
  refine callsIn_of_wp_marks Tryd.func28 rfl trivial ?_ rfl
  simp only [Tryd.ntmps28, List.size_toArray, List.length_cons, List.length_nil, Nat.reduceAdd, Nat.reduceSub, Array.replicate_succ, Array.replicate_zero, List.push_toArray, List.append_toArray, List.nil_append, List.cons_append]
  have hnil := fun W => run_func_nil W bx
  gi_wp2
  obtain ⟨W0, hW0⟩ : ∃ W0, ((w.alloc (.cells #[.int .i64 (most : Int)] 3)).alloc (.cells #[.slice none 0 0] 43)).alloc (.cells #[.slice none 0 0] 43) = W0 := ⟨_, rfl⟩
  rw [hW0]
  have hb0 : Below w.heap.size w W0 := by rw [← hW0]; exact (((Below.refl _ _).alloc (Nat.le_refl _) _).alloc (by simp) _).alloc (by simp; omega) _
  obtain ⟨b3, hb3⟩ : ∃ b3, w.heap.size = b3 := ⟨_, rfl⟩
  obtain ⟨b6, hb6⟩ : ∃ b6, w.heap.size + 1 = b6 := ⟨_, rfl⟩
  obtain ⟨b7, hb7⟩ : ∃ b7, w.heap.size + 1 + 1 = b7 := ⟨_, rfl⟩
  have hsz0 : W0.heap.size = w.heap.size + 3 := by rw [← hW0, World.size_alloc, World.size_alloc, World.size_alloc]
  have x3 : Bx W0 b3 3 #[.int .i64 (most : Int)] := by
    rw [← hW0, ← hb3]
    exact ((Bx.new _ _ _).alloc _).alloc _
  have x6 : Bx W0 b6 43 #[.slice none 0 0] := by
    have := (Bx.new (w.alloc (.cells #[.int .i64 (most : Int)] 3)) 43 #[.slice none 0 0]).alloc (.cells #[.slice none 0 0] 43)
    rw [World.size_alloc, hW0, hb6] at this
    exact this
  have x7 : Bx W0 b7 43 #[.slice none 0 0] := by
    have := Bx.new ((w.alloc (.cells #[.int .i64 (most : Int)] 3)).alloc (.cells #[.slice none 0 0] 43)) 43 #[.slice none 0 0]
    rw [World.size_alloc, World.size_alloc, hW0, hb7] at this
    exact this
  have hL0 := Lib.hid (show Ls w W0 b3 b6 b7 most (.slice none 0 0) (.slice none 0 0) [] [] from ⟨hb0, by omega, by omega, by omega, by omega, x3, x6, x7, OwnR.nil _ _, OwnR.nil _ _, fun k e => by cases e⟩)
  have hbx0 : W0.cell? ⟨bx, 0, none⟩ = some (.pointer (some ⟨R, 0, none⟩)) := (hb0.cell (p := ⟨bx, 0, none⟩) hbl).trans Hbx.out
  have hS0 := Lib.hid (HS.out.below hb0)
  have hB0 : w.heap.size ≤ W0.heap.size := by omega
  rw [hb7, hb6]
  have HW := Lib.hid (And.intro hb3 (And.intro hb6 hb7))
  rw [hb3]
  clear hW0 x3 x6 x7 hb3 hb6 hb7 hsz0
  refine wpIn_mono (Q := fun e a W => (e = .normal ∨ e = .exit 0) ∧ ∃ D v6, a = { tmps := #[(.func (.func 54) #[] #[.pointer (some ⟨bx, 0, none⟩)]), .int .i64 (most : Int), undef, .pointer (some ⟨b3, 0, none⟩), .slice none 0 0, .slice none 0 0, .pointer (some ⟨b6, 0, none⟩), .pointer (some ⟨b7, 0, none⟩), undef, undef, (.func (.func 54) #[] #[.pointer (some ⟨bx, 0, none⟩)]), .bool false, (.func (.func 54) #[] #[.pointer (some ⟨bx, 0, none⟩)]), undef, undef, undef, undef, undef, undef, undef, undef, undef, undef, undef, undef, undef, undef, undef, undef, undef], defers := [{ target := .collected D, args := #[] }] } ∧ w.heap.size ≤ D ∧ W.heap[D]? = some (.deferred (some [])) ∧ Ls w W b3 b6 b7 most v6 (.slice none 0 0) ((live ps).take most) []) ?loop (fun e a W hq => ?rest)
  case loop =>
    refine wpIn_rangeFunc_ownH (F := Fence.wide) (n := 6) rfl (by omega) (gf := 54) (lb := #[.pointer (some ⟨bx, 0, none⟩)]) rfl trivial (enters_of Tryd.func54 (by kernel_rfl) rfl)
      (runs_stops Fence.wide 5 trivial rfl (by omega) W0 w.heap.size bx B R r v ps hS0.out hB0 hRl Hvl.out hbx0)
      (fun h k => h.trans k) ?hKb (Below.refl _ _) (fun _ => rfl)
      (fun pre W => pre.length ≤ most ∧ ∃ v6, Ls w W b3 b6 b7 most v6 (.slice none 0 0) (pre.map (·.p)) [])
      (fun c pre W => c = .exit 0 ∧ most ≤ pre.length ∧ ∃ v6, Ls w W b3 b6 b7 most v6 (.slice none 0 0) ((pre.map (·.p)).take most) [])
      ?hI ?hIx ⟨Nat.zero_le _, _, hL0.out⟩
      (fun x a' W => ∃ b8, a' = { tmps := #[(.func (.func 54) #[] #[.pointer (some ⟨bx, 0, none⟩)]), .int .i64 (most : Int), undef, .pointer (some ⟨b3, 0, none⟩), .slice none 0 0, .slice none 0 0, .pointer (some ⟨b6, 0, none⟩), .pointer (some ⟨b7, 0, none⟩), .pointer (some ⟨b8, 0, none⟩), undef, (.func (.func 54) #[] #[.pointer (some ⟨bx, 0, none⟩)]), .bool false, (.func (.func 54) #[] #[.pointer (some ⟨bx, 0, none⟩)]), (.agg #[.int .i64 (x.p.at_ : Int), .int .i64 (x.p.n : Int), .int .i64 (x.p.cnt : Int), .int .u64 (x.p.tag : Int)]), undef, undef, undef, undef, undef, undef, undef, undef, undef, undef, undef, undef, undef, undef, undef, undef], defers := [] } ∧ Bx W b8 47 (rnA x.p)) ?hAx ?assign ?body ?done ?stop
    case hKb =>
      intro W l o o' hl hW ho hw
      exact belowK_b (w := w) (Nat.le_refl _) W l o o' (by omega) hW ho hw
    case hI =>
      rintro s W W' row ⟨h1, v6, h2⟩ hg hr
      exact ⟨h1, v6, h2.own hB0 hg hr⟩
    case hIx =>
      rintro c s W W' row ⟨h1, h3, v6, h2⟩ hg hr
      exact ⟨h1, h3, v6, h2.own hB0 hg hr⟩
    case hAx =>
      rintro x a' s W W' row ⟨b8, h1, h2⟩ hg hr
      refine ⟨b8, h1, (hg.block b8 h2.lt (fun e => ?_)).trans h2⟩
      obtain ⟨_, o, ho, hoc⟩ := hr b8 e.symm
      rw [show W.heap[b8]? = _ from h2] at ho
      cases ho
      cases hoc
    case assign =>
      rintro l pre x W K ⟨h1, v6, h2⟩ hK
      unfold LP.args
      gi_wp2
      refine hK _ _ ((KeepsOthers.alloc W _).from _) ((Below.refl _ _).alloc h2.below.size _) ⟨h1, v6, h2.alloc _⟩ ⟨W.heap.size, rfl, Bx.new _ _ _⟩
    case body =>
      rintro l pre x a' W hl _ ⟨h1, v6, h2⟩ ⟨b8, rfl, h8⟩ hlen
      have e0 : W.cell? ⟨b8, 0, none⟩ = some (.int .i64 (x.p.at_ : Int)) := h8.cell 0
      have e1 : W.cell? ⟨b8, 1, none⟩ = some (.int .i64 (x.p.n : Int)) := h8.cell 1
      have e2 : W.cell? ⟨b8, 2, none⟩ = some (.int .i64 (x.p.cnt : Int)) := h8.cell 2
      have e3 : W.cell? ⟨b8, 3, none⟩ = some (.int .u64 (x.p.tag : Int)) := h8.cell 3
      have d3 : W.cell? ⟨b3, 0, none⟩ = some (.int .i64 (most : Int)) := h2.r3.cell 0
      obtain ⟨A, c, hv6, hcl, hcm, _⟩ := h2.o6.rd
      rw [List.length_map] at hv6 hcl
      obtain ⟨N6, hN6⟩ : ∃ N6, pre.length = N6 := ⟨_, rfl⟩
      have HN6 := Lib.hid hN6
      rw [hN6] at hv6 hcl h1
      subst hv6
      have d6 : W.cell? ⟨b6, 0, none⟩ = some (.slice A N6 c) := h2.r6.cell 0
      have H2 := Lib.hid h2
      by_cases hge : most ≤ N6
      · have hgi : (most : Int) ≤ (N6 : Int) := by omega
        have HE := Lib.hid (show KeepsFrom W0.heap.size W W ∧ Code.exit 0 = Code.exit 0 ∧ most ≤ (pre ++ [x]).length ∧ ∃ v6, Ls w W b3 b6 b7 most v6 (.slice none 0 0) (((pre ++ [x]).map (·.p)).take most) [] from by
          refine ⟨KeepsFrom.refl _ _, rfl, by rw [List.length_append, hN6]; omega, .slice A N6 c, ?_⟩
          rw [List.map_append, List.take_append_of_le_length (by rw [List.length_map, hN6]; exact hge), List.take_of_length_le (by rw [List.length_map, hN6]; exact h1)]
          exact h2)
        clear h2 h8 hN6
        gi_wp2_with fail
        exact ⟨HE.out.1, rfl, HE.out.2.2⟩
      · have hgi : ¬ (most : Int) ≤ (N6 : Int) := by omega
        obtain ⟨A', n', c', W2, hr, q1, q2, q3, q4, q5⟩ := h2.push x.p (by rw [List.length_map, hN6]; omega) W0.heap.size
        have HE := Lib.hid (show KeepsFrom W0.heap.size W (W2.setCell ⟨b6, 0, none⟩ (.slice A' n' c')) ∧ Below w.heap.size W (W2.setCell ⟨b6, 0, none⟩ (.slice A' n' c')) ∧ (pre ++ [x]).length ≤ most ∧ ∃ v6, Ls w (W2.setCell ⟨b6, 0, none⟩ (.slice A' n' c')) b3 b6 b7 most v6 (.slice none 0 0) ((pre ++ [x]).map (·.p)) [] from
          ⟨q4, q5, by rw [List.length_append, hN6]; simp; omega, _, by rw [List.map_append]; exact q3⟩)
        have Hr := Lib.hid hr
        clear h2 h8 hN6 hr q3 q4 q5
        gi_wp2_with (gi_at_builtin; go_must (refine wpListIn_append_run rfl (.tmp 18) (.tmp 20) 43 43 rfl rfl rfl Hr.out ?_))
        exact HE.out
    case done =>
      rintro D ys W hD hys ⟨h1, v6, h2⟩ hK
      refine ⟨.inl rfl, D, v6, rfl, by omega, hK, ?_⟩
      rw [List.take_of_length_le (by rw [← hys, List.length_map]; exact h1), ← hys]
      exact h2
    case stop =>
      rintro D c pre W hD hpre ⟨rfl, hm2, v6, h2⟩ hK
      refine wpIn_exit ⟨.inr rfl, D, v6, rfl, by omega, hK, ?_⟩
      obtain ⟨j, hj, hpj⟩ := hpre
      have e : (live ps).take most = (pre.map (·.p)).take most := by
        have h3 : live ps = live (ps.take j) ++ live (ps.drop j) := by rw [← live_append, List.take_append_drop]
        rw [h3, hpj, List.take_append_of_le_length (by rw [← hpj, List.length_map]; exact hm2)]
      rw [e]
      exact h2
  case rest =>
    obtain ⟨he, D, v6, rfl, hD, hK, hL⟩ := hq
    refine inBlock_or he ?_
    clear he
    have HK := Lib.hid hK
    have HL := Lib.hid hL
    clear hK hL
    gi_wp2_with fail
    have hBW : w.heap.size ≤ W.heap.size := HL.out.below.size
    have hSW := Lib.hid (HS.out.below HL.out.below)
    have hbxW : W.cell? ⟨bx, 0, none⟩ = some (.pointer (some ⟨R, 0, none⟩)) := (HL.out.below.cell (p := ⟨bx, 0, none⟩) hbl).trans Hbx.out
    obtain ⟨L6, hL6⟩ : ∃ L6, (live ps).take most = L6 := ⟨_, rfl⟩
    have HL6 := Lib.hid hL6
    have HL := Lib.hid HL.out
    rw [hL6] at HL
    clear hL6
    refine wpIn_mono (Q := fun e a W' => e = .normal ∧ ∃ D2 v7, a = { tmps := #[(.func (.func 54) #[] #[.pointer (some ⟨bx, 0, none⟩)]), .int .i64 (most : Int), undef, .pointer (some ⟨b3, 0, none⟩), .slice none 0 0, .slice none 0 0, .pointer (some ⟨b6, 0, none⟩), .pointer (some ⟨b7, 0, none⟩), undef, undef, (.func (.func 54) #[] #[.pointer (some ⟨bx, 0, none⟩)]), .bool false, (.func (.func 54) #[] #[.pointer (some ⟨bx, 0, none⟩)]), undef, undef, undef, undef, undef, undef, undef, undef, undef, (.func (.func 54) #[] #[.pointer (some ⟨bx, 0, none⟩)]), undef, undef, undef, undef, undef, undef, undef], defers := [{ target := .collected D2, args := #[] }, { target := .collected D, args := #[] }] } ∧ W.heap.size ≤ D2 ∧ W'.heap[D2]? = some (.deferred (some [])) ∧ W'.heap[D]? = some (.deferred (some [])) ∧ Ls w W' b3 b6 b7 most v6 v7 L6 (live ps)) ?loop (fun e a W' hq => ?rest)
    case loop =>
      refine wpIn_rangeFunc_ownH (F := Fence.wide) (n := 6) rfl (by omega) (gf := 54) (lb := #[.pointer (some ⟨bx, 0, none⟩)]) rfl trivial (enters_of Tryd.func54 (by kernel_rfl) rfl)
        (runs_stops Fence.wide 5 trivial rfl (by omega) W w.heap.size bx B R r v ps hSW.out hBW hRl Hvl.out hbxW)
        (fun h k => h.trans k) ?hKb (Below.refl _ _) (fun _ => rfl)
        (fun pre W' => pre.length ≤ 1073741824 ∧ W'.heap[D]? = some (.deferred (some [])) ∧ ∃ v7, Ls w W' b3 b6 b7 most v6 v7 L6 (pre.map (·.p)))
        (fun c pre W => False)
        ?hI (fun _ _ _ _ _ hs _ _ => hs) ⟨Nat.zero_le _, HK.out, _, HL.out⟩
        (fun x a' W => ∃ b9, a' = { tmps := #[(.func (.func 54) #[] #[.pointer (some ⟨bx, 0, none⟩)]), .int .i64 (most : Int), undef, .pointer (some ⟨b3, 0, none⟩), .slice none 0 0, .slice none 0 0, .pointer (some ⟨b6, 0, none⟩), .pointer (some ⟨b7, 0, none⟩), undef, .pointer (some ⟨b9, 0, none⟩), (.func (.func 54) #[] #[.pointer (some ⟨bx, 0, none⟩)]), .bool false, (.func (.func 54) #[] #[.pointer (some ⟨bx, 0, none⟩)]), undef, undef, undef, undef, undef, undef, undef, undef, undef, (.func (.func 54) #[] #[.pointer (some ⟨bx, 0, none⟩)]), (.agg #[.int .i64 (x.p.at_ : Int), .int .i64 (x.p.n : Int), .int .i64 (x.p.cnt : Int), .int .u64 (x.p.tag : Int)]), undef, undef, undef, undef, undef, undef], defers := [] } ∧ Bx W b9 47 (rnA x.p)) ?hAx ?assign ?body ?done ?stop
      case hKb =>
        intro W' l o o' hl hW ho hw
        exact belowK_b (w := w) (Nat.le_refl _) W' l o o' (by omega) hW ho hw
      case hI =>
        rintro s W1 W' row ⟨h1, hd, v6, h2⟩ hg hr
        refine ⟨h1, (hg.block D (Array.getElem?_eq_some_iff.1 hd).1 (fun e => ?_)).trans hd, v6, h2.own hBW hg hr⟩
        have hDl := (Array.getElem?_eq_some_iff.1 HK.out).1
        obtain ⟨h3, _⟩ := hr D e.symm
        omega
      case hAx =>
        rintro x a' s W1 W' row ⟨b8, h1, h2⟩ hg hr
        refine ⟨b8, h1, (hg.block b8 h2.lt (fun e => ?_)).trans h2⟩
        obtain ⟨_, o, ho, hoc⟩ := hr b8 e.symm
        rw [show W1.heap[b8]? = _ from h2] at ho
        cases ho
        cases hoc
      case assign =>
        rintro l pre x W1 K ⟨h1, hd, v7, h2⟩ hK
        unfold LP.args
        gi_wp2
        refine hK _ _ ((KeepsOthers.alloc W1 _).from _) ((Below.refl _ _).alloc h2.below.size _) ⟨h1, (Below.heap_alloc _ _ _ (Array.getElem?_eq_some_iff.1 hd).1).trans hd, v7, h2.alloc _⟩ ⟨W1.heap.size, rfl, Bx.new _ _ _⟩
      case body =>
        rintro l pre x a' W1 hl _ ⟨h1, hd, v7, h2⟩ ⟨b9, rfl, h8⟩ hlen
        have e0 : W1.cell? ⟨b9, 0, none⟩ = some (.int .i64 (x.p.at_ : Int)) := h8.cell 0
        have e1 : W1.cell? ⟨b9, 1, none⟩ = some (.int .i64 (x.p.n : Int)) := h8.cell 1
        have e2 : W1.cell? ⟨b9, 2, none⟩ = some (.int .i64 (x.p.cnt : Int)) := h8.cell 2
        have e3 : W1.cell? ⟨b9, 3, none⟩ = some (.int .u64 (x.p.tag : Int)) := h8.cell 3
        have d7 : W1.cell? ⟨b7, 0, none⟩ = some v7 := h2.r7.cell 0
        obtain ⟨A', n', c', W2, hr, q1, q2, q3, q4, q5⟩ := h2.swap.push x.p (by rw [List.length_map]; exact h1) W.heap.size
        have hnd : D ≠ b7 := fun e => by
          have h3 := h2.r7
          rw [← e] at h3
          rw [show W1.heap[D]? = _ from h3] at hd
          cases hd
        obtain ⟨q6, _⟩ : KeepsFrom D W1 (W2.setCell ⟨b7, 0, none⟩ (.slice A' n' c')) ∧ True := by
          obtain ⟨A2, n2, c2, W3, hr3, _, _, _, q9, _⟩ := h2.swap.push x.p (by rw [List.length_map]; exact h1) D
          rw [hr] at hr3
          cases hr3
          exact ⟨q9, trivial⟩
        have hd2 : (W2.setCell ⟨b7, 0, none⟩ (.slice A' n' c')).heap[D]? = some (.deferred (some [])) := q6.same D _ (Nat.le_refl _) hd rfl
        have hpl : pre.length < 1073741824 := by have := HS.out.len; omega
        have HE := Lib.hid (show KeepsFrom W.heap.size W1 (W2.setCell ⟨b7, 0, none⟩ (.slice A' n' c')) ∧ Below w.heap.size W1 (W2.setCell ⟨b7, 0, none⟩ (.slice A' n' c')) ∧ (pre ++ [x]).length ≤ 1073741824 ∧ (W2.setCell ⟨b7, 0, none⟩ (.slice A' n' c')).heap[D]? = some (.deferred (some [])) ∧ ∃ v7, Ls w (W2.setCell ⟨b7, 0, none⟩ (.slice A' n' c')) b3 b6 b7 most v6 v7 L6 ((pre ++ [x]).map (·.p)) from
          ⟨q4, q5, by rw [List.length_append]; simp; omega, hd2, _, by rw [List.map_append]; exact q3.swap⟩)
        have Hr := Lib.hid hr
        clear h2 h8 hr q3 q4 q5 q6 hd2 hd
        gi_wp2_with (gi_at_builtin; go_must (refine wpListIn_append_run rfl (.tmp 24) (.tmp 26) 43 43 rfl rfl rfl Hr.out ?_))
        exact HE.out
      case done =>
        rintro D2 ys W1 hD2 hys ⟨h1, hd, v7, h2⟩ hK2
        refine ⟨rfl, D2, v7, rfl, hD2, hK2, hd, ?_⟩
        rw [← hys]
        exact h2
      case stop =>
        rintro D c pre W _ _ h _
        exact h.elim
    case rest =>
      obtain ⟨rfl, D2, v7, rfl, hD2, hK2, hKD, hL2⟩ := hq
      have HL2 := Lib.hid hL2
      have HK2 := Lib.hid (And.intro hK2 hKD)
      have d6 : W'.cell? ⟨b6, 0, none⟩ = some v6 := hL2.r6.cell 0
      have d7 : W'.cell? ⟨b7, 0, none⟩ = some v7 := hL2.r7.cell 0
      have d6d : W'.drew.cell? ⟨b6, 0, none⟩ = some v6 := d6
      have d7d : W'.drew.cell? ⟨b7, 0, none⟩ = some v7 := d7
      clear hL2 hK2 hKD
      gi_wp2_with fail
      gi_region
      all_goals
        gi_wp2_with fail
      have hDW := (Array.getElem?_eq_some_iff.1 HK.out).1
      have z1 : W'.drew.heap[D2]? = some (.deferred (some [])) := HK2.out.1
      have z2 : (W'.drew.putObj D2 (.deferred none)).heap[D]? = some (.deferred (some [])) := (World.putObj_heap_other (by omega)).trans HK2.out.2
      have L1 := (HL2.out.grown (row := none) (W' := W'.drew) ⟨rfl, rfl, rfl, Nat.le_refl _, fun _ _ _ => rfl⟩ (fun r e => by cases e)).grown (row := some D2) (grownBy_putObj' _ D2 (.deferred none)) (fun r e => by cases e; exact ⟨by omega, _, z1, rfl⟩)
      have L2 := L1.grown (row := some D) (grownBy_putObj' _ D (.deferred none)) (fun r e => by cases e; exact ⟨by omega, _, z2, rfl⟩)
      refine ⟨by simp, .inl ⟨_, _, rfl, run_takeDeferred z1, ?_⟩⟩
      refine ⟨by simp, .inl ⟨_, _, rfl, run_takeDeferred z2, ?_⟩⟩
      exact ⟨_, results_tmp2 rfl _ _ _, v6, v7, rfl, by rw [HL6.out]; exact L2.o6, L2.o7, L2.below⟩
theorem OwnR.mono {w : World} {B B' : Nat} {v : Value} {ps : List Pc} (h : OwnR w B v ps) (hb : B' ≤ B) : OwnR w B' v ps := World.ownsRow.mono h hb
set_option maxHeartbeats 1000000 in
theorem pRuns_calls (w : World) (B R r most : Nat) (v : Value) (ps : List Pc) (hS : Sp w B R v r ps) (hm : most ≤ 1073741824) :
    Calls Tryd.prog 13 #[.agg #[.pointer (some ⟨R, 0, none⟩)], .int .i64 (most : Int)] w fun e w' => LsPost w ps most e w' := by
  obtain ⟨W1, hW1⟩ : ∃ W1, w.alloc (.cells #[.pointer (some ⟨R, 0, none⟩)] 26) = W1 := ⟨_, rfl⟩
  have hb1 : Below w.heap.size w W1 := by rw [← hW1]; exact (Below.refl _ _).alloc (Nat.le_refl _) _
  have hb2 : Below w.heap.size w (W1.alloc (.cells #[.pointer (some ⟨R, 0, none⟩)] 24)) := hb1.alloc hb1.size _
  have hS2 := hS.below hb2
  have hx := Bx.new W1 24 #[.pointer (some ⟨R, 0, none⟩)]
  have hq := Lib.hid (listed_calls (W1.alloc (.cells #[.pointer (some ⟨R, 0, none⟩)] 24)) W1.heap.size B R r most v ps hS2 (hx.cell 0) hm)
  have Hb2 := Lib.hid hb2
  have HW1 := Lib.hid hW1
  clear hW1 hb1 hb2 hS2 hx hS
  go_enter Tryd.func13, Tryd.ntmps13
  go_wp2_with fail
  rw [HW1.out]
  refine (runs_calls W1 R).mono ?_
  rintro e w' ⟨rfl, rfl⟩
  go_wp2_with fail
  refine (hq.out).mono ?_
  rintro e w' ⟨v6, v7, rfl, h6, h7, hb⟩
  have H67 := Lib.hid (And.intro h6 (And.intro h7 hb))
  clear h6 h7 hb hq
  go_wp2_with fail
  go_ret2
  exact ⟨v6, v7, rfl, H67.out.1.mono Hb2.out.size, H67.out.2.1.mono Hb2.out.size, Hb2.out.trans (H67.out.2.2.mono Hb2.out.size)⟩
end Go.Proofs.YtgkamdgegfioiaaDoor
