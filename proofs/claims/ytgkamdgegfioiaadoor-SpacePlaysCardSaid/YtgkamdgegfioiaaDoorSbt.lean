/- The walk of (*space.Space).Bytes and its wrapper. -/
import Derived.Test.YtgkamdgegfioiaaDoorWrd
namespace Go.Proofs.YtgkamdgegfioiaaDoor
open Go.RowKit Go.Shelf
set_option linter.unusedSimpArgs false
set_option linter.unusedVariables false
attribute [local go_sem] Oper.semAt_some
theorem OwnB.elemB {w : World} {B : Nat} {v : Value} {bs : List UInt8} (h : OwnB w B 5 v bs) : ∀ k, v.ownBlock = some k → ∃ C, w.heap[k]? = some (.cells C 5 (0, 0)) := fun k hk => by
  rcases h.2 with ⟨rfl, _⟩ | ⟨g, cap, cur, rfl, _, hg, _⟩
  · cases hk
  · cases hk
    exact ⟨_, hg⟩
theorem OwnB.keptB {w w' : World} {B : Nat} {v : Value} {bs : List UInt8} {row : Option Nat} (h : OwnB w B 5 v bs) (hg : w.grownBy w' row) (hne : v.ownBlock = none ∨ v.ownBlock ≠ row) : OwnB w' B 5 v bs := World.ownsRow.kept h hg hne
/-- bytes under way, in box b3 -/
structure Bt (w0 W : World) (b3 : Nat) (v : Value) (out : List UInt8) : Prop where
  below : Below w0.heap.size w0 W
  h3 : w0.heap.size ≤ b3
  r3 : Bx W b3 22 #[v]
  own : OwnB W w0.heap.size 5 v out
theorem Bt.grown {w0 W W' : World} {b3 : Nat} {v : Value} {out : List UInt8} {row : Option Nat} (h : Bt w0 W b3 v out) (hg : W.grownBy W' row) (hr : ∀ r, row = some r → w0.heap.size ≤ r ∧ ∃ o : Obj, W.heap[r]? = some o ∧ o.isCells = false) : Bt w0 W' b3 v out := by
  refine ⟨h.below.grown hg h.below.size (fun k e => (hr k e).1), h.h3, (hg.block b3 h.r3.lt (fun e => ?_)).trans h.r3, h.own.keptB hg ?_⟩
  · obtain ⟨_, o, ho, hoc⟩ := hr b3 e.symm
    rw [show W.heap[b3]? = _ from h.r3] at ho
    cases ho
    cases hoc
  · cases e : v.ownBlock with
    | none => simp
    | some k =>
      refine .inr (fun e2 => ?_)
      obtain ⟨C, hC⟩ := h.own.elemB k e
      obtain ⟨_, o, ho2, hoc⟩ := hr k e2.symm
      rw [hC] at ho2
      cases ho2
      cases hoc
theorem Bt.owned {w0 : World} {b3 B : Nat} {v : Value} {out : List UInt8} (hB : w0.heap.size ≤ B) {W W' : World} {row : Option Nat} (h : Bt w0 W b3 v out) (hg : W.grownBy W' row) (hr : ∀ r, row = some r → B ≤ r ∧ ∃ o : Obj, W.heap[r]? = some o ∧ o.isCells = false) : Bt w0 W' b3 v out :=
  h.grown hg (fun r e => by obtain ⟨a, b⟩ := hr r e; exact ⟨by omega, b⟩)
theorem Bt.alloc {w0 W : World} {b3 : Nat} {v : Value} {out : List UInt8} (h : Bt w0 W b3 v out) (o : Obj) : Bt w0 (W.alloc o) b3 v out := h.grown (row := none) (World.grownBy_alloc W o none) (fun r e => by cases e)
/-- more is added, and the box is written -/
theorem Bt.add {w0 W W2 : World} {b3 : Nat} {v : Value} {out more : List UInt8} {A : Option Addr} {n c : Nat} (h : Bt w0 W b3 v out) (hp : AddPost W w0.heap.size v (out ++ more) (.returned (.slice A n c)) W2) (K : Nat) :
    W2.cell? ⟨b3, 0, none⟩ = some v ∧ W2.frozen? ⟨b3, 0, none⟩ = false ∧ Bt w0 (W2.setCell ⟨b3, 0, none⟩ (.slice A n c)) b3 (.slice A n c) (out ++ more) ∧ KeepsFrom K W (W2.setCell ⟨b3, 0, none⟩ (.slice A n c)) ∧ Below w0.heap.size W (W2.setCell ⟨b3, 0, none⟩ (.slice A n c)) ∧
      ∀ {b8 : Nat} {C : Array Value}, Bx W b8 47 C → Bx (W2.setCell ⟨b3, 0, none⟩ (.slice A n c)) b8 47 C := by
  obtain ⟨A', n', c', e, ho, hc, hl⟩ := hp
  injection e with e
  injection e with e1 e2 e3
  subst e1 e2 e3
  have keep : ∀ {k : Nat} {t : TypeId} {C : Array Value}, Bx W k t C → t ≠ 5 → Bx W2 k t C := by
    intro k t C hk ht
    refine (hc.block k hk.lt (fun e => ?_)).trans hk
    obtain ⟨C', hC⟩ := h.own.elemB k e
    rw [show W.heap[k]? = _ from hk] at hC
    injection hC with hC
    injection hC with _ h2 _
    exact ht h2
  have q3 := keep h.r3 (by decide)
  have hb : Below w0.heap.size W (W2.setCell ⟨b3, 0, none⟩ (.slice A n c)) :=
    setB (Chg.below (Below.refl _ W) hc (fun k e => (World.ownsRow.lt h.own k e).1) h.below.size) h.h3 0 _
  refine ⟨q3.cell 0, q3.frozen 0, ⟨h.below.trans hb, h.h3, q3.set 0 _, ?_⟩, ?_, hb, fun {b8 C} h8 => ?_⟩
  · refine ho.keptB (row := some b3) ⟨rfl, rfl, rfl, by simp, fun k _ hne => heap_setCell_other _ _ k _ (fun e => hne (by rw [e]))⟩ (.inr (fun e => ?_))
    obtain ⟨C', hC⟩ := ho.elemB b3 e
    rw [show W2.heap[b3]? = _ from q3] at hC
    injection hC with hC
    injection hC with _ h2 _
    exact absurd h2 (by decide)
  · refine KeepsFrom.trans ⟨hc.size, fun k o _ hk hoc => (hc.block k (Array.getElem?_eq_some_iff.1 hk).1 (fun e => ?_)).trans hk⟩ ((KeepsOthers.setCell _ _ _).from K)
    obtain ⟨C', hC⟩ := h.own.elemB k e
    rw [hk] at hC
    cases hC
    cases hoc
  · refine (keep h8 (by decide)).other (fun e => ?_) 0 _
    rw [e] at h8
    have h8' : W.heap[b3]? = some (.cells C 47 (0, 0)) := h8
    rw [show W.heap[b3]? = _ from h.r3] at h8'
    injection h8' with h8'
    injection h8' with _ h2 _
    exact absurd h2 (by decide)
def BtPost (w : World) (r : Nat) (ps : List Pc) (e : Ending) (w' : World) : Prop := ∃ v, e = .returned v ∧ OwnB w' w.heap.size 5 v (bytesS r ps) ∧ Below w.heap.size w w'
set_option maxRecDepth 100000 in
set_option maxHeartbeats 4000000 in
theorem bytes_calls (w : World) (B R r : Nat) (v : Value) (ps : List Pc) (hS : Sp w B R v r ps) :
    Calls Tryd.prog 25 #[.pointer (some ⟨R, 0, none⟩)] w fun e w' => BtPost w r ps e w' := by
  have HS := Lib.hid hS
  have hr := hS.hr
  obtain ⟨cR0, cR1, _⟩ := hS.cells
  have hRl := (Array.getElem?_eq_some_iff.1 hS.row).1
  have hvl : ∀ k, rowOf v = some k → k < w.heap.size := fun k hk => (hS.own.row k hk).2.1
  have Hvl := Lib.hid hvl
  have hadd0 := Lib.hid (add_calls w w.heap.size (.slice none 0 0) [] 4 r (OwnB.nil _ _ _) (Nat.le_refl _) (by omega) (by omega) (by simp))
  clear hS hvl
  refine (callsIn_wide (n := 6)).1 ?_
  refine callsIn_of_wp_marks Tryd.func25 rfl trivial ?_ rfl
  simp only [Tryd.ntmps25, List.size_toArray, List.length_cons, List.length_nil, Nat.reduceAdd, Nat.reduceSub, Array.replicate_succ, Array.replicate_zero, List.push_toArray, List.append_toArray, List.nil_append, List.cons_append]
  gi_wp2_with fail
  refine ⟨trivial, (callsIn_wide.2 hadd0.out).mono ?_⟩
  rintro e W1 ⟨A1, n1, c1, rfl, ho1, hc1, hl1⟩
  have hb1 : Below w.heap.size w W1 := Chg.below (Below.refl _ _) hc1 (fun k e => by cases e) (Nat.le_refl _)
  have Hb1 := Lib.hid hb1
  have Ho1 := Lib.hid ho1
  clear ho1 hc1 hl1 hadd0 hb1
  gi_wp2_with fail
  refine ⟨trivial, (callsIn_wide.2 (runs_calls _ R)).mono ?_⟩
  rintro e W2 ⟨rfl, hW2⟩
  gi_wp2_with fail
  obtain ⟨b3, hb3⟩ : ∃ b3, W1.heap.size = b3 := ⟨_, rfl⟩
  obtain ⟨bx, hbx⟩ : ∃ bx, W1.heap.size + 1 = bx := ⟨_, rfl⟩
  have hBe : Below w.heap.size w W2 := by rw [hW2]; exact (Hb1.out.alloc Hb1.out.size _).alloc (by have := Hb1.out.size; simp; omega) _
  have x3 : Bx W2 b3 22 #[.slice A1 n1 c1] := by rw [hW2, ← hb3]; exact (Bx.new _ _ _).alloc _
  have xx : Bx W2 bx 24 #[.pointer (some ⟨R, 0, none⟩)] := by
    have := Bx.new (W1.alloc (.cells #[.slice A1 n1 c1] 22)) 24 #[.pointer (some ⟨R, 0, none⟩)]
    rw [World.size_alloc, hbx, ← hW2] at this
    exact this
  have hW1s := Hb1.out.size
  have hO2 : OwnB W2 w.heap.size 5 (.slice A1 n1 c1) (leB 4 r) := by
    rw [hW2]
    have := Ho1.out
    rw [List.nil_append] at this
    exact (this.alloc _).alloc _
  have hL0 := Lib.hid (show Bt w W2 b3 (.slice A1 n1 c1) (leB 4 r ++ (([] : List LP).map (·.p)).flatMap pcB) from ⟨hBe, by omega, x3, by simpa using hO2⟩)
  have hS2 := Lib.hid (HS.out.below hBe)
  have hB2 : w.heap.size ≤ W2.heap.size := hBe.size
  have hbxc := xx.cell 0
  have HW := Lib.hid (And.intro hb3 hbx)
  rw [← hW2, hbx, hb3]
  clear hW2 hb3 hbx x3 xx hO2 cR0 cR1
  refine wpIn_rangeFunc_ownH (F := Fence.wide) (n := 6) rfl (by omega) (gf := 54) (lb := #[.pointer (some ⟨bx, 0, none⟩)]) rfl trivial (enters_of Tryd.func54 (by kernel_rfl) rfl)
    (runs_stops Fence.wide 5 trivial rfl (by omega) W2 w.heap.size bx B R r v ps hS2.out hB2 hRl Hvl.out hbxc)
    (fun h k => h.trans k) ?hKb (Below.refl _ _) (fun _ => rfl)
    (fun pre W => pre.length ≤ 1073741824 ∧ ∃ v', Bt w W b3 v' (leB 4 r ++ (pre.map (·.p)).flatMap pcB))
    (fun c pre W => False)
    ?hI (fun _ _ _ _ _ hs _ _ => hs) ⟨Nat.zero_le _, _, hL0.out⟩
    (fun x a' W => ∃ b4, a' = { tmps := #[.pointer (some ⟨R, 0, none⟩), undef, .slice none 0 0, .pointer (some ⟨b3, 0, none⟩), .pointer (some ⟨b4, 0, none⟩), .pointer (some ⟨R, 0, none⟩), .pointer (some ⟨R, 0, none⟩), .pointer (some ⟨R, 0, none⟩), .int .i64 (r : Int), .int .u64 (r : Int), .slice A1 n1 c1, .pointer (some ⟨R, 0, none⟩), (.func (.func 54) #[] #[.pointer (some ⟨bx, 0, none⟩)]), (.agg #[.int .i64 (x.p.at_ : Int), .int .i64 (x.p.n : Int), .int .i64 (x.p.cnt : Int), .int .u64 (x.p.tag : Int)]), undef, undef, undef, undef, undef, undef, undef, undef, undef, undef, undef, undef, undef, undef, undef, undef, undef, undef, undef, undef], defers := [] } ∧ Bx W b4 47 (rnA x.p)) ?hAx ?assign ?body ?done ?stop
  case hKb =>
    intro W l o o' hl hW ho hw
    exact belowK_b (w := w) (Nat.le_refl _) W l o o' (by omega) hW ho hw
  case hI =>
    rintro s W W' row ⟨h1, v6, h2⟩ hg hr
    exact ⟨h1, v6, h2.owned hB2 hg hr⟩
  case hAx =>
    rintro x a' s W W' row ⟨b8, h1, h2⟩ hg hr
    refine ⟨b8, h1, (hg.block b8 h2.lt (fun e => ?_)).trans h2⟩
    obtain ⟨_, o, ho, hoc⟩ := hr b8 e.symm
    rw [show W.heap[b8]? = _ from h2] at ho
    cases ho
    cases hoc
  case assign =>
    rintro l pre x W K ⟨h1, v6, h2⟩ hK
    unfold LP.args
    gi_wp2
    refine hK _ _ ((KeepsOthers.alloc W _).from _) ((Below.refl _ _).alloc h2.below.size _) ⟨h1, v6, h2.alloc _⟩ ⟨W.heap.size, rfl, Bx.new _ _ _⟩
  case body =>
    rintro l pre x a' W hl _ ⟨h1, v6, h2⟩ ⟨b4, rfl, h4⟩ hlen
    obtain ⟨⟨xa, xn, xc, xt, xo⟩, g1, g2, g3, g4⟩ := x
    simp only at g1 g2 g3 g4
    obtain ⟨Z, hZ⟩ : ∃ Z, leB 4 r ++ (pre.map (·.p)).flatMap pcB = Z := ⟨_, rfl⟩
    have hZl : Z.length ≤ 50000000000 := by
      rw [← hZ, List.length_append, leB_len, flat_len, List.length_map]
      omega
    rw [hZ] at h2
    have hZ2 : leB 4 r ++ ((pre ++ [(⟨⟨xa, xn, xc, xt, xo⟩, g1, g2, g3, g4⟩ : LP)]).map (·.p)).flatMap pcB = Z ++ leB 4 xa ++ leB 4 xn ++ leB 2 xc ++ leB 8 xt := by
      rw [List.map_append, List.flatMap_append, ← List.append_assoc, hZ]
      simp [pcB]
    have HZ2 := Lib.hid hZ2
    have hpl : pre.length < 1073741824 := by have := HS.out.len; omega
    have Hp := Lib.hid (And.intro h1 hpl)
    clear hZ hZ2 h1 hlen
    have T0 := Lib.hid (show KeepsFrom W2.heap.size W W ∧ Below w.heap.size W W from ⟨KeepsFrom.refl _ _, Below.refl _ _⟩)
    dsimp only
    have m0 : W.cell? ⟨b4, 0, none⟩ = some (.int .i64 (xa : Int)) := h4.cell 0
    have n0 : W.cell? ⟨b3, 0, none⟩ = some v6 := h2.r3.cell 0
    have ad0 := Lib.hid (add_calls W w.heap.size v6 (Z) 4 xa h2.own h2.below.size (by omega) (by omega) (by (try simp only [List.length_append, leB_len]); omega))
    have Q0 := Lib.hid (And.intro h2 h4)
    clear h2 h4
    gi_wp2_with fail
    refine ⟨trivial, (CallsIn.inRound l (callsIn_wide.2 ad0.out)).mono ?_⟩
    rintro e V0 hadd
    obtain ⟨A10, n10, c10, rfl, _⟩ := id hadd
    obtain ⟨p0, q0, k0, t0, u0, o0⟩ := Q0.out.1.add hadd W2.heap.size
    have s0 := o0 Q0.out.2
    have T1 := Lib.hid (And.intro (T0.out.1.trans t0) (T0.out.2.trans u0))
    clear hadd t0 u0 o0 m0 n0 ad0
    have m1 : (V0.setCell ⟨b3, 0, none⟩ (.slice A10 n10 c10)).cell? ⟨b4, 1, none⟩ = some (.int .i64 (xn : Int)) := s0.cell 1
    have n1 : (V0.setCell ⟨b3, 0, none⟩ (.slice A10 n10 c10)).cell? ⟨b3, 0, none⟩ = some (.slice A10 n10 c10) := k0.r3.cell 0
    have ad1 := Lib.hid (add_calls (V0.setCell ⟨b3, 0, none⟩ (.slice A10 n10 c10)) w.heap.size (.slice A10 n10 c10) (Z ++ leB 4 xa) 4 xn k0.own k0.below.size (by omega) (by omega) (by (try simp only [List.length_append, leB_len]); omega))
    have Q1 := Lib.hid (And.intro k0 s0)
    clear k0 s0
    gi_wp2_with fail
    refine ⟨trivial, (CallsIn.inRound l (callsIn_wide.2 ad1.out)).mono ?_⟩
    rintro e V1 hadd
    obtain ⟨A11, n11, c11, rfl, _⟩ := id hadd
    obtain ⟨p1, q1, k1, t1, u1, o1⟩ := Q1.out.1.add hadd W2.heap.size
    have s1 := o1 Q1.out.2
    have T2 := Lib.hid (And.intro (T1.out.1.trans t1) (T1.out.2.trans u1))
    clear hadd t1 u1 o1 m1 n1 ad1
    have m2 : (V1.setCell ⟨b3, 0, none⟩ (.slice A11 n11 c11)).cell? ⟨b4, 2, none⟩ = some (.int .i64 (xc : Int)) := s1.cell 2
    have n2 : (V1.setCell ⟨b3, 0, none⟩ (.slice A11 n11 c11)).cell? ⟨b3, 0, none⟩ = some (.slice A11 n11 c11) := k1.r3.cell 0
    have ad2 := Lib.hid (add_calls (V1.setCell ⟨b3, 0, none⟩ (.slice A11 n11 c11)) w.heap.size (.slice A11 n11 c11) (Z ++ leB 4 xa ++ leB 4 xn) 2 xc k1.own k1.below.size (by omega) (by omega) (by (try simp only [List.length_append, leB_len]); omega))
    have Q2 := Lib.hid (And.intro k1 s1)
    clear k1 s1
    gi_wp2_with fail
    refine ⟨trivial, (CallsIn.inRound l (callsIn_wide.2 ad2.out)).mono ?_⟩
    rintro e V2 hadd
    obtain ⟨A12, n12, c12, rfl, _⟩ := id hadd
    obtain ⟨p2, q2, k2, t2, u2, o2⟩ := Q2.out.1.add hadd W2.heap.size
    have s2 := o2 Q2.out.2
    have T3 := Lib.hid (And.intro (T2.out.1.trans t2) (T2.out.2.trans u2))
    clear hadd t2 u2 o2 m2 n2 ad2
    have m3 : (V2.setCell ⟨b3, 0, none⟩ (.slice A12 n12 c12)).cell? ⟨b4, 3, none⟩ = some (.int .u64 (xt : Int)) := s2.cell 3
    have n3 : (V2.setCell ⟨b3, 0, none⟩ (.slice A12 n12 c12)).cell? ⟨b3, 0, none⟩ = some (.slice A12 n12 c12) := k2.r3.cell 0
    have ad3 := Lib.hid (add_calls (V2.setCell ⟨b3, 0, none⟩ (.slice A12 n12 c12)) w.heap.size (.slice A12 n12 c12) (Z ++ leB 4 xa ++ leB 4 xn ++ leB 2 xc) 8 xt k2.own k2.below.size (by omega) (by omega) (by (try simp only [List.length_append, leB_len]); omega))
    have Q3 := Lib.hid (And.intro k2 s2)
    clear k2 s2
    gi_wp2_with fail
    refine ⟨trivial, (CallsIn.inRound l (callsIn_wide.2 ad3.out)).mono ?_⟩
    rintro e V3 hadd
    obtain ⟨A13, n13, c13, rfl, _⟩ := id hadd
    obtain ⟨p3, q3, k3, t3, u3, o3⟩ := Q3.out.1.add hadd W2.heap.size
    have s3 := o3 Q3.out.2
    have T4 := Lib.hid (And.intro (T3.out.1.trans t3) (T3.out.2.trans u3))
    clear hadd t3 u3 o3 m3 n3 ad3
    have HF := Lib.hid k3
    clear k3 s3
    gi_wp2_with fail
    exact ⟨T4.out.1, T4.out.2, by rw [List.length_append]; have := Hp.out.2; simp; omega, _, by rw [HZ2.out]; exact HF.out⟩
  case done =>
    rintro D ys W hD hys ⟨h1, v6, h2⟩ hK
    have HE := Lib.hid (And.intro hys (And.intro h2 hK))
    have d3 : W.cell? ⟨b3, 0, none⟩ = some v6 := h2.r3.cell 0
    clear hys h2 hK
    gi_wp2_with fail
    refine ⟨by simp, .inl ⟨_, _, rfl, run_takeDeferred HE.out.2.2, ?_⟩⟩
    have h2 := HE.out.2.1.grown (row := some D) (grownBy_putObj' _ D (.deferred none)) (fun r e => by cases e; exact ⟨by omega, _, HE.out.2.2, rfl⟩)
    have hout := h2.own
    rw [show leB 4 r ++ (ys.map (·.p)).flatMap pcB = bytesS r ps from by unfold bytesS; rw [← HE.out.1]] at hout
    exact ⟨_, results_tmp rfl _ _ _, v6, rfl, hout, h2.below⟩
  case stop =>
    rintro D c pre W _ _ h _
    exact h.elim
theorem OwnB.monoB {w : World} {B B' : Nat} {v : Value} {bs : List UInt8} (h : OwnB w B 5 v bs) (hb : B' ≤ B) : OwnB w B' 5 v bs := World.ownsRow.mono h hb
set_option maxHeartbeats 1000000 in
theorem pBytes_calls (w : World) (B R r : Nat) (v : Value) (ps : List Pc) (hS : Sp w B R v r ps) :
    Calls Tryd.prog 9 #[.agg #[.pointer (some ⟨R, 0, none⟩)]] w fun e w' => BtPost w r ps e w' := by
  obtain ⟨W1, hW1⟩ : ∃ W1, w.alloc (.cells #[.pointer (some ⟨R, 0, none⟩)] 26) = W1 := ⟨_, rfl⟩
  have hb1 : Below w.heap.size w W1 := by rw [← hW1]; exact (Below.refl _ _).alloc (Nat.le_refl _) _
  have hq := Lib.hid (bytes_calls W1 B R r v ps (hS.below hb1))
  have Hb1 := Lib.hid hb1
  have HW1 := Lib.hid hW1
  clear hW1 hb1 hS
  go_enter Tryd.func9, Tryd.ntmps9
  go_wp2_with fail
  rw [HW1.out]
  refine (hq.out).mono ?_
  rintro e w' ⟨v6, rfl, h6, hb⟩
  have H67 := Lib.hid (And.intro h6 hb)
  clear h6 hb hq
  go_wp2_with fail
  go_ret
  exact ⟨v6, rfl, H67.out.1.monoB Hb1.out.size, Hb1.out.trans (H67.out.2.mono Hb1.out.size)⟩
end Go.Proofs.YtgkamdgegfioiaaDoor
