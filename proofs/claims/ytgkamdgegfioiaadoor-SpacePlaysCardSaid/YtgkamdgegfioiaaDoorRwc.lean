/- The walks of the reference's Share, Drop, Turn. -/
import Derived.Test.YtgkamdgegfioiaaDoorRwb
import Derived.Test.YtgkamdgegfioiaaDoorSrp
namespace Go.Proofs.YtgkamdgegfioiaaDoor
open Go.RowKit
set_option linter.unusedSimpArgs false
set_option linter.unusedVariables false
def LiesW (w : World) (u u' : Value) : Prop := u'.ownBlock = u.ownBlock ∨ ∃ k, u'.ownBlock = some k ∧ w.heap.size ≤ k
/-- what a call of the reference leaves -/
def RfPost (w : World) (B Q : Nat) (u : Value) (L : List Rw) (ret : Value) (e : Ending) (w' : World) : Prop :=
  e = .returned ret ∧ ∃ u', Rf w' B Q u' L ∧ Chg w w' (RfS Q u) ∧ LiesW w u u'
set_option maxHeartbeats 2000000 in
set_option maxRecDepth 100000 in
theorem rShare_calls (w : World) (B Q : Nat) (u : Value) (r : Nat) (ps : List Pc) (k : Int) (h : Rf w B Q u (rows r ps)) (hw : Wf r 0 ps) :
    Calls Tryd.prog 36 #[.pointer (some ⟨Q, 0, none⟩), .int .i64 k] w fun e w' => RfPost w B Q u (rows r (shareS k ps).2) (.int .i64 (shareS k ps).1) e w' := by
  have hq := begins_calls w B Q u _ k h
  rw [beg_rows hw] at hq
  unfold shareS
  cases hf : findS k ps with
  | none =>
    rw [hf] at hq
    have Hq := Lib.hid (show Calls Tryd.prog 59 #[.pointer (some ⟨Q, 0, none⟩), .int .i64 k] w fun e w' => e = .returned (.bool false) ∧ w = w' from hq)
    have HP := Lib.hid (show RfPost w B Q u (rows r ps) (.int .i64 3) (.returned (.int .i64 3)) w from ⟨rfl, u, h, Chg.refl _ _, .inl rfl⟩)
    show Calls _ _ _ _ fun e w' => RfPost w B Q u (rows r ps) (.int .i64 3) e w'
    clear hf hq h
    go_enter Tryd.func36, Tryd.ntmps36
    go_wp2_with fail
    refine (Hq.out).mono ?_
    rintro e w' ⟨rfl, hw'⟩
    subst hw'
    go_wp2_with fail
    go_ret
    exact HP.out
  | some p =>
    rw [hf] at hq
    have Hq := Lib.hid (show Calls Tryd.prog 59 #[.pointer (some ⟨Q, 0, none⟩), .int .i64 k] w fun e w' => e = .returned (.bool true) ∧ w = w' from hq)
    obtain ⟨hlt, ⟨hkn, rfl⟩, hfr⟩ := row_first hw hf
    obtain ⟨A, c, hu, hc, hcm, hl, hQc, -, hat⟩ := Rf.at_ (f := rowP ps) h
    obtain ⟨g, rfl, hg, hc6, hfz⟩ := hat p.at_ hlt
    have hfz := hfz (p.at_ * 6 + 3)
    rw [hfr] at hc6
    have c3 : w.cell? ⟨g, p.at_ * 6 + 3, none⟩ = some (.int .i64 (p.cnt : Int)) := hc6 3 (by omega)
    have hli : (p.at_ : Int) < (r : Int) := by omega
    have hcb := (hw.all p (findS_mem hf).1).2.2.1
    have hgQ : g ≠ Q := fun e => h.ne (by rw [hg, e])
    by_cases hmany : p.cnt = 65535
    · have HP := Lib.hid (show RfPost w B Q u (rows r ps) (.int .i64 14) (.returned (.int .i64 14)) w from ⟨rfl, u, h, Chg.refl _ _, .inl rfl⟩)
      rw [hmany] at c3
      simp only [hmany, if_true]
      rw [show (((65535 : Nat) : Int)) = 65535 from rfl] at c3
      clear hf hq h hat hc6 hfr hmany hkn hcb hw
      go_enter Tryd.func36, Tryd.ntmps36
      go_wp2_with fail
      refine (Hq.out).mono ?_
      rintro e w' ⟨rfl, hw'⟩
      subst hw'
      go_wp2_with fail
      go_ret
      exact HP.out
    · obtain ⟨qs, hqs⟩ : ∃ qs, upd (p.at_ : Int) incP ps = some qs := by
        cases hh : upd (p.at_ : Int) incP ps with
        | some qs => exact ⟨qs, rfl⟩
        | none => rw [(upd_none_iff incP).1 hh] at hf; cases hf
      obtain ⟨s1, s2⟩ := h.fld hg (i := p.at_) (by rw [rows_len]; exact hlt) 3 (.int .i64 ((p.cnt : Int) + 1)) { fsR p with uses := p.cnt + 1 } (by omega) (by rw [rows_at, hfr]; rfl)
      rw [rows_first hw hf hqs (c := p.cnt + 1) (by omega) rfl] at s1
      have HP := Lib.hid (show RfPost w B Q u (rows r qs) (.int .i64 0) (.returned (.int .i64 0)) (w.setCell ⟨g, p.at_ * 6 + 3, none⟩ (.int .i64 ((p.cnt : Int) + 1))) from ⟨rfl, u, s1, s2, .inl rfl⟩)
      simp only [hmany, if_false, hqs, Option.getD_some]
      have hd1 : decide (65535 ≤ p.cnt) = false := decide_eq_false (by omega)
      have hd2 : decide ((65535 : Int) ≤ (p.cnt : Int)) = false := decide_eq_false (by omega)
      have hd3 : p.cnt ≤ 1000000 := by omega
      clear hf hq h hat hc6 hfr hmany hkn hcb hw hqs s1 s2
      go_enter Tryd.func36, Tryd.ntmps36
      go_wp2_with fail
      refine (Hq.out).mono ?_
      rintro e w' ⟨rfl, hw'⟩
      subst hw'
      go_wp2_with fail
      go_ret
      exact HP.out
section
variable {P : Program}
/-- a row is stored, in a region that draws -/
theorem step_store_rw {ops : Array Oper} {o : Oper} {a : Act} {K : Act → World → Prop} {Q : Exit → Act → World → Prop} {E : Prop} {w W' : World} {g off : Nat} {cells : Array Value} (HW : Hid (w.there g off cells.size ∧ w.setCells g off cells.toList = W')) (hgd : o.guard = none) (ty : TypeId) (x y : Operand) (ho : o.op = .store ty x y)
    (hx : a.eval x = .pointer (some ⟨g, off, none⟩)) (hy : a.eval y = .agg cells) (hi : (P.info? ty).map (·.size) = some cells.size) (h1 : cells.all (·.oneCell') = true) (h : K (a.put o.dst undef) W') :
    if Region.wanted o (yielded ops a.tmps) = true then Oper.wp P o a w K Q else E := by
  have hw : Region.wanted o (yielded ops a.tmps) = true := by simp [Region.wanted, hgd]
  rw [if_pos hw]
  obtain ⟨h2, h3⟩ := HW.out
  subst h3
  exact wp_store_mid ty x y ho g off cells hx hy h2 hi h1 h
theorem wpList_store_rw {ops : Array Oper} {rest : List Oper} {o : Oper} {a : Act} {Q : Exit → Act → World → Prop} {w W' : World} {g off : Nat} {cells : Array Value} (HW : Hid (w.there g off cells.size ∧ w.setCells g off cells.toList = W')) (hgd : o.guard = none) (ty : TypeId) (x y : Operand) (ho : o.op = .store ty x y)
    (hx : a.eval x = .pointer (some ⟨g, off, none⟩)) (hy : a.eval y = .agg cells) (hi : (P.info? ty).map (·.size) = some cells.size) (h1 : cells.all (·.oneCell') = true) (h : wpList P ops Q rest (a.put o.dst undef) W') :
    wpList P ops Q (o :: rest) a w := by
  obtain ⟨h2, h3⟩ := HW.out
  subst h3
  exact wpList_store_mid hgd ty x y ho g off cells hx hy h2 hi h1 h
end
theorem rwA_one (x : Rw) : (rwA x).all (·.oneCell') = true := by
  have := all_oneCell_toArray (rwL_cell [x])
  rw [rwL_one] at this
  exact this
/-- rows that a loop has gone over -/
def goneF (ps : List Pc) (p : Pc) (k : Nat) : Nat → Rw := fun j => if p.at_ ≤ j ∧ j < k then ⟨-1, p.old, 0, 0, 0, false⟩ else if j = p.at_ then { fsR p with uses := 0 } else rowP ps j
theorem goneF_step {ps : List Pc} {p : Pc} {k r : Nat} (hk : p.at_ ≤ k) : (rowsF (goneF ps p k) r).set k ⟨-1, p.old, 0, 0, 0, false⟩ = rowsF (goneF ps p (k + 1)) r := by
  rw [rowsF_set]
  refine rowsF_ext (fun j hj => ?_)
  unfold goneF
  by_cases h : j = k
  · rw [if_pos h, if_pos (by omega)]
  · rw [if_neg h]
    by_cases h2 : p.at_ ≤ j ∧ j < k
    · rw [if_pos h2, if_pos (by omega)]
    · rw [if_neg h2, if_neg (show ¬ (p.at_ ≤ j ∧ j < k + 1) by omega)]
set_option maxHeartbeats 4000000 in
set_option maxRecDepth 100000 in
theorem rDrop_calls (w : World) (B Q : Nat) (u : Value) (r : Nat) (ps : List Pc) (k : Int) (h : Rf w B Q u (rows r ps)) (hw : Wf r 0 ps) :
    Calls Tryd.prog 37 #[.pointer (some ⟨Q, 0, none⟩), .int .i64 k] w fun e w' => RfPost w B Q u (rows r (dropS k ps).2) (.int .i64 (dropS k ps).1) e w' := by
  have hq := begins_calls w B Q u _ k h
  rw [beg_rows hw] at hq
  unfold dropS
  cases hf : findS k ps with
  | none =>
    rw [hf] at hq
    have Hq := Lib.hid (show Calls Tryd.prog 59 #[.pointer (some ⟨Q, 0, none⟩), .int .i64 k] w fun e w' => e = .returned (.bool false) ∧ w = w' from hq)
    have HP := Lib.hid (show RfPost w B Q u (rows r ps) (.int .i64 3) (.returned (.int .i64 3)) w from ⟨rfl, u, h, Chg.refl _ _, .inl rfl⟩)
    rw [(upd_none_iff decP1).2 hf]
    show Calls _ _ _ _ fun e w' => RfPost w B Q u (rows r ps) (.int .i64 3) e w'
    clear hf hq h
    go_enter Tryd.func37, Tryd.ntmps37
    go_wp2_with fail
    refine (Hq.out).mono ?_
    rintro e w' ⟨rfl, hw'⟩
    subst hw'
    go_wp2_with fail
    go_ret
    exact HP.out
  | some p =>
    rw [hf] at hq
    have Hq := Lib.hid (show Calls Tryd.prog 59 #[.pointer (some ⟨Q, 0, none⟩), .int .i64 k] w fun e w' => e = .returned (.bool true) ∧ w = w' from hq)
    obtain ⟨hlt, ⟨hkn, rfl⟩, hfr⟩ := row_first hw hf
    have h' : Rf w B Q u (rowsF (rowP ps) r) := h
    obtain ⟨A, c, hu, hc, hcm, hl, hQc, hQf, hat⟩ := h'.at_
    obtain ⟨g, rfl, hg, hc6, hfz⟩ := hat p.at_ hlt
    have hfz3 := hfz (p.at_ * 6 + 3)
    rw [hfr] at hc6
    have c3 : w.cell? ⟨g, p.at_ * 6 + 3, none⟩ = some (.int .i64 (p.cnt : Int)) := hc6 3 (by omega)
    have hli : (p.at_ : Int) < (r : Int) := by omega
    have hall := hw.all p (findS_mem hf).1
    have hcb := hall.2.2.1
    have hpn := hall.2.2.2.2
    have hpe : p.fin = p.at_ + p.n := rfl
    have hp0 := (findS_mem hf).2.2
    obtain ⟨qs, hqs⟩ : ∃ qs, upd (p.at_ : Int) decP1 ps = some qs := by
      cases hh : upd (p.at_ : Int) decP1 ps with
      | some qs => exact ⟨qs, rfl⟩
      | none => rw [(upd_none_iff decP1).1 hh] at hf; cases hf
    rw [hqs]
    show Calls _ _ _ _ fun e w' => RfPost w B Q u (rows r qs) (.int .i64 0) e w'
    obtain ⟨cn, hcn⟩ : ∃ cn, p.cnt = cn + 1 := ⟨p.cnt - 1, by omega⟩
    obtain ⟨W1, hW1⟩ : ∃ W1, w.setCell ⟨g, p.at_ * 6 + 3, none⟩ (.int .i64 (cn : Int)) = W1 := ⟨_, rfl⟩
    obtain ⟨s1, s2⟩ := h.fld hg (i := p.at_) (by rw [rows_len]; exact hlt) 3 (.int .i64 (cn : Int)) { fsR p with uses := cn } (by omega) (by rw [rows_at, hfr]; rfl)
    rw [hW1] at s1 s2
    have s1' : Rf W1 B Q u (rowsF (fun j => if j = p.at_ then { fsR p with uses := cn } else rowP ps j) r) := by
      rw [← rowsF_set]; exact s1
    obtain ⟨A', c', hu', -, -, -, hQc1, hQf1, hat1⟩ := s1'.at_
    rw [hu] at hu'
    injection hu' with hA' _ hc'
    obtain ⟨g', hgg, hg1, hc61, hfz1⟩ := hat1 p.at_ hlt
    rw [← hA'] at hgg hQc1
    rw [← hc'] at hQc1
    cases hgg
    simp only [if_true] at hc61
    have d0 : W1.cell? ⟨g, p.at_ * 6, none⟩ = some (.int .i64 (p.at_ : Int)) := hc61 0 (by omega)
    have d1 : W1.cell? ⟨g, p.at_ * 6 + 1, none⟩ = some (.bool false) := hc61 1 (by omega)
    have d2 : W1.cell? ⟨g, p.at_ * 6 + 2, none⟩ = some (.int .i64 (p.n : Int)) := hc61 2 (by omega)
    have d3 : W1.cell? ⟨g, p.at_ * 6 + 3, none⟩ = some (.int .i64 (cn : Int)) := hc61 3 (by omega)
    have d4 : W1.cell? ⟨g, p.at_ * 6 + 4, none⟩ = some (.int .u64 (p.tag : Int)) := hc61 4 (by omega)
    have d5 : W1.cell? ⟨g, p.at_ * 6 + 5, none⟩ = some (.bool p.old) := hc61 5 (by omega)
    obtain ⟨b5, hb5⟩ : ∃ b5, W1.heap.size = b5 := ⟨_, rfl⟩
    obtain ⟨V, hV⟩ : ∃ V, W1.alloc (.cells #[.int .i64 (p.at_ : Int), .bool false, .int .i64 (p.n : Int), .int .i64 (cn : Int), .int .u64 (p.tag : Int), .bool p.old] 106) = V := ⟨_, rfl⟩
    have hyV : Bx V b5 106 #[.int .i64 (p.at_ : Int), .bool false, .int .i64 (p.n : Int), .int .i64 (cn : Int), .int .u64 (p.tag : Int), .bool p.old] := by rw [← hV, ← hb5]; exact Bx.new _ _ _
    have y3 : V.cell? ⟨b5, 3, none⟩ = some (.int .i64 (cn : Int)) := hyV.cell 3
    have hbV : Below W1.heap.size W1 V := by rw [← hV]; exact (Below.refl _ _).alloc (Nat.le_refl _) _
    have hRV := s1'.below hbV
    have hCV : Chg w V (RfS Q u) := s2.trans (Chg.ofBelow hbV _)
    have hmi : (p.cnt : Int) - 1 = (cn : Int) := by omega
    obtain ⟨m, hm⟩ : ∃ m, p.cnt = m := ⟨_, rfl⟩
    rw [hm] at c3 hmi
    have hmb : m ≤ 65536 := by omega
    have HA := Lib.hid (And.intro hRV (And.intro hCV (And.intro hyV (And.intro hw (And.intro hf (And.intro hqs (And.intro hg (And.intro hpe (And.intro hpn hu)))))))))
    by_cases hz : cn = 0
    · have hz0 : ((cn : Int) == 0) = true := by rw [beq_iff_eq]; omega
      have h0 := Lib.hid (show Rf V B Q u (rowsF (goneF ps p p.at_) r) ∧ Chg w V (RfS Q u) ∧ Bx V b5 106 #[.int .i64 (p.at_ : Int), .bool false, .int .i64 (p.n : Int), .int .i64 (cn : Int), .int .u64 (p.tag : Int), .bool p.old] from ⟨by
        have e : rowsF (goneF ps p p.at_) r = rowsF (fun j => if j = p.at_ then { fsR p with uses := cn } else rowP ps j) r := rowsF_ext (fun j hj => by
          unfold goneF
          rw [if_neg (by omega), hz])
        rw [e]; exact hRV, hCV, hyV⟩)
      have Hz := Lib.hid (And.intro hz hcn)
      have hg5 : g < b5 := by
        have := (Array.getElem?_eq_some_iff.1 (h.own.row g hg).2.2.choose_spec).1
        have h9 := s2.size
        omega
      clear hq h h' hat hc6 hfr hkn hcb hall hpn hpe hp0 hcn s1 s2 s1' hat1 hc61 hRV hCV hyV hbV hw hf hqs hg hu hz hg1 hA' hc' hc hcm hm
      go_enter Tryd.func37, Tryd.ntmps37
      go_wp2_with fail
      refine (Hq.out).mono ?_
      rintro e w' ⟨rfl, hw'⟩
      subst hw'
      go_wp2_with fail
      clear hW1 hV hb5 hfz hfz3 hQc hQf hQc1 hQf1 hfz1 d0 d1 d2 d3 d4 d5 y3 hmi c3 hmb hz0
      obtain ⟨fn, hfn⟩ : ∃ fn, p.at_ + p.n = fn := ⟨_, rfl⟩
      have hfr2 : fn ≤ r := by
        have a1 := HA.out.2.2.2.2.2.2.2.1
        have a2 := HA.out.2.2.2.2.2.2.2.2.1
        omega
      have hni : (p.at_ : Int) + (p.n : Int) = (fn : Int) := by omega
      have hp2 : p.at_ ≤ fn := by omega
      have hnb : p.n ≤ 1073741824 := by omega
      have Hfn := Lib.hid hfn
      clear hfn
      go_loopw [6] (fun t6 wr => ∃ q : Nat, t6 = .int .i64 (q : Int) ∧ p.at_ ≤ q ∧ q ≤ fn ∧ Hid (Rf wr B Q u (rowsF (goneF ps p q) r) ∧ Chg w wr (RfS Q u) ∧ Bx wr b5 106 #[.int .i64 (p.at_ : Int), .bool false, .int .i64 (p.n : Int), .int .i64 (cn : Int), .int .u64 (p.tag : Int), .bool p.old])) (fun t6 _ => fn - (intOf t6).toNat)
      case atStart => exact ⟨p.at_, rfl, by omega, hp2, h0⟩
      case round =>
        clear h0
        rename World => wr
        obtain ⟨q, rfl, hq1, hq2, H⟩ := hrel
        have x2 : wr.cell? ⟨b5, 2, none⟩ = some (.int .i64 (p.n : Int)) := H.out.2.2.cell 2
        by_cases hlt2 : q < fn
        · have hlti : (q : Int) < (fn : Int) := by omega
          obtain ⟨A2, c2, hu2, -, -, -, hQ2, -, hat2⟩ := H.out.1.at_
          obtain ⟨g2, hA2, hg2, -, -⟩ := hat2 q (by omega)
          have hug := HA.out.2.2.2.2.2.2.1
          rw [hg2] at hug
          cases hug
          have hun := HA.out.2.2.2.2.2.2.2.2.2
          rw [hu2] at hun
          injection hun with hun1 _ hun3
          rw [hun1, hun3] at hQ2
          have hQd : wr.drew.cell? ⟨Q, 0, none⟩ = some (.slice (some ⟨g, 0, none⟩) r c) := hQ2
          have x5 : wr.drew.cell? ⟨b5, 5, none⟩ = some (.bool p.old) := H.out.2.2.cell 5
          have hRd : Rf wr.drew B Q u (rowsF (goneF ps p q) r) := H.out.1.below (Below.refl _ _).drew
          obtain ⟨t1, t2, t3⟩ := hRd.whole hg2 (i := q) (by rw [rowsF_len]; omega) ⟨-1, p.old, 0, 0, 0, false⟩
          rw [goneF_step hq1] at t1
          obtain ⟨W', hW'⟩ : ∃ W', wr.drew.setCells g (q * 6) (rwA ⟨-1, p.old, 0, 0, 0, false⟩).toList = W' := ⟨_, rfl⟩
          have HW := Lib.hid (show wr.drew.there g (q * 6) (#[.int .i64 (-1), .bool p.old, .int .i64 0, .int .i64 0, .int .u64 0, .bool false] : Array Value).size ∧ wr.drew.setCells g (q * 6) (#[.int .i64 (-1), .bool p.old, .int .i64 0, .int .i64 0, .int .u64 0, .bool false] : Array Value).toList = W' from ⟨t3, hW'⟩)
          rw [hW'] at t1 t2
          have hne5 : ¬ (RfS Q u b5) := fun e => by
            rcases e with e | e
            · exact bx_ne H.out.2.2 H.out.1.row (by decide) e
            · rw [hg2] at e; cases e; omega
          have HN := Lib.hid (show Rf W' B Q u (rowsF (goneF ps p (q + 1)) r) ∧ Chg w W' (RfS Q u) ∧ Bx W' b5 106 #[.int .i64 (p.at_ : Int), .bool false, .int .i64 (p.n : Int), .int .i64 (cn : Int), .int .u64 (p.tag : Int), .bool p.old] from ⟨t1, (H.out.2.1.trans (Chg.ofBelow (Below.refl _ wr).drew _)).trans t2, (t2.block b5 H.out.2.2.lt hne5).trans H.out.2.2⟩)
          have hqr : (q : Int) < (r : Int) := by omega
          have hQ' : W'.cell? ⟨Q, 0, none⟩ = some (.slice (some ⟨g, 0, none⟩) r c) := by
            rw [HN.out.1.cell.1, HA.out.2.2.2.2.2.2.2.2.2]
          have x5' : W'.cell? ⟨b5, 5, none⟩ = some (.bool p.old) := HN.out.2.2.cell 5
          clear H t1 t2 t3 hW' hne5 hRd hat2 hu2 hun1 hun3 hg2 hA2 hQ2
          go_upto_region 9 with fail
          refine wp_region_held (S := fun X => X.cell? ⟨Q, 0, none⟩ = some (.slice (some ⟨g, 0, none⟩) r c) ∧ X.cell? ⟨b5, 5, none⟩ = some (.bool p.old)) (by kernel_rfl) (show wpAnyH _ _ _ _ _ _ _ _ wr.drew from ?_)
          have hHeld : (fun X => X.cell? ⟨Q, 0, none⟩ = some (.slice (some ⟨g, 0, none⟩) r c) ∧ X.cell? ⟨b5, 5, none⟩ = some (.bool p.old)) wr.drew := ⟨hQd, x5⟩
          refine wpAnyH_take (i := 0) (v := ?_) rfl (by kernel_rfl) (by kernel_rfl) (by kernel_rfl) (fun _ _ _ h => h) (Or.inl ⟨by kernel_rfl, ?_⟩) (by assumption) ?_
          rotate_left
          · rintro w ⟨q1, q2⟩; go_simp; (try with_reducible rfl)
          try simp only [List.getElem_toArray, List.getElem_cons_succ, List.getElem_cons_zero]
          try simp only [Act.put, List.setIfInBounds_toArray, List.set_cons_zero, List.set_cons_succ]
          refine wpAnyH_take (i := 1) (v := ?_) rfl (by kernel_rfl) (by kernel_rfl) (by kernel_rfl) (fun _ _ _ h => h) (Or.inl ⟨by kernel_rfl, ?_⟩) (by assumption) ?_
          rotate_left
          · rintro w ⟨q1, q2⟩; go_simp; (try with_reducible rfl)
          try simp only [List.getElem_toArray, List.getElem_cons_succ, List.getElem_cons_zero]
          try simp only [Act.put, List.setIfInBounds_toArray, List.set_cons_zero, List.set_cons_succ]
          refine wpAnyH_take (i := 2) (v := ?_) rfl (by kernel_rfl) (by kernel_rfl) (by kernel_rfl) (fun _ _ _ h => h) (Or.inl ⟨by kernel_rfl, ?_⟩) (by assumption) ?_
          rotate_left
          · rintro w ⟨q1, q2⟩; go_simp; (try with_reducible rfl)
          try simp only [List.getElem_toArray, List.getElem_cons_succ, List.getElem_cons_zero]
          try simp only [Act.put, List.setIfInBounds_toArray, List.set_cons_zero, List.set_cons_succ]
          refine wpAnyH_take (i := 3) (v := ?_) rfl (by kernel_rfl) (by kernel_rfl) (by kernel_rfl) (fun _ _ _ h => h) (Or.inl ⟨by kernel_rfl, ?_⟩) (by assumption) ?_
          rotate_left
          · rintro w ⟨q1, q2⟩; go_simp; (try with_reducible rfl)
          try simp only [List.getElem_toArray, List.getElem_cons_succ, List.getElem_cons_zero]
          try simp only [Act.put, List.setIfInBounds_toArray, List.set_cons_zero, List.set_cons_succ]
          refine wpAnyH_take (i := 4) (v := ?_) rfl (by kernel_rfl) (by kernel_rfl) (by kernel_rfl) (fun _ _ _ h => h) (Or.inl ⟨by kernel_rfl, ?_⟩) (by assumption) ?_
          rotate_left
          · rintro w ⟨q1, q2⟩; go_simp; (try with_reducible rfl)
          try simp only [List.getElem_toArray, List.getElem_cons_succ, List.getElem_cons_zero]
          try simp only [Act.put, List.setIfInBounds_toArray, List.set_cons_zero, List.set_cons_succ]
          refine wpAnyH_take (i := 5) (v := ?_) rfl (by kernel_rfl) (by kernel_rfl) (by kernel_rfl) (fun _ _ _ h => h) (Or.inl ⟨by kernel_rfl, ?_⟩) (by assumption) ?_
          rotate_left
          · rintro w ⟨q1, q2⟩; go_simp; (try with_reducible rfl)
          try simp only [List.getElem_toArray, List.getElem_cons_succ, List.getElem_cons_zero]
          try simp only [Act.put, List.setIfInBounds_toArray, List.set_cons_zero, List.set_cons_succ]
          refine wpAnyH_take (i := 6) (v := ?_) rfl (by kernel_rfl) (by kernel_rfl) (by kernel_rfl) (fun _ _ _ h => h) (Or.inl ⟨by kernel_rfl, ?_⟩) (by assumption) ?_
          rotate_left
          · rintro w ⟨q1, q2⟩; go_simp; (try with_reducible rfl)
          try simp only [List.getElem_toArray, List.getElem_cons_succ, List.getElem_cons_zero]
          try simp only [Act.put, List.setIfInBounds_toArray, List.set_cons_zero, List.set_cons_succ]
          refine wpAnyH_take (i := 7) (v := ?_) rfl (by kernel_rfl) (by kernel_rfl) (by kernel_rfl) (fun _ _ _ h => h) (Or.inl ⟨by kernel_rfl, ?_⟩) (by assumption) ?_
          rotate_left
          · rintro w ⟨q1, q2⟩; go_simp; (try with_reducible rfl)
          try simp only [List.getElem_toArray, List.getElem_cons_succ, List.getElem_cons_zero]
          try simp only [Act.put, List.setIfInBounds_toArray, List.set_cons_zero, List.set_cons_succ]
          refine wpAnyH_take (i := 8) (v := ?_) rfl (by kernel_rfl) (by kernel_rfl) (by kernel_rfl) (fun _ _ _ h => h) (Or.inl ⟨by kernel_rfl, ?_⟩) (by assumption) ?_
          rotate_left
          · rintro w ⟨q1, q2⟩; go_simp; (try with_reducible rfl)
          try simp only [List.getElem_toArray, List.getElem_cons_succ, List.getElem_cons_zero]
          try simp only [Act.put, List.setIfInBounds_toArray, List.set_cons_zero, List.set_cons_succ]
          refine wpAnyH_ready (rs := [9]) (by kernel_rfl) (by simp) ?_
          refine AllReadyH.cons rfl (fun K hK => ?_) AllReadyH.nil
          refine step_store_rw HW rfl 106 (.tmp 49) (.tmp 48) rfl rfl rfl (by kernel_rfl) (rwA_one ⟨-1, p.old, 0, 0, 0, false⟩) ?_
          refine hK.out _ _ ⟨hQ', x5'⟩ (fun hHeld2 => ?_)
          clear hK K hHeld hHeld2
          try simp only [List.getElem_toArray, List.getElem_cons_succ, List.getElem_cons_zero]
          try simp only [Act.put, List.setIfInBounds_toArray, List.set_cons_zero, List.set_cons_succ]
          refine wpAnyH_done (by kernel_rfl) ?_ _
          go_wp2_with fail
          exact ⟨⟨q + 1, by go_num, by omega, by omega, HN⟩, by simp [intOf]; omega⟩
        · obtain rfl : q = fn := by omega
          have hlti : ¬ (q : Int) < (q : Int) := by omega
          have HP := Lib.hid (show RfPost w B Q u (rows r qs) (.int .i64 0) (.returned (.int .i64 0)) wr from ⟨rfl, u, by
            obtain ⟨-, -, -, hw, hf, hqs, -, hpe, hpn, -⟩ := HA.out
            have e : rowsF (goneF ps p q) r = rows r qs := rows_gone hw hf hqs (by have := Hz.out; omega) (fun i => by
              unfold goneF
              rw [hpe, Hfn.out]
              by_cases h3 : p.at_ ≤ i ∧ i < q
              · rw [if_pos h3, if_pos h3]
              · rw [if_neg h3, if_neg h3, if_neg (by have := (hw.all p (findS_mem hf).1).2.1; have := Hfn.out; omega)])
            rw [← e]; exact H.out.1, H.out.2.1, .inl rfl⟩)
          clear H
          go_wp2_with fail
          go_ret
          exact HP.out
    · have hz0 : ((cn : Int) == 0) = false := by rw [beq_eq_false_iff_ne]; omega
      have HP := Lib.hid (show RfPost w B Q u (rows r qs) (.int .i64 0) (.returned (.int .i64 0)) V from ⟨rfl, u, by
        have e : rowsF (fun j => if j = p.at_ then { fsR p with uses := cn } else rowP ps j) r = rows r qs := by
          rw [← rowsF_set]
          exact rows_first hw hf hqs hz (by unfold decP1; rw [if_neg (by omega), hcn]; rfl)
        rw [← e]; exact hRV, hCV, .inl rfl⟩)
      clear hq h h' hat hc6 hfr hkn hcb hall hpn hpe hp0 hcn s1 s2 s1' hat1 hc61 hRV hCV hyV hbV hw hf hqs hg hu hz HA hg1 hA' hc' hc hcm hm
      go_enter Tryd.func37, Tryd.ntmps37
      go_wp2_with fail
      refine (Hq.out).mono ?_
      rintro e w' ⟨rfl, hw'⟩
      subst hw'
      go_wp2_with fail
      go_ret
      exact HP.out
end Go.Proofs.YtgkamdgegfioiaaDoor
