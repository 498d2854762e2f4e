/- The walks of (*space.Space).find, Find, Share, Drop, Turn, Grow. -/
import Derived.Test.YtgkamdgegfioiaaDoorSol
namespace Go.Proofs.YtgkamdgegfioiaaDoor
open Go.RowKit
set_option linter.unusedSimpArgs false
set_option linter.unusedVariables false
def FindPost (w : World) (v : Value) (ps : List Pc) (k : Int) (e : Ending) (w' : World) : Prop :=
  (((∀ p ∈ ps, ¬ isR k p) ∧ e = .returned (.tuple #[.pointer none, .int .i64 0])) ∨ ∃ i g c, hitAt ps k i ∧ v = .slice (some ⟨g, 0, none⟩) ps.length c ∧ e = .returned (.tuple #[.pointer (some ⟨g, i * 5, none⟩), .int .i64 (i : Int)])) ∧ Below w.heap.size w w'
set_option maxHeartbeats 4000000 in
set_option maxRecDepth 100000 in
theorem find_calls (w : World) (B R : Nat) (v : Value) (r : Nat) (ps : List Pc) (k : Int) (h : Sp w B R v r ps) :
    Calls Tryd.prog 55 #[.pointer (some ⟨R, 0, none⟩), .int .i64 k] w fun e w' => FindPost w v ps k e w' := by
  obtain ⟨A, c, rfl, hc1, hc2, hrd⟩ := h.own.rd
  have hq := bsf_calls w A c ps k hrd h.wf.sorted h.len hc1 hc2
  obtain ⟨N, hN⟩ : ∃ N, ps.length = N := ⟨_, rfl⟩
  have HA := Lib.hid (And.intro h (And.intro hrd hN))
  have hn := h.len
  rw [hN] at hq hc1 hn
  have Hq := Lib.hid hq
  obtain ⟨cR0, cR1, fR⟩ := h.cells
  rw [hN] at cR1
  unfold FindPost
  rw [hN]
  have hc3 : c ≤ 9223372036854775807 := by unfold maxLen at hc2; omega
  clear hq hrd h hN hc2 fR
  go_enter Tryd.func55, Tryd.ntmps55
  go_wp2_with fail
  refine (Hq.out).mono ?_
  rintro e w1 ⟨⟨i, rfl, hbs⟩, hb⟩
  obtain ⟨hS, hrd, hN⟩ := HA.out
  have hS1 := hS.below hb
  obtain ⟨cS0, cS1, -⟩ := hS1.cells
  rw [hN] at cS1
  obtain ⟨b, hbb⟩ : ∃ b, bsHit ps k i = b := ⟨_, rfl⟩
  rcases bs_hit hS.wf.sorted hbs with ⟨hi, h1, h2, h3⟩ | ⟨h1, h2⟩
  · rw [h1] at hbb
    subst hbb
    obtain ⟨g, rfl, hgw, hgf, hgc⟩ := (hrd.below' hb) i hi
    have g2 : w1.cell? ⟨g, i * 5 + 2, none⟩ = some (.int .i64 (ps[i].cnt : Int)) := hgc 2 (by omega)
    have hiN : (i : Int) < (N : Int) := by omega
    have hcz : ((ps[i].cnt : Int) == 0) = false := by rw [beq_eq_false_iff_ne]; omega
    obtain ⟨cn, hcn⟩ : ∃ cn, ps[i].cnt = cn := ⟨_, rfl⟩
    rw [hcn] at g2 hcz
    have HP := Lib.hid (And.intro h3 hb)
    rw [h1]
    clear hS hrd hN hS1 h1 h2 h3 hgc hb HA Hq hbs hcn
    go_wp2_with fail
    go_ret2
    exact ⟨.inr ⟨i, g, c, HP.out.1, rfl, rfl⟩, HP.out.2⟩
  · have HP := Lib.hid (And.intro h1 hb)
    rcases h2 with h2 | ⟨hi, h2, h3⟩
    · rw [h2]
      clear hS hrd hN hS1 h1 h2 hb HA Hq hbs hbb
      go_wp2_with fail
      go_ret2
      exact ⟨.inl ⟨HP.out.1, rfl⟩, HP.out.2⟩
    · rw [h2]
      obtain ⟨g, rfl, hgw, hgf, hgc⟩ := (hrd.below' hb) i hi
      have g2 : w1.cell? ⟨g, i * 5 + 2, none⟩ = some (.int .i64 (ps[i].cnt : Int)) := hgc 2 (by omega)
      have hiN : (i : Int) < (N : Int) := by omega
      rw [h3] at g2
      rw [show (((0 : Nat) : Int)) = 0 from rfl] at g2
      clear hS hrd hN hS1 h1 h2 h3 hgc hb HA Hq hbs hbb
      go_wp2_with fail
      go_ret2
      exact ⟨.inl ⟨HP.out.1, rfl⟩, HP.out.2⟩
theorem pcL_set : ∀ (ps : List Pc) (i f : Nat) (u : Value) (q : Pc) (hi : i < ps.length), f < 5 → (pcA q).toList = (pcA ps[i]).toList.set f u → (pcL ps).set (i * 5 + f) u = pcL (ps.set i q)
  | [], i, _, _, _, hi, _, _ => absurd hi (by simp)
  | p :: ps, 0, f, u, q, _, hf, h => by
    have e1 : ∀ x xs, pcL (x :: xs) = (pcA x).toList ++ pcL xs := fun x xs => rfl
    rw [List.set_cons_zero, e1, e1, Nat.zero_mul, Nat.zero_add, h, List.set_append, if_pos (by show f < 5; exact hf)]
    rfl
  | p :: ps, i + 1, f, u, q, hi, hf, h => by
    have e1 : ∀ x xs, pcL (x :: xs) = (pcA x).toList ++ pcL xs := fun x xs => rfl
    have ih := pcL_set ps i f u q (by simpa using hi) hf (by simpa using h)
    have h5 : (pcA p).toList.length = 5 := rfl
    rw [List.set_cons_succ, e1, e1, List.set_append, if_neg (by rw [h5]; omega), h5, show (i + 1) * 5 + f - 5 = i * 5 + f by omega, ih]
/-- a field of a piece is stored -/
theorem Sp.fld {W : World} {B R r g n c i : Nat} {ps : List Pc} (h : Sp W B R (.slice (some ⟨g, 0, none⟩) n c) r ps) (hi : i < ps.length) (f : Nat) (u : Value) (q : Pc) (hf : f < 5) (hq : (pcA q).toList = (pcA ps[i]).toList.set f u) (hw : Wf r 0 (ps.set i q)) :
    Sp (W.setCell ⟨g, i * 5 + f, none⟩ u) B R (.slice (some ⟨g, 0, none⟩) n c) r (ps.set i q) ∧ Chg W (W.setCell ⟨g, i * 5 + f, none⟩ u) (fun k => rowOf (.slice (some ⟨g, 0, none⟩) n c) = some k) ∧ W.frozen? ⟨g, i * 5 + f, none⟩ = false ∧ (∃ z, W.cell? ⟨g, i * 5 + f, none⟩ = some z) ∧ g ≠ R := by
  obtain ⟨A, c2, he, h1, h2, h3⟩ := h.own
  injection he with e1 e2 e3
  subst e3
  obtain ⟨g', L, e4, hB, hL, h5, h6⟩ : ∃ (g' : Nat) (L : List Value), A = some ⟨g', 0, none⟩ ∧ B ≤ g' ∧ W.heap[g']? = some (.cells L.toArray 90 (0, 0)) ∧ L.length = c * 5 ∧ L.take (ps.length * 5) = pcL ps := by
    rcases h3 with rfl | h3
    · omega
    · exact h3
  rw [e4] at e1
  cases e1
  have hro : rowOf (.slice (some ⟨g, 0, none⟩) n c) = some g := by simp [rowOf]; omega
  have hset : W.setCell ⟨g, i * 5 + f, none⟩ u = W.setRow g (L.set (i * 5 + f) u).toArray := by
    rw [setCell_eq_setRow _ _ _ _ _ _ _ hL]; simp
  have hgR : g ≠ R := fun e => h.ne (by rw [hro, e])
  refine ⟨⟨h.hR, ?_, ⟨some ⟨g, 0, none⟩, c, by rw [List.length_set, e2], by rw [List.length_set]; exact h1, h2, .inr ⟨g, _, rfl, hB, by rw [hset]; exact setRow_heap _ _ _ _ _ _ hL, by rw [List.length_set]; exact h5, ?_⟩⟩, hw, h.hr⟩, ⟨rfl, rfl, rfl, by simp, fun k _ hs => ?_⟩, frozen_of_row _ _ _ _ _ hL, ?_, hgR⟩
  · rw [hset]
    exact (setRow_other _ _ _ _ (Ne.symm hgR)).trans h.row
  · rw [List.length_set, List.take_set, h6]
    exact pcL_set ps i f _ _ hi hf hq
  · rw [hset]
    exact setRow_other _ _ _ _ (fun e => hs (by rw [hro, e]))
  · rw [cell_of_row _ _ _ _ _ _ hL]
    exact ⟨_, by simp; exact List.getElem?_eq_getElem (by omega)⟩
/-- the count of a piece is stored -/
theorem Sp.cnt {W : World} {B R r g n c i : Nat} {ps : List Pc} (h : Sp W B R (.slice (some ⟨g, 0, none⟩) n c) r ps) (hi : i < ps.length) (x : Nat) (hw : Wf r 0 (ps.set i { ps[i] with cnt := x })) :
    Sp (W.setCell ⟨g, i * 5 + 2, none⟩ (.int .i64 (x : Int))) B R (.slice (some ⟨g, 0, none⟩) n c) r (ps.set i { ps[i] with cnt := x }) ∧ Chg W (W.setCell ⟨g, i * 5 + 2, none⟩ (.int .i64 (x : Int))) (fun k => rowOf (.slice (some ⟨g, 0, none⟩) n c) = some k) ∧ W.frozen? ⟨g, i * 5 + 2, none⟩ = false ∧ (∃ u, W.cell? ⟨g, i * 5 + 2, none⟩ = some u) ∧ g ≠ R := h.fld hi 2 _ _ (by omega) rfl hw
theorem set_split {ps : List Pc} {i : Nat} (hi : i < ps.length) (q : Pc) : ps.set i q = ps.take i ++ ([q] ++ ps.drop (i + 1)) := by
  rw [List.set_eq_take_append_cons_drop, if_pos hi]; rfl
theorem set_erase {ps : List Pc} {i : Nat} (hi : i < ps.length) (q : Pc) : (ps.set i q).eraseIdx i = ps.take i ++ ps.drop (i + 1) := by
  rw [List.eraseIdx_eq_take_drop_succ, List.take_set_of_le (Nat.le_refl _), List.drop_set_of_lt (by omega)]
theorem Sp.pc {W : World} {B R r g n c i : Nat} {ps : List Pc} (h : Sp W B R (.slice (some ⟨g, 0, none⟩) n c) r ps) (hi : i < ps.length) : ∀ f, f < 5 → W.cell? ⟨g, i * 5 + f, none⟩ = (pcA ps[i])[f]? := by
  obtain ⟨A, c', he, -, -, hrd⟩ := h.own.rd
  injection he with e1 e2 e3
  subst e1
  obtain ⟨g2, hA, -, -, hgc⟩ := hrd i hi
  cases hA
  exact hgc
def errO (c : Int) : Value := if c = 0 then .nilIface else errE c
/-- what a call leaves that turns a space -/
def OpPost (w : World) (B R : Nat) (v : Value) (r : Nat) (x : Int × List Pc) (e : Ending) (w' : World) : Prop :=
  e = .returned (errO x.1) ∧ ∃ v', Sp w' B R v' r x.2 ∧ Chg w w' (fun j => j = R ∨ rowOf v = some j) ∧ Lies w v v'
set_option maxHeartbeats 4000000 in
set_option maxRecDepth 100000 in
theorem share_calls (w : World) (B R : Nat) (v : Value) (r : Nat) (ps : List Pc) (k : Int) (h : Sp w B R v r ps) :
    Calls Tryd.prog 31 #[.pointer (some ⟨R, 0, none⟩), .int .i64 k] w fun e w' => OpPost w B R v r (shareS k ps) e w' := by
  have Hq := Lib.hid (find_calls w B R v r ps k h)
  have HS := Lib.hid h
  clear h
  go_enter Tryd.func31, Tryd.ntmps31
  go_wp2_with fail
  refine (Hq.out).mono ?_
  rintro e w1 ⟨hp, hb⟩
  rcases hp with ⟨hnone, rfl⟩ | ⟨i, g, c, hat, rfl, rfl⟩
  · have HP := Lib.hid (show OpPost w B R v r (shareS k ps) (.returned (errE 3)) w1 from by
      unfold shareS
      rw [(findS_none incP hnone).1]
      exact ⟨rfl, v, HS.out.below hb, Chg.ofBelow hb _, .inl rfl⟩)
    unfold errE at HP
    clear Hq hnone hb HS
    go_wp2_with fail
    go_ret
    exact HP.out
  · have hS1 := HS.out.below hb
    have hi := hat.1
    have c2 : w1.cell? ⟨g, i * 5 + 2, none⟩ = some (.int .i64 (ps[i].cnt : Int)) := hS1.pc hi 2 (by omega)
    have hall := hS1.wf.all ps[i] (List.getElem_mem hi)
    have hcb := hall.2.2.1
    obtain ⟨hf1, hf2⟩ := findS_at incP hat
    obtain ⟨cn, hcn⟩ : ∃ cn, ps[i].cnt = cn := ⟨_, rfl⟩
    rw [hcn] at c2 hcb
    by_cases hmany : cn = 65535
    · subst hmany
      have HP := Lib.hid (show OpPost w B R (.slice (some ⟨g, 0, none⟩) ps.length c) r (shareS k ps) (.returned (errE 14)) w1 from by
        unfold shareS
        rw [hf1]
        show OpPost w B R _ r (if ps[i].cnt = 65535 then (14, ps) else _) _ _
        rw [if_pos hcn]
        exact ⟨rfl, _, hS1, Chg.ofBelow hb _, .inl rfl⟩)
      unfold errE at HP
      rw [show (((65535 : Nat) : Int)) = 65535 from rfl] at c2
      clear Hq hat hb HS hS1 hf1 hf2 hcn hall
      go_wp2_with fail
      go_ret
      exact HP.out
    · have hws := shareS_wf (k := k) hS1.wf
      have hsh : shareS k ps = (0, ps.set i { ps[i] with cnt := cn + 1 }) := by
        unfold shareS
        rw [hf1]
        show (if ps[i].cnt = 65535 then (14, ps) else (0, (upd k incP ps).getD ps)) = _
        rw [if_neg (by omega), hf2, Option.getD_some, set_split hi]
        unfold incP
        rw [hcn]
      rw [hsh] at hws
      obtain ⟨s1, s2, s3, ⟨u, s4⟩, s5⟩ := hS1.cnt hi (cn + 1) hws
      have HP := Lib.hid (show OpPost w B R (.slice (some ⟨g, 0, none⟩) ps.length c) r (shareS k ps) (.returned .nilIface) (w1.setCell ⟨g, i * 5 + 2, none⟩ (.int .i64 ((cn : Int) + 1))) from by
        rw [hsh]
        exact ⟨rfl, _, s1, (Chg.ofBelow hb _).trans (s2.mono (fun j _ hj => .inr hj)), .inl rfl⟩)
      have hne : ((cn : Int) == 65535) = false := by rw [beq_eq_false_iff_ne]; omega
      clear Hq hat hb HS hS1 hf1 hf2 hcn hall hws hsh s1 s2 s4
      go_wp2_with fail
      go_ret
      exact HP.out
set_option maxHeartbeats 4000000 in
set_option maxRecDepth 100000 in
theorem drop_calls (w : World) (B R : Nat) (v : Value) (r : Nat) (ps : List Pc) (k : Int) (h : Sp w B R v r ps) :
    Calls Tryd.prog 30 #[.pointer (some ⟨R, 0, none⟩), .int .i64 k] w fun e w' => OpPost w B R v r (dropS k ps) e w' := by
  have Hq := Lib.hid (find_calls w B R v r ps k h)
  have HS := Lib.hid h
  clear h
  go_enter Tryd.func30, Tryd.ntmps30
  go_wp2_with fail
  refine (Hq.out).mono ?_
  rintro e w1 ⟨hp, hb⟩
  rcases hp with ⟨hnone, rfl⟩ | ⟨i, g, c, hat, rfl, rfl⟩
  · have HP := Lib.hid (show OpPost w B R v r (dropS k ps) (.returned (errE 3)) w1 from by
      unfold dropS
      rw [(findS_none decP1 hnone).2]
      exact ⟨rfl, v, HS.out.below hb, Chg.ofBelow hb _, .inl rfl⟩)
    unfold errE at HP
    clear Hq hnone hb HS
    go_wp2_with fail
    go_ret
    exact HP.out
  · have hS1 := HS.out.below hb
    have hi := hat.1
    have c2 : w1.cell? ⟨g, i * 5 + 2, none⟩ = some (.int .i64 (ps[i].cnt : Int)) := hS1.pc hi 2 (by omega)
    have c4 : w1.cell? ⟨g, i * 5 + 4, none⟩ = some (.bool ps[i].old) := hS1.pc hi 4 (by omega)
    have hall := hS1.wf.all ps[i] (List.getElem_mem hi)
    have hcb := hall.2.2.1
    obtain ⟨-, hf2⟩ := findS_at decP1 hat
    have hcn0 : ps[i].cnt ≠ 0 := hat.2.1.2
    obtain ⟨cn, hcn⟩ : ∃ cn, ps[i].cnt = cn + 1 := ⟨ps[i].cnt - 1, by omega⟩
    obtain ⟨o, ho⟩ : ∃ o, ps[i].old = o := ⟨_, rfl⟩
    rw [hcn] at c2 hcb
    rw [ho] at c4
    have hdr : dropS k ps = (0, if cn = 0 ∧ o = false then ps.take i ++ ps.drop (i + 1) else ps.set i { ps[i] with cnt := cn }) := by
      subst ho
      unfold dropS
      rw [hf2]
      show (0, ps.take i ++ (decP1 ps[i] ++ ps.drop (i + 1))) = _
      unfold decP1
      rw [hcn]
      by_cases hc : cn = 0 ∧ ps[i].old = false
      · rw [if_pos hc, if_pos ⟨by omega, hc.2⟩]; rfl
      · rw [if_neg hc, if_neg (fun h => hc ⟨by omega, h.2⟩), set_split hi]; rfl
    have hwset : Wf r 0 (ps.set i { ps[i] with cnt := cn }) := by
      have := upd_wf (k := k) (f := fun p => [{ p with cnt := cn }]) (ps := ps) (qs := ps.take i ++ ([{ ps[i] with cnt := cn }] ++ ps.drop (i + 1))) hS1.wf (fun p _ => .inr ⟨cn, p.old, by omega, rfl⟩) (findS_at _ hat).2
      rw [set_split hi]
      exact this
    obtain ⟨s1, s2, s3, ⟨u, s4⟩, s5⟩ := hS1.cnt hi cn hwset
    obtain ⟨m, hm⟩ : ∃ m, cn + 1 = m := ⟨_, rfl⟩
    rw [hm] at c2
    have hmi : (m : Int) - 1 = (cn : Int) := by omega
    have hmb : m ≤ 65536 := by omega
    obtain ⟨W, hW⟩ : ∃ W, w1.setCell ⟨g, i * 5 + 2, none⟩ (.int .i64 (cn : Int)) = W := ⟨_, rfl⟩
    rw [hW] at s1 s2
    have d2 : W.cell? ⟨g, i * 5 + 2, none⟩ = some (.int .i64 (cn : Int)) := by rw [← hW]; exact World.cell?_setCell_same _ _ _ s4
    have d4 : W.cell? ⟨g, i * 5 + 4, none⟩ = some (.bool o) := by rw [← hW, World.cell?_setCell_other _ _ _ _ (by intro e; injection e with _ e2 _; omega)]; exact c4
    clear s4
    have HC := Lib.hid (And.intro s1 (And.intro ((Chg.ofBelow hb (fun j => j = R ∨ rowOf (.slice (some ⟨g, 0, none⟩) ps.length c) = some j)).trans (s2.mono (fun j _ hj => .inr hj))) (And.intro hdr (And.intro hS1.wf (And.intro hb hi)))))
    by_cases hc0 : cn = 0 ∧ o = false
    · obtain ⟨hc0, rfl⟩ := hc0
      have hz : ((cn : Int) == 0) = true := by rw [beq_iff_eq]; omega
      obtain ⟨e0, e1, e2⟩ := s1.cells
      have e2 := e2 1
      have hdel := delete_calls W B _ (ps.set i { ps[i] with cnt := cn }) i s1.own (by rw [List.length_set]; exact hi) (by rw [List.length_set]; exact hS1.len)
      rw [set_erase hi] at hdel
      have hib : i < 1073741824 := by have := hS1.len; omega
      rw [if_pos ⟨hc0, rfl⟩] at hdr
      have Hd := Lib.hid hdel
      have Hdr := Lib.hid hdr
      clear Hq hat hb HS hS1 hf2 hcn hall hwset hdr s1 s2 hcb hcn0 ho hm hdel hc0
      go_wp2_with fail
      refine (Hd.out).mono ?_
      rintro e W2 ⟨v', rfl, ho, hg, hl⟩
      obtain ⟨h1, h2, h3, h4⟩ := HC.out.1.put ho hg hl (by
        have := dropS_wf (k := k) HC.out.2.2.2.1
        rw [Hdr.out] at this
        exact this)
      have HP := Lib.hid (show OpPost w B R (.slice (some ⟨g, 0, none⟩) ps.length c) r (dropS k ps) (.returned .nilIface) (W2.setCell ⟨R, 1, none⟩ v') from by
        rw [Hdr.out]
        exact ⟨rfl, v', h1, HC.out.2.1.trans h2, hl.base HC.out.2.1.size⟩)
      obtain ⟨A', c', rfl, hle'⟩ : ∃ A' c', v' = .slice A' (ps.take i ++ ps.drop (i + 1)).length c' ∧ True := by
        obtain ⟨A', c', e1, _⟩ := ho
        exact ⟨A', c', e1, trivial⟩
      obtain ⟨qn, hqn⟩ : ∃ qn, (ps.take i ++ ps.drop (i + 1)).length = qn := ⟨_, rfl⟩
      rw [hqn] at HP ⊢
      clear Hd HC Hdr hg hl ho hqn h1 h2 hle'
      go_wp2_with fail
      go_ret
      exact HP.out
    · rw [if_neg hc0] at hdr
      have HP := Lib.hid (show OpPost w B R (.slice (some ⟨g, 0, none⟩) ps.length c) r (dropS k ps) (.returned .nilIface) W from by
        rw [hdr]
        exact ⟨rfl, _, s1, (Chg.ofBelow hb _).trans (s2.mono (fun j _ hj => .inr hj)), .inl rfl⟩)
      obtain ⟨b, hz⟩ : ∃ b, ((cn : Int) == 0) = b := ⟨_, rfl⟩
      have hbo : b = false ∨ o = true := by
        cases o with
        | true => exact .inr rfl
        | false =>
          left
          rw [← hz, beq_eq_false_iff_ne]
          intro e
          exact hc0 ⟨by omega, rfl⟩
      clear Hq hat hb HS hS1 hf2 hcn hall hwset hdr s1 s2 hcb hcn0 ho hm hc0 HC
      rcases hbo with rfl | rfl
      · go_wp2_with fail
        go_ret
        exact HP.out
      · cases b with
        | true =>
          go_wp2_with fail
          go_ret
          exact HP.out
        | false =>
          go_wp2_with fail
          go_ret
          exact HP.out
/-- the first i are old -/
def oldN (i : Nat) (ps : List Pc) : List Pc := (ps.take i).map oldP ++ ps.drop i
theorem oldN_len (i : Nat) (ps : List Pc) : (oldN i ps).length = ps.length := by
  unfold oldN
  rw [List.length_append, List.length_map, ← List.length_append, List.take_append_drop]
theorem oldN_at {i : Nat} {ps : List Pc} (h : i < ps.length) : (oldN i ps)[i]'(by rw [oldN_len]; exact h) = ps[i] := by
  unfold oldN
  rw [List.getElem_append_right (by rw [List.length_map, List.length_take]; omega)]
  simp only [List.length_map, List.length_take, List.getElem_drop]
  congr 1
  omega
theorem oldN_set {i : Nat} {ps : List Pc} (h : i < ps.length) : (oldN i ps).set i (oldP ps[i]) = oldN (i + 1) ps := by
  unfold oldN
  rw [List.take_succ_eq_append_getElem h, List.map_append, List.set_append, if_neg (by rw [List.length_map, List.length_take]; omega), List.length_map, List.length_take, Nat.min_eq_left (by omega), Nat.sub_self, List.drop_eq_getElem_cons h, List.set_cons_zero, List.append_assoc]
  rfl
theorem oldN_wf {r : Nat} : ∀ {a : Nat} {ps : List Pc} (i : Nat), Wf r a ps → Wf r a (oldN i ps)
  | a, ps, 0, h => by unfold oldN; simpa using h
  | a, [], i + 1, h => by unfold oldN; simpa using h
  | a, p :: ps, i + 1, h => by
    have ih := oldN_wf i h.2.2.2.2
    exact ⟨h.1, h.2.1, h.2.2.1, h.2.2.2.1, ih⟩
def TurnPost (w : World) (B R : Nat) (v : Value) (r : Nat) (qs : List Pc) (e : Ending) (w' : World) : Prop :=
  e = .returned (.tuple #[]) ∧ ∃ v', Sp w' B R v' r qs ∧ Chg w w' (fun j => j = R ∨ rowOf v = some j) ∧ Lies w v v'
set_option maxHeartbeats 4000000 in
set_option maxRecDepth 100000 in
theorem turn_calls (w : World) (B R : Nat) (v : Value) (r : Nat) (ps : List Pc) (h : Sp w B R v r ps) (hB : B ≤ w.heap.size) :
    Calls Tryd.prog 32 #[.pointer (some ⟨R, 0, none⟩)] w fun e w' => TurnPost w B R v r (turnS ps) e w' := by
  have Hq := Lib.hid (deletef_calls w B v ps h.own h.len)
  have HS := Lib.hid h
  obtain ⟨A, c, hv, -⟩ := h.own
  obtain ⟨N, hN⟩ : ∃ N, ps.length = N := ⟨_, rfl⟩
  rw [hN] at hv
  subst hv
  obtain ⟨cR0, cR1, fR⟩ := h.cells
  clear h hN
  go_enter Tryd.func32, Tryd.ntmps32
  go_wp2_with fail
  refine (Hq.out).mono ?_
  rintro e W1 ⟨v', rfl, ho, hg, hl⟩
  obtain ⟨h1, h2, h3, h4⟩ := HS.out.put ho hg hl (live_wf HS.out.wf)
  obtain ⟨A', c', rfl, -⟩ : ∃ A' c', v' = .slice A' (live ps).length c' ∧ True := by
    obtain ⟨A', c', e1, _⟩ := ho
    exact ⟨A', c', e1, trivial⟩
  obtain ⟨qs, hqs⟩ : ∃ qs, live ps = qs := ⟨_, rfl⟩
  rw [hqs] at ho hl h1 h2 ⊢
  obtain ⟨M, hM⟩ : ∃ M, qs.length = M := ⟨_, rfl⟩
  rw [hM] at ho hl h1 h2 ⊢
  obtain ⟨W2, hW2⟩ : ∃ W2, W1.setCell ⟨R, 1, none⟩ (.slice A' M c') = W2 := ⟨_, rfl⟩
  rw [hW2] at h1 h2
  have HC := Lib.hid (And.intro h1 (And.intro h2 (And.intro hl (And.intro hM hqs))))
  have h0 := Lib.hid (show Sp W2 B R (.slice A' M c') r (oldN 0 qs) ∧ Chg W2 W2 (fun j => rowOf (.slice A' M c') = some j) from ⟨by unfold oldN; simpa using h1, Chg.refl _ _⟩)
  obtain ⟨cS0, cS1, fS⟩ := h1.cells
  have hMb : M ≤ 1073741824 := by rw [← hM]; exact h1.len
  clear Hq ho hg hl h1 h2 hqs hM cR0 cR1 fR
  go_wp2_with fail
  try rw [hW2]
  go_loopw [16] (fun t16 wr => ∃ i : Nat, t16 = .int .i64 (i : Int) ∧ i ≤ M ∧ Hid (Sp wr B R (.slice A' M c') r (oldN i qs) ∧ Chg W2 wr (fun j => rowOf (.slice A' M c') = some j))) (fun t16 _ => M - (intOf t16).toNat)
  case atStart => exact ⟨0, rfl, by omega, h0⟩
  case round =>
    clear h0
    rename World => wr
    obtain ⟨i, rfl, hi, H⟩ := hrel
    obtain ⟨cR0, cR1, fR⟩ := H.out.1.cells
    by_cases hlt : i < M
    · have hlti : (i : Int) < (M : Int) := by omega
      have hM := HC.out.2.2.2.1
      have hlx : i < qs.length := by omega
      obtain ⟨A2, c2, he, -, -, hrd⟩ := H.out.1.own.rd
      injection he with e1 e2 e3
      obtain ⟨g, hA, hgw, hgf, hgc⟩ := hrd i (by rw [oldN_len]; exact hlx)
      rw [← e1] at hA
      subst hA
      have hset := oldN_set hlx
      have hat := oldN_at hlx
      have hwf := oldN_wf (i + 1) (by have := HC.out.1.wf; exact this)
      rw [← hset] at hwf
      obtain ⟨s1, s2, s3, ⟨z, s4⟩, s5⟩ := H.out.1.fld (i := i) (by rw [oldN_len]; exact hlx) 4 (.bool true) (oldP qs[i]) (by omega) (by rw [hat]; rfl) hwf
      rw [hset] at s1
      have HN := Lib.hid (And.intro s1 (H.out.2.trans s2))
      clear H hM hlx e1 e2 e3 hrd hgc hset hat hwf s1 s2 s5 hgw hgf
      go_wp2_with fail
      exact ⟨⟨i + 1, by go_num, by omega, HN⟩, by simp [intOf]; omega⟩
    · obtain rfl : i = M := by omega
      have HP := Lib.hid (show TurnPost w B R (.slice A N c) r (turnS ps) (.returned (.tuple #[])) wr from by
        obtain ⟨g1, g2, g3, g4, g5⟩ := HC.out
        have hq : oldN i qs = turnS ps := by
          unfold oldN turnS
          rw [List.take_of_length_le (by omega), List.drop_of_length_le (by omega), List.append_nil, g5]
        have hs := H.out.1
        rw [hq] at hs
        refine ⟨rfl, _, hs, g2.trans2 H.out.2 (fun j hj e => ?_), g3⟩
        rcases g3 with e2 | ⟨k, e2, hk⟩
        · exact .inr (e2.symm.trans e)
        · rw [e2] at e
          cases e
          omega)
      clear H HC
      go_wp2_with fail
      refine bodyPost_ret (v := .tuple #[]) (by simp [results, Tryd.results32]) rfl ?_
      exact HP.out
end Go.Proofs.YtgkamdgegfioiaaDoor
