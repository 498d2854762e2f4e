/- The walk of the law SpaceKept. Condition: the library's variable errors.errorType holds its handle. -/
import Derived.Test.YtgkamdgegfioiaaDoorKst
import Derived.Deep.DeepCutAuto
namespace Go.Proofs.YtgkamdgegfioiaaDoor
open Go.RowKit Go.Shelf
set_option linter.unusedSimpArgs false
set_option linter.unusedVariables false
/-- what stands between two steps: a space in the box b5 -/
def KpI (w wr : World) (b5 n : Nat) : Prop := ∃ R v ps, Sp wr w.heap.size R v n ps ∧ Bx wr b5 26 #[.pointer (some ⟨R, 0, none⟩)] ∧ Below w.heap.size w wr
theorem KpI.chg {w wc W' : World} {b5 n R : Nat} {v v' : Value} {ps qs : List Pc} (hS : Sp wc w.heap.size R v n ps) (hx : Bx wc b5 26 #[.pointer (some ⟨R, 0, none⟩)]) (hb : Below w.heap.size w wc) (hs : Sp W' w.heap.size R v' n qs) (hc : Chg wc W' (fun j => j = R ∨ rowOf v = some j)) : KpI w W' b5 n ∧ Bx W' b5 26 #[.pointer (some ⟨R, 0, none⟩)] ∧ Below w.heap.size w W' := by
  have h5 : Bx W' b5 26 #[.pointer (some ⟨R, 0, none⟩)] := (hc.block b5 hx.lt (fun e => by
    rcases e with e | e
    · exact bx_ne hx hS.row (by decide) e
    · obtain ⟨_, _, C, hC⟩ := hS.own.row b5 e
      exact bx_ne hx hC (by decide) rfl)).trans hx
  have h6 : Below w.heap.size w W' := Chg.below hb hc (fun k e => hS.above k e) hb.size
  exact ⟨⟨R, v', qs, hs, h5, h6⟩, h5, h6⟩
theorem Bx.chgSp {wc W' : World} {b n R : Nat} {v : Value} {ps : List Pc} {t : TypeId} {C : Array Value} {B : Nat} (hS : Sp wc B R v n ps) (hx : Bx wc b t C) (hc : Chg wc W' (fun j => j = R ∨ rowOf v = some j)) (h1 : t ≠ 88) (h2 : t ≠ 90) : Bx W' b t C :=
  (hc.block b hx.lt (fun e => by
    rcases e with e | e
    · exact bx_ne hx hS.row h1 e
    · obtain ⟨_, _, C, hC⟩ := hS.own.row b e
      exact bx_ne hx hC h2 rfl)).trans hx
/-- what is left of a run that was dropped k times -/
def headL (p : Pc) (k : Nat) : List Pc := if k < p.cnt then [{ p with cnt := p.cnt - k }] else []
theorem headL_zero {p : Pc} (h : p.cnt ≠ 0) : headL p 0 = [p] := by
  unfold headL
  rw [if_pos (by omega)]
  rfl
theorem headL_all (p : Pc) : headL p p.cnt = [] := by
  unfold headL
  rw [if_neg (by omega)]
theorem headL_step {ps : List Pc} {p : Pc} {rest : List Pc} {k : Nat} (hk : k < p.cnt) (h : live ps = headL p k ++ rest) : (dropS (p.at_ : Int) ps).1 = 0 ∧ live (dropS (p.at_ : Int) ps).2 = headL p (k + 1) ++ rest := by
  unfold headL at h
  rw [if_pos hk] at h
  obtain ⟨h1, h2⟩ := drop_first (p := { p with cnt := p.cnt - k }) (rest := rest) h (by show p.cnt - k ≠ 0; omega)
  refine ⟨h1, ?_⟩
  rw [show (dropS (p.at_ : Int) ps).2 = (dropS (({ p with cnt := p.cnt - k } : Pc).at_ : Int) ps).2 from rfl, h2]
  unfold decL headL
  by_cases hc : p.cnt - k = 1
  · rw [if_pos hc, if_neg (by omega)]
  · rw [if_neg hc, if_pos (by omega)]
    show [({ p with cnt := p.cnt - k - 1 } : Pc)] ++ rest = _
    rw [Nat.sub_sub]
theorem OwnR.chgSp {wc W' : World} {B B2 n R : Nat} {v v2 : Value} {ps xs : List Pc} (h : OwnR wc B2 v2 xs) (hS : Sp wc B R v n ps) (hc : Chg wc W' (fun j => j = R ∨ rowOf v = some j)) : OwnR W' B2 v2 xs := by
  refine ⟨h.1, ?_⟩
  rcases h.2 with hn | ⟨g, cap, cur, rfl, hb, hgg, rest⟩
  · exact .inl hn
  · exact .inr ⟨g, cap, cur, rfl, hb, Bx.chgSp hS hgg hc (by decide) (by decide), rest⟩
set_option maxRecDepth 100000 in
set_option maxHeartbeats 8000000 in
theorem spaceKept_calls (w : World) (n : Int) (A : Option Addr) (c : Nat) (l : List StD) (hn : i64b n) (hr : RdT w A l) (hl : l.length * 48 ≤ 140737488351232) (hc : l.length ≤ c) (hok : ∀ s ∈ l, s.ok) (hg : ErrH w) :
    Calls Tryd.prog 4 #[.int .i64 n, .slice A l.length c] w fun e w' => e = .returned (.bool true) ∧ Below w.heap.size w w' := by
  have hpk := Lib.hid (pick_calls n 300 w hn.1 hn.2 (by omega) (by omega))
  obtain ⟨nn, hnn⟩ : ∃ nn : Nat, n % 300 = (nn : Int) := ⟨(n % 300).toNat, by omega⟩
  have hn300 : nn < 300 := by omega
  rw [hnn] at hpk
  have hq := Lib.hid (spaceNew_calls nn w (by omega))
  obtain ⟨N, hN⟩ : ∃ N, l.length = N := ⟨_, rfl⟩
  have HA := Lib.hid (And.intro hr (And.intro hok (And.intro hg hN)))
  rw [hN] at hl hc ⊢
  clear hr hok hg hN hnn hn
  go_enter Tryd.func4, Tryd.ntmps4
  go_wp2_with fail
  refine (hpk.out).mono ?_
  rintro e w' ⟨rfl, hw'⟩
  subst hw'
  go_wp2_with fail
  refine (hq.out).mono ?_
  rintro e W2 ⟨R, rfl, hs, hb2⟩
  obtain ⟨b5, hb5⟩ : ∃ b5, W2.heap.size = b5 := ⟨_, rfl⟩
  obtain ⟨W3, hW3⟩ : ∃ W3, W2.alloc (.cells #[.pointer (some ⟨R, 0, none⟩)] 26) = W3 := ⟨_, rfl⟩
  have h0 := Lib.hid (show KpI w W3 b5 nn from by
    rw [← hW3, ← hb5]
    exact ⟨R, _, _, hs.below ((Below.refl _ _).alloc (Nat.le_refl _) _), Bx.new _ _ _, hb2.alloc hb2.size _⟩)
  have H5 : Hid (w.heap.size ≤ b5) := Lib.hid (by rw [← hb5]; exact hb2.size)
  clear hs hb2 hpk hq
  go_wp2_with fail
  clear hb5 hW3
  have hNb : N ≤ 9223372036854775807 := by omega
  go_loopg [7] N (fun k t7 wr => ∃ i : Nat, t7 = .int .i64 (i : Int) ∧ i + k = N ∧ Hid (KpI w wr b5 nn))
  case atStart => exact ⟨0, rfl, by omega, h0⟩
  case round =>
    clear h0
    obtain ⟨i, rfl, hik, H⟩ := hrel
    by_cases hlt : i < N ∧ i < 65536
    · obtain ⟨hlt1, hlt2⟩ := hlt
      obtain ⟨hr, hok, hg, hN⟩ := HA.out
      obtain ⟨R1, v, ps, hS, hB5, hbw⟩ := H.out
      have hgr := hg.below hg.lt hbw
      obtain ⟨ad, hA, hst⟩ := (hr.below hbw) i (by omega)
      subst hA
      obtain ⟨s, hs⟩ : ∃ s, l[i]'(by omega) = s := ⟨_, rfl⟩
      have hso := hok _ (List.getElem_mem (l := l) (n := i) (by omega))
      rw [hs] at hst hso
      obtain ⟨sd, sa, sb, sc, st⟩ := s
      obtain ⟨⟨d1, d2⟩, ⟨a1, a2⟩, ⟨b1, b2⟩, ⟨c1, c2⟩⟩ := hso
      obtain ⟨z0, z1, z2, z3, z4⟩ := hst
      simp only at z0 z1 z2 z3 z4 d1 d2 a1 a2 b1 b2 c1 c2
      have HB := Lib.hid (And.intro (And.intro d1 d2) (And.intro (And.intro a1 a2) (And.intro (And.intro b1 b2) (And.intro c1 c2))))
      clear d1 d2 a1 a2 b1 b2 c1 c2
      have hi1 : (i : Int) < (N : Int) := by omega
      have hi2 : (i : Int) < 65536 := by omega
      have HR := Lib.hid (And.intro hS (And.intro hB5 (And.intro hbw (And.intro hgr hik))))
      clear hr hok hg hN hS hB5 hbw hgr hik hs H
      go_upto_region 9 with fail
      clear hi2 hlt2
      obtain ⟨b8, hb8⟩ : ∃ b8, wr.heap.size = b8 := ⟨_, rfl⟩
      obtain ⟨W8, hW8⟩ : ∃ W8, wr.alloc (.cells #[.int .i64 sd, .int .i64 sa, .int .i64 sb, .int .i64 sc, .string st] 42) = W8 := ⟨_, rfl⟩
      rw [hW8, hb8]
      obtain ⟨hS, hB5, hbw, hgr, hik⟩ := HR.out
      have hb8w : Below wr.heap.size wr W8 := by rw [← hW8]; exact (Below.refl _ _).alloc (Nat.le_refl _) _
      have hx8 : Bx W8 b8 42 #[.int .i64 sd, .int .i64 sa, .int .i64 sb, .int .i64 sc, .string st] := by rw [← hW8, ← hb8]; exact Bx.new _ _ _
      have hS8 := hS.below hb8w
      have hB58 := hB5.below hb8w hB5.lt
      have hbw8 := hbw.trans (hb8w.mono hbw.size)
      have hg8 := hgr.below hgr.lt hb8w
      have H8 := Lib.hid (show w.heap.size ≤ b8 from by rw [← hb8]; exact hbw.size)
      have H58 := Lib.hid (show b5 < b8 from by rw [← hb8]; exact hB5.lt)
      have hq := Lib.hid (show Calls Tryd.prog 13 #[.agg #[.pointer (some ⟨R1, 0, none⟩)], .int .i64 0] W8 fun e w' => LsPost W8 ps 0 e w' from pRuns_calls W8 _ R1 nn 0 v ps hS8 (by omega))
      have e5 : W8.cell? ⟨b5, 0, none⟩ = some (.pointer (some ⟨R1, 0, none⟩)) := hB58.cell 0
      have HS8 := Lib.hid (And.intro hS8 (And.intro hx8 (And.intro hB58 (And.intro hbw8 hg8))))
      have Hik := Lib.hid hik
      clear hS hB5 hbw hgr hik HR hb8w hx8 hS8 hB58 hbw8 hg8 z0 z1 z2 z3 z4 hb8 hW8
      clear wr
      go_wp2_with fail
      refine (hq.out).mono ?_
      rintro e W9 ⟨v6, v7, rfl, ho6, ho7, hb⟩
      obtain ⟨A6, c6, rfl, -, -, -⟩ := ho6.rd
      rw [List.take_zero]
      obtain ⟨A7, c7, rfl, hc71, hc72, hrd7⟩ := ho7.rd
      obtain ⟨hS8, hx8, hB58, hbw8, hg8⟩ := HS8.out
      have hS9 := hS8.below hb
      have hx9 := hx8.below hb hx8.lt
      have hB9 := hB58.below hb hB58.lt
      have hbw9 := hbw8.trans (hb.mono hbw8.size)
      have hg9 := hg8.below hg8.lt hb
      obtain ⟨xs, hxs⟩ : ∃ xs, live ps = xs := ⟨_, rfl⟩
      rw [hxs] at hc71 hrd7 ⊢
      obtain ⟨M, hM⟩ : ∃ M, xs.length = M := ⟨_, rfl⟩
      have hMb : M ≤ nn := by rw [← hM, ← hxs]; have := (live_wf hS8.wf).len; omega
      have hat7 : ∀ j (hj : j < xs.length), xs[j].at_ ≤ nn := fun j hj => by
        have := (live_wf hS8.wf).all xs[j] (by rw [hxs]; exact List.getElem_mem hj)
        have h2 := this.2.2.2.2
        unfold Pc.fin at h2
        omega
      rw [hM] at hc71 ⊢
      have hc73 : c7 ≤ 9223372036854775807 := by unfold maxLen at hc72; omega
      have hp1 := Lib.hid (pick_calls sa ((nn : Int) + 1) W9 HB.out.2.1.1 HB.out.2.1.2 (by omega) (by omega))
      have e81 : W9.cell? ⟨b8, 1, none⟩ = some (.int .i64 sa) := hx9.cell 1
      have e80 : W9.cell? ⟨b8, 0, none⟩ = some (.int .i64 sd) := hx9.cell 0
      have HS9 := Lib.hid (And.intro hS9 (And.intro hx9 (And.intro hB9 (And.intro hbw9 (And.intro hg9 (And.intro hrd7 (And.intro hM hat7)))))))
      clear hS8 hx8 hB58 hbw8 hg8 hS9 hx9 hB9 hbw9 hg9 hrd7 hM hat7 hxs ho6 ho7 hb hc72 e5 HS8 hq
      go_wp2_with fail
      refine (hp1.out).mono ?_
      rintro e W9' ⟨rfl, hw'⟩
      subst hw'
      obtain ⟨k1, hk1⟩ : ∃ k1 : Nat, sa % ((nn : Int) + 1) = (k1 : Int) := ⟨(sa % ((nn : Int) + 1)).toNat, by have := Int.emod_nonneg sa (b := (nn : Int) + 1) (by omega); omega⟩
      have hk1b : k1 ≤ nn := by have := Int.emod_lt_of_pos sa (b := (nn : Int) + 1) (by omega); omega
      rw [hk1]
      have Hk1 := Lib.hid hk1
      clear hp1 hk1
      go_upto_if 55 with fail
      go_cut [11] from 29 to 135 (fun t11 wc => Hid (∃ k : Nat, k ≤ nn ∧ t11 = .int .i64 (k : Int) ∧ wc = W9))
      case first =>
        rename_i hJ hMt
        have HJ := PLift.up hJ
        clear hJ
        by_cases hM0 : 0 < M
        · obtain ⟨-, -, -, -, -, hrd7, hM, hat7⟩ := HS9.out
          have hM0i : (0 : Int) < (M : Int) := by omega
          have hp2 := Lib.hid (pick_calls sa (M : Int) W9 HB.out.2.1.1 HB.out.2.1.2 (by omega) (by omega))
          obtain ⟨k2, hk2⟩ : ∃ k2 : Nat, sa % (M : Int) = (k2 : Int) := ⟨(sa % (M : Int)).toNat, by have := Int.emod_nonneg sa (b := (M : Int)) (by omega); omega⟩
          have hk2b : (k2 : Int) < (M : Int) := by have := Int.emod_lt_of_pos sa (b := (M : Int)) (by omega); omega
          rw [hk2] at hp2
          have hlx : k2 < xs.length := by omega
          obtain ⟨g, hA, hgw, hgc⟩ := hrd7 k2 hlx
          subst hA
          have hle := hat7 k2 hlx
          obtain ⟨p, hp⟩ : ∃ p, xs[k2] = p := ⟨_, rfl⟩
          rw [hp] at hgc hle
          have g0 : W9.cell? ⟨g, k2 * 4, none⟩ = some (.int .i64 (p.at_ : Int)) := hgc 0 (by omega)
          clear hrd7 hM hat7 hk2 hlx hgc hp
          go_wp2_with fail
          refine (hp2.out).mono ?_
          rintro e W9' ⟨rfl, hw'⟩
          subst hw'
          go_wp2_with fail
          have hJ := HJ.down
          go_meet
          case rel => exact Lib.hid ⟨p.at_, hle, rfl, rfl⟩
        · have hM0i : ¬ (0 : Int) < (M : Int) := by omega
          go_wp2_with fail
          have hJ := HJ.down
          go_meet
          case rel => exact Lib.hid ⟨k1, hk1b, rfl, rfl⟩
      case rest =>
        obtain ⟨k, hkb, rfl, rfl⟩ := hcut.out
        clear Hk1 hk1b
        clear k1
        have hp8 := pick_calls sd 8 wc HB.out.1.1 HB.out.1.2 (by omega) (by omega)
        obtain ⟨d, hd⟩ : ∃ d : Int, sd % 8 = d := ⟨_, rfl⟩
        have hd0 : 0 ≤ d := by omega
        have hd8 : d < 8 := by omega
        rw [hd] at hp8
        have hp8 := Lib.hid hp8
        clear hd hcut
        go_step
        go_step
        go_cut [] from 29 to 135 (fun we => Hid (KpI w we b5 nn))
        case first =>
          rename_i hJ hMt
          have HJ := PLift.up hJ
          clear hJ
          have hdd : (d = 0 ∨ d = 1 ∨ d = 2) ∨ (d = 3 ∨ d = 4) ∨ d = 5 ∨ d = 6 ∨ d = 7 := by omega
          obtain ⟨hS9, hx9, hB9, hbw9, hg9, hrd7, hM, hat7⟩ := HS9.out
          have e5 : wc.cell? ⟨b5, 0, none⟩ = some (.pointer (some ⟨R1, 0, none⟩)) := hB9.cell 0
          have hgw : 0 < w.heap.size := HA.out.2.2.1.lt
          clear hrd7 hM hat7
          rcases hdd with hdd | hdd | rfl | rfl | rfl
          · have hBb : 0 ≤ sb % 9 ∧ sb % 9 < 9 := by omega
            obtain ⟨n2, hn2⟩ : ∃ n2 : Nat, sb % 9 = (n2 : Int) := ⟨(sb % 9).toNat, by omega⟩
            obtain ⟨tg, htg⟩ : ∃ tg : Nat, IntKind.u64.wrap sc = (tg : Int) := ⟨(IntKind.u64.wrap sc).toNat, by rw [IntKind.wrap_u64]; omega⟩
            have htg2 : tg < 18446744073709551616 := by
              have := htg
              rw [IntKind.wrap_u64] at this
              omega
            have hp9 := fun W => pick_calls sb 9 W HB.out.2.2.1.1 HB.out.2.2.1.2 (by omega) (by omega)
            rw [hn2] at hp9
            have hp9 := Lib.hid hp9
            have hT := pTake_calls wc.drew _ R1 v nn ps (n2 + 1) tg (hS9.below (Below.refl _ _).drew) hbw9.size (by omega) (by omega) htg2 hg9 hgw
            have hT := Lib.hid (show Calls Tryd.prog 8 #[.agg #[.pointer (some ⟨R1, 0, none⟩)], .int .i64 ((n2 : Int) + 1), .int .u64 (tg : Int)] wc.drew fun e w' => (∃ k c : Int, e = .returned (.tuple #[.int .i64 k, .int .i64 c]) ∧ ((c = 8 ∧ 0 ≤ k) ∨ (c = 0 ∧ 0 ≤ k ∧ k < nn))) ∧ Hid (KpI w w' b5 nn ∧ Bx w' b5 26 #[.pointer (some ⟨R1, 0, none⟩)] ∧ Bx w' b8 42 #[.int .i64 sd, .int .i64 sa, .int .i64 sb, .int .i64 sc, .string st]) from hT.mono (fun e w' hp => by
              have hSd : Sp wc.drew w.heap.size R1 v nn ps := hS9.below (Below.refl _ _).drew
              have hxd : Bx wc.drew b8 42 #[.int .i64 sd, .int .i64 sa, .int .i64 sb, .int .i64 sc, .string st] := hx9
              have hBd : Bx wc.drew b5 26 #[.pointer (some ⟨R1, 0, none⟩)] := hB9
              unfold PTakePost at hp
              cases ho : insF nn (n2 + 1) tg 0 ps with
              | none =>
                rw [ho] at hp
                obtain ⟨rfl, hb⟩ := hp
                have h5 := hBd.below hb hBd.lt
                exact ⟨⟨0, 8, rfl, .inl ⟨rfl, by omega⟩⟩, ⟨R1, v, ps, hSd.below hb, h5, hbw9.drew.trans (hb.mono hbw9.size)⟩, h5, hxd.below hb hxd.lt⟩
              | some kq =>
                obtain ⟨k, qs'⟩ := kq
                rw [ho] at hp
                obtain ⟨rfl, v', hsp, hcg, -⟩ := hp
                have hw := insF_wf (by omega) htg2 ps 0 _ _ hS9.wf ho
                obtain ⟨r1, r2, r3⟩ := KpI.chg hSd hBd hbw9.drew hsp hcg
                exact ⟨⟨k, 0, rfl, .inr ⟨rfl, by omega, by omega⟩⟩, r1, r2, Bx.chgSp hSd hxd hcg (by decide) (by decide)⟩))
            have q1 : wc.drew.cell? ⟨b5, 0, none⟩ = some (.pointer (some ⟨R1, 0, none⟩)) := e5
            have q2 : wc.drew.cell? ⟨b8, 2, none⟩ = some (.int .i64 sb) := hx9.cell 2
            have q3 : wc.drew.cell? ⟨b8, 3, none⟩ = some (.int .i64 sc) := hx9.cell 3
            have Htg := Lib.hid htg
            have hw1 : IntKind.i64.wrap (1 + (n2 : Int)) = (n2 : Int) + 1 := by rw [IntKind.wrap_i64, Int.emod_eq_of_lt (by omega) (by omega)]; omega
            have Hw1 := Lib.hid hw1
            clear hS9 hx9 hB9 hbw9 hg9 HS9 htg hn2 hBb htg2 hw1
            rcases hdd with rfl | rfl | rfl
            all_goals
              go_wp2_with fail
              refine (hp8.out).mono ?_
              rintro e W9' ⟨rfl, hw'⟩
              subst hw'
              go_upto_region 21 with fail
              refine wp_region_held (S := fun X => X.cell? ⟨b5, 0, none⟩ = some (.pointer (some ⟨R1, 0, none⟩)) ∧ X.cell? ⟨b8, 2, none⟩ = some (.int .i64 sb) ∧ X.cell? ⟨b8, 3, none⟩ = some (.int .i64 sc)) (by kernel_rfl) (show wpAnyH _ _ _ _ _ _ _ _ wc.drew from ?_)
              have hHeld : (fun X => X.cell? ⟨b5, 0, none⟩ = some (.pointer (some ⟨R1, 0, none⟩)) ∧ X.cell? ⟨b8, 2, none⟩ = some (.int .i64 sb) ∧ X.cell? ⟨b8, 3, none⟩ = some (.int .i64 sc)) wc.drew := ⟨q1, q2, q3⟩
              refine wpAnyH_take (i := 0) (v := ?_) rfl (by kernel_rfl) (by kernel_rfl) (by kernel_rfl) (fun _ _ _ h => h) (Or.inl ⟨by kernel_rfl, ?_⟩) (by assumption) ?_
              rotate_left
              · rintro w ⟨q1, q2, q3⟩; go_simp; (try with_reducible rfl)
              try simp only [Act.put, List.setIfInBounds_toArray, List.set_cons_zero, List.set_cons_succ]
              refine wpAnyH_take (i := 1) (v := ?_) rfl (by kernel_rfl) (by kernel_rfl) (by kernel_rfl) (fun _ _ _ h => h) (Or.inl ⟨by kernel_rfl, ?_⟩) (by assumption) ?_
              rotate_left
              · rintro w ⟨q1, q2, q3⟩; go_simp; (try with_reducible rfl)
              try simp only [Act.put, List.setIfInBounds_toArray, List.set_cons_zero, List.set_cons_succ]
              refine wpAnyH_take (i := 2) (v := ?_) rfl (by kernel_rfl) (by kernel_rfl) (by kernel_rfl) (fun _ _ _ h => h) (Or.inl ⟨by kernel_rfl, ?_⟩) (by assumption) ?_
              rotate_left
              · rintro w ⟨q1, q2, q3⟩; go_simp; (try with_reducible rfl)
              try simp only [Act.put, List.setIfInBounds_toArray, List.set_cons_zero, List.set_cons_succ]
              refine wpAnyH_take (i := 5) (v := ?_) rfl (by kernel_rfl) (by kernel_rfl) (by kernel_rfl) (fun _ _ _ h => h) (Or.inl ⟨by kernel_rfl, ?_⟩) (by assumption) ?_
              rotate_left
              · rintro w ⟨q1, q2, q3⟩; go_simp; (try with_reducible rfl)
              try simp only [Act.put, List.setIfInBounds_toArray, List.set_cons_zero, List.set_cons_succ]
              refine wpAnyH_take (i := 6) (v := ?_) rfl (by kernel_rfl) (by kernel_rfl) (by kernel_rfl) (fun _ _ _ h => h) (Or.inl ⟨by kernel_rfl, ?_⟩) (by assumption) ?_
              rotate_left
              · rintro w ⟨q1, q2, q3⟩; go_simp; (try with_reducible rfl)
              try simp only [Act.put, List.setIfInBounds_toArray, List.set_cons_zero, List.set_cons_succ]
              refine wpAnyH_take (i := 7) (v := ?_) rfl (by kernel_rfl) (by kernel_rfl) (by kernel_rfl) (fun _ _ _ h => h) (Or.inl ⟨by kernel_rfl, ?_⟩) (by assumption) ?_
              rotate_left
              · rintro w ⟨q1, q2, q3⟩; go_simp; (try with_reducible rfl)
              try simp only [Act.put, List.setIfInBounds_toArray, List.set_cons_zero, List.set_cons_succ]
              refine wpAnyH_ready (rs := [3]) (by kernel_rfl) (by simp) ?_
              refine AllReadyH.cons rfl (fun K hK => ?_) AllReadyH.nil
              go_simp
              refine (hp9.out _).mono ?_
              rintro e w' ⟨rfl, hw'⟩
              subst hw'
              refine hK.out _ _ ⟨q1, q2, q3⟩ (fun hHeld2 => ?_)
              clear hK K
              try simp only [Act.put, List.setIfInBounds_toArray, List.set_cons_zero, List.set_cons_succ]
              refine wpAnyH_take (i := 4) (v := ?_) rfl (by kernel_rfl) (by kernel_rfl) (by kernel_rfl) (fun _ _ _ h => h) (Or.inl ⟨by kernel_rfl, ?_⟩) (by assumption) ?_
              rotate_left
              · rintro w ⟨q1, q2, q3⟩; go_simp; (try with_reducible rfl)
              try simp only [Act.put, List.setIfInBounds_toArray, List.set_cons_zero, List.set_cons_succ]
              refine wpAnyH_ready (rs := [8]) (by kernel_rfl) (by simp) ?_
              refine AllReadyH.cons rfl (fun K hK => ?_) AllReadyH.nil
              go_simp
              rw [Hw1.out, Htg.out]
              refine (hT.out).mono ?_
              rintro e w' ⟨⟨k0, c0, rfl, hk0⟩, HTT⟩
              refine hK.out _ _ ⟨HTT.out.2.1.cell 0, HTT.out.2.2.cell 2, HTT.out.2.2.cell 3⟩ (fun hHeld3 => ?_)
              clear hK K hHeld hHeld2
              try simp only [Act.put, List.setIfInBounds_toArray, List.set_cons_zero, List.set_cons_succ]
              refine wpAnyH_take (i := 9) (v := ?_) rfl (by kernel_rfl) (by kernel_rfl) (by kernel_rfl) (fun _ _ _ h => h) (Or.inl ⟨by kernel_rfl, ?_⟩) (by assumption) ?_
              rotate_left
              · rintro w ⟨q1, q2, q3⟩; go_simp; (try with_reducible rfl)
              try simp only [Act.put, List.setIfInBounds_toArray, List.set_cons_zero, List.set_cons_succ]
              refine wpAnyH_take (i := 10) (v := ?_) rfl (by kernel_rfl) (by kernel_rfl) (by kernel_rfl) (fun _ _ _ h => h) (Or.inl ⟨by kernel_rfl, ?_⟩) (by assumption) ?_
              rotate_left
              · rintro w ⟨q1, q2, q3⟩; go_simp; (try with_reducible rfl)
              try simp only [Act.put, List.setIfInBounds_toArray, List.set_cons_zero, List.set_cons_succ]
              refine wpAnyH_take (i := 11) (v := ?_) rfl (by kernel_rfl) (by kernel_rfl) (by kernel_rfl) (fun _ _ _ h => h) (Or.inl ⟨by kernel_rfl, ?_⟩) (by assumption) ?_
              rotate_left
              · rintro w ⟨q1, q2, q3⟩; go_simp; (try with_reducible rfl)
              try simp only [Act.put, List.setIfInBounds_toArray, List.set_cons_zero, List.set_cons_succ]
              refine wpAnyH_take (i := 12) (v := ?_) rfl (by kernel_rfl) (by kernel_rfl) (by kernel_rfl) (fun _ _ _ h => h) (Or.inl ⟨by kernel_rfl, ?_⟩) (by assumption) ?_
              rotate_left
              · rintro w ⟨q1, q2, q3⟩; go_simp; (try with_reducible rfl)
              try simp only [Act.put, List.setIfInBounds_toArray, List.set_cons_zero, List.set_cons_succ]
              refine wpAnyH_take (i := 13) (v := ?_) rfl (by kernel_rfl) (by kernel_rfl) (by kernel_rfl) (fun _ _ _ h => h) (Or.inl ⟨by kernel_rfl, ?_⟩) (by assumption) ?_
              rotate_left
              · rintro w ⟨q1, q2, q3⟩; go_simp; (try with_reducible rfl)
              try simp only [Act.put, List.setIfInBounds_toArray, List.set_cons_zero, List.set_cons_succ]
              refine wpAnyH_done (by kernel_rfl) ?_ _
              have HR := Lib.hid HTT.out.1
              clear hHeld3 HTT hT q1 q2 q3
              rcases hk0 with ⟨rfl, g1⟩ | ⟨rfl, g1, g2⟩
              all_goals
                go_wp2_with fail
                have hJ := HJ.down
                go_meet
                case rel => exact HR
          · have Hq := Lib.hid (pDrop_calls wc _ R1 v nn ps (k : Int) hS9 hg9 hgw)
            have HX := Lib.hid (And.intro hS9 (And.intro hB9 hbw9))
            clear hS9 hx9 hB9 hbw9 hg9 HS9
            rcases hdd with rfl | rfl
            all_goals
              go_wp2_with fail
              refine (hp8.out).mono ?_
              rintro e W9' ⟨rfl, hw'⟩
              subst hw'
              go_wp2_with fail
              refine (Hq.out).mono ?_
              rintro e W10 ⟨rfl, v', hs', hc', -⟩
              have HR := Lib.hid (KpI.chg HX.out.1 HX.out.2.1 HX.out.2.2 hs' hc').1
              clear hs' hc'
              go_wp2_with fail
              have hJ := HJ.down
              go_meet
              case rel => exact HR
          · have Hq := Lib.hid (pShare_calls wc _ R1 v nn ps (k : Int) hS9 hg9 hgw)
            have HX := Lib.hid (And.intro hS9 (And.intro hB9 hbw9))
            clear hS9 hx9 hB9 hbw9 hg9 HS9
            go_wp2_with fail
            refine (hp8.out).mono ?_
            rintro e W9' ⟨rfl, hw'⟩
            subst hw'
            go_wp2_with fail
            refine (Hq.out).mono ?_
            rintro e W10 ⟨rfl, v', hs', hc', -⟩
            have HR := Lib.hid (KpI.chg HX.out.1 HX.out.2.1 HX.out.2.2 hs' hc').1
            clear hs' hc'
            go_wp2_with fail
            have hJ := HJ.down
            go_meet
            case rel => exact HR
          · have Hq := Lib.hid (pTurn_calls wc _ R1 v nn ps hS9 hbw9.size)
            have HX := Lib.hid (And.intro hS9 (And.intro hB9 hbw9))
            clear hS9 hx9 hB9 hbw9 hg9 HS9
            go_wp2_with fail
            refine (hp8.out).mono ?_
            rintro e W9' ⟨rfl, hw'⟩
            subst hw'
            go_wp2_with fail
            refine (Hq.out).mono ?_
            rintro e W10 ⟨rfl, v', hs', hc', -⟩
            have HR := Lib.hid (KpI.chg HX.out.1 HX.out.2.1 HX.out.2.2 hs' hc').1
            clear hs' hc'
            go_wp2_with fail
            have hJ := HJ.down
            go_meet
            case rel => exact HR
          · have Hq := Lib.hid (pBytes_calls wc _ R1 nn v ps hS9)
            have HX := Lib.hid (And.intro hS9 (And.intro hB9 (And.intro hbw9 hg9)))
            clear hS9 hx9 hB9 hbw9 hg9 HS9
            go_wp2_with fail
            refine (hp8.out).mono ?_
            rintro e W9' ⟨rfl, hw'⟩
            subst hw'
            go_wp2_with fail
            refine (Hq.out).mono ?_
            rintro e W10 ⟨vv, rfl, ho, hb10⟩
            obtain ⟨hS9, hB9, hbw9, hg9⟩ := HX.out
            obtain ⟨A1, cc, rfl, hr1, hcc, hcm, hA1⟩ := ho.form
            have hg4 : 4 ≤ (bytesS nn ps).length → ∃ g, A1 = some ⟨g, 0, none⟩ := fun h4 => by
              rcases ho.2 with ⟨e2, hn⟩ | ⟨g, cap, cur, e2, _⟩
              · omega
              · injection e2 with a1 _ _
                exact ⟨g, a1⟩
            have hlen := bytesS_len nn ps
            have hlv := (live_wf hS9.wf).len
            have hg10 := hg9.below hg9.lt hb10
            have Hl := pLoad_calls W10 A1 cc _ hg4 hcc hr1 (by omega) hg10
            unfold PLoadPost at Hl
            rw [loadS_bytes hS9.wf (by omega)] at Hl
            obtain ⟨L, hL⟩ : ∃ L, (bytesS nn ps).length = L := ⟨_, rfl⟩
            rw [hL] at Hl ⊢
            have Hl := Lib.hid Hl
            have hb11 := hbw9.trans (hb10.mono hbw9.size)
            have hB10 := hB9.below hb10 hB9.lt
            have HY := Lib.hid (And.intro hB10 hb11)
            clear hS9 hB9 hbw9 hg9 ho hr1 hcc hcm hA1 hg4 hlen hlv hg10 hb10 hL hb11 hB10 HX Hq
            go_wp2_with fail
            refine (Hl.out).mono ?_
            rintro e W11 ⟨R3, v3, rfl, hs3, hb3⟩
            obtain ⟨hB10, hb11⟩ := HY.out
            have hB11 := hB10.below hb3 hB10.lt
            have hb12 := hb11.trans (hb3.mono hb11.size)
            obtain ⟨b14, hb14⟩ : ∃ b14, W11.heap.size = b14 := ⟨_, rfl⟩
            obtain ⟨W12, hW12⟩ : ∃ W12, W11.alloc (.cells #[.pointer (some ⟨R3, 0, none⟩)] 26) = W12 := ⟨_, rfl⟩
            have f0 : W12.cell? ⟨b14, 0, none⟩ = some (.pointer (some ⟨R3, 0, none⟩)) := by
              rw [← hW12, ← hb14]
              exact (Bx.new _ _ _).cell 0
            have hB12 : Bx W12 b5 26 #[.pointer (some ⟨R1, 0, none⟩)] := by rw [← hW12]; exact hB11.alloc _
            have f1 : W12.cell? ⟨b5, 0, none⟩ = some (.pointer (some ⟨R1, 0, none⟩)) := hB12.cell 0
            have f2 : W12.frozen? ⟨b5, 0, none⟩ = false := hB12.frozen 0
            have HR := Lib.hid (show KpI w (W12.setCell ⟨b5, 0, none⟩ (.pointer (some ⟨R3, 0, none⟩))) b5 nn from by
              have hs12 : Sp W12 W10.heap.size R3 v3 nn ((live ps).map oldP) := by rw [← hW12]; exact hs3.below ((Below.refl _ _).alloc (Nat.le_refl _) _)
              have hb13 : Below w.heap.size w W12 := by rw [← hW12]; exact hb12.alloc hb12.size _
              have h5w : b5 < W10.heap.size := hB10.lt
              refine ⟨R3, v3, _, (hs12.mono hb11.size).kept (Chg.setCell W12 b5 0 _) (by have := hs12.hR; omega) (fun k hk e => ?_), hB12.set 0 _, hb13.setCell H5.out _⟩
              have := (hs12.own.row k hk).1
              omega)
            clear hB10 hb11 hB11 hb12 hs3 hb3 hB12 HY Hl
            go_wp2_with fail
            try rw [hb14]
            try rw [hW12]
            clear hb14 hW12
            go_wp2_with fail
            have hJ := HJ.down
            go_meet
            case rel => exact HR
        case rest =>
          obtain ⟨R2, v2, qs, hS2, hB2, hb2⟩ := hcut.out
          have e5 : wc.cell? ⟨b5, 0, none⟩ = some (.pointer (some ⟨R2, 0, none⟩)) := hB2.cell 0
          have hq := Lib.hid (sound_calls wc _ R2 nn v2 qs hS2)
          have HN := Lib.hid (And.intro hS2 (And.intro hB2 hb2))
          clear hS2 hB2 hb2 hcut hp8 HS9 e80 e81
          go_wp2_with fail
          refine (hq.out).mono ?_
          rintro e W9' ⟨rfl, hb⟩
          have HN2 := Lib.hid (show KpI w W9' b5 nn from ⟨R2, v2, qs, HN.out.1.below hb, HN.out.2.1.below hb HN.out.2.1.lt, HN.out.2.2.trans (hb.mono HN.out.2.2.size)⟩)
          have hgk : gk - 1 < gk := by have := Hik.out; omega
          have Hik2 := Lib.hid (show i + 1 + (gk - 1) = N by have := Hik.out; omega)
          clear hb HN hq
          go_wp2_with fail
          go_roundg (gk - 1)
          case measure => exact hgk
          case rel => exact ⟨i + 1, by go_num, Hik2.out, HN2⟩
    · obtain ⟨R1, v, ps, hS, hB5, hbw⟩ := H.out
      have hgr := HA.out.2.2.1.below HA.out.2.2.1.lt hbw
      have hgw : 0 < w.heap.size := HA.out.2.2.1.lt
      have hq := Lib.hid (show Calls Tryd.prog 13 #[.agg #[.pointer (some ⟨R1, 0, none⟩)], .int .i64 0] wr fun e w' => LsPost wr ps 0 e w' from pRuns_calls wr _ R1 nn 0 v ps hS (by omega))
      have e5 : wr.cell? ⟨b5, 0, none⟩ = some (.pointer (some ⟨R1, 0, none⟩)) := hB5.cell 0
      have HS := Lib.hid (And.intro hS (And.intro hB5 (And.intro hbw (And.intro hgr hgw))))
      have hend : (N : Int) ≤ (i : Int) ∨ ((i : Int) < (N : Int) ∧ decide (i < 65536) = false ∧ decide ((i : Int) < 65536) = false) := by
        by_cases h : i < N
        · exact .inr ⟨by omega, decide_eq_false (by omega), decide_eq_false (by omega)⟩
        · exact .inl (by omega)
      clear hS hB5 hbw hgr hgw hik H hlt
      rcases hend with hend | ⟨hend, hd1, hd2⟩
      all_goals
        go_upto_region 33 with fail
        (try clear hd1 hd2)
        clear hend
        go_wp2_with fail
        refine (hq.out).mono ?_
        rintro e W9 ⟨v6, v7, rfl, ho6, ho7, hb⟩
        obtain ⟨A6, c6, rfl, -, -, -⟩ := ho6.rd
        rw [List.take_zero]
        obtain ⟨A7, c7, rfl, hc71, hc72, hrd7⟩ := ho7.rd
        obtain ⟨hS, hB5, hbw, hgr, hgw⟩ := HS.out
        have hS9 := hS.below hb
        have hB9 := hB5.below hb hB5.lt
        have hbw9 := hbw.trans (hb.mono hbw.size)
        have hg9 := hgr.below hgr.lt hb
        obtain ⟨xs, hxs⟩ : ∃ xs, live ps = xs := ⟨_, rfl⟩
        rw [hxs] at hc71 ho7 ⊢
        obtain ⟨M, hM⟩ : ∃ M, xs.length = M := ⟨_, rfl⟩
        have hMb : M ≤ nn := by rw [← hM, ← hxs]; have := (live_wf hS9.wf).len; omega
        have hwf7 : Wf nn 0 xs := by rw [← hxs]; exact live_wf hS9.wf
        have hcnt7 : ∀ p ∈ xs, p.cnt ≠ 0 := by rw [← hxs]; exact live_cnt
        obtain ⟨B7, hB7⟩ : ∃ B7, wr.heap.size = B7 := ⟨_, rfl⟩
        rw [hB7] at ho7
        have h0 := Lib.hid (show ∃ v ps', Sp W9 w.heap.size R1 v nn ps' ∧ Bx W9 b5 26 #[.pointer (some ⟨R1, 0, none⟩)] ∧ Below w.heap.size w W9 ∧ ErrH W9 ∧ OwnR W9 B7 (.slice A7 xs.length c7) xs ∧ live ps' = xs.drop 0 from ⟨v, ps, hS9, hB9, hbw9, hg9, ho7, hxs⟩)
        have H7 := Lib.hid (And.intro hM (And.intro hwf7 (And.intro hcnt7 hgw)))
        rw [hM] at hc71 ⊢
        have hc73 : c7 ≤ 9223372036854775807 := by unfold maxLen at hc72; omega
        clear hS hB5 hbw hgr hgw hS9 hB9 hbw9 hg9 hxs hM hwf7 hcnt7 hB7 ho6 ho7 hb hc72 hrd7 e5 HS hq
        go_wp2_with fail
        go_loopg [18] M (fun k t18 wx => ∃ j : Nat, t18 = .int .i64 (j : Int) ∧ j + k = M ∧ Hid (∃ v ps', Sp wx w.heap.size R1 v nn ps' ∧ Bx wx b5 26 #[.pointer (some ⟨R1, 0, none⟩)] ∧ Below w.heap.size w wx ∧ ErrH wx ∧ OwnR wx B7 (.slice A7 xs.length c7) xs ∧ live ps' = xs.drop j))
        case atStart => exact ⟨0, rfl, by omega, h0⟩
        case round =>
          clear h0
          obtain ⟨j, rfl, hjk, H⟩ := hrel
          by_cases hjM : j < M
          · have hjMi : (j : Int) < (M : Int) := by omega
            obtain ⟨hM, hwf7, hcnt7, hgw⟩ := H7.out
            have hlx : j < xs.length := by omega
            obtain ⟨p, hp⟩ : ∃ p, xs[j] = p := ⟨_, rfl⟩
            have hpw := hwf7.all xs[j] (List.getElem_mem hlx)
            have hpc := hcnt7 xs[j] (List.getElem_mem hlx)
            rw [hp] at hpw hpc
            obtain ⟨v, ps', hS, hB, hbw, hg, ho, hl⟩ := H.out
            have hd : xs.drop j = p :: xs.drop (j + 1) := by rw [List.drop_eq_getElem_cons hlx, hp]
            obtain ⟨A', c', he, -, -, hrd⟩ := ho.rd
            injection he with he1 he2 he3
            clear he2 he3
            obtain ⟨g, hA, -, -⟩ := hrd j hlx
            rw [← he1] at hA
            subst hA
            obtain ⟨cn, hcn⟩ : ∃ cn, p.cnt = cn := ⟨_, rfl⟩
            obtain ⟨pa, hpa⟩ : ∃ pa, p.at_ = pa := ⟨_, rfl⟩
            have hcb : cn ≤ 65535 := by rw [← hcn]; exact hpw.2.2.1
            have HP := Lib.hid (And.intro hp (And.intro hcn (And.intro hpa (And.intro hM (And.intro hgw hlx)))))
            obtain rfl : gk = M - j := by omega
            have h0 := Lib.hid (show ∃ v ps', Sp wr w.heap.size R1 v nn ps' ∧ Bx wr b5 26 #[.pointer (some ⟨R1, 0, none⟩)] ∧ Below w.heap.size w wr ∧ ErrH wr ∧ OwnR wr B7 (.slice (some ⟨g, 0, none⟩) xs.length c7) xs ∧ live ps' = headL p 0 ++ xs.drop (j + 1) from ⟨v, ps', hS, hB, hbw, hg, ho, by rw [hl, hd, headL_zero hpc]; rfl⟩)
            clear hM hwf7 hcnt7 hgw hp hpw hpc hS hB hbw hg ho hl hd he1 hrd hcn hpa hjk H
            have hcn1 : (0 : Int) ≤ (cn : Int) := by omega
            go_wp2_with fail
            go_loopg [19] cn (fun k t19 wy => ∃ q : Nat, t19 = .int .i64 (q : Int) ∧ q + k = cn ∧ Hid (∃ v ps', Sp wy w.heap.size R1 v nn ps' ∧ Bx wy b5 26 #[.pointer (some ⟨R1, 0, none⟩)] ∧ Below w.heap.size w wy ∧ ErrH wy ∧ OwnR wy B7 (.slice (some ⟨g, 0, none⟩) xs.length c7) xs ∧ live ps' = headL p q ++ xs.drop (j + 1)))
            case atStart => exact ⟨0, rfl, by omega, h0⟩
            case round =>
              clear h0
              obtain ⟨q, rfl, hqk, H⟩ := hrel
              obtain ⟨hp, hcn, hpa, hM, hgw, -⟩ := HP.out
              obtain ⟨v, ps', hS, hB, hbw, hg, ho, hl⟩ := H.out
              obtain ⟨A', c', he, -, -, hrd⟩ := ho.rd
              injection he with he1 he2 he3
              clear he2 he3
              obtain ⟨g2, hA, -, hgc⟩ := hrd j hlx
              rw [← he1] at hA
              cases hA
              rw [hp] at hgc
              have c0 : wr.cell? ⟨g, j * 4, none⟩ = some (.int .i64 (pa : Int)) := by rw [← hpa]; exact hgc 0 (by omega)
              have c2 : wr.cell? ⟨g, j * 4 + 2, none⟩ = some (.int .i64 (cn : Int)) := by rw [← hcn]; exact hgc 2 (by omega)
              have e5 : wr.cell? ⟨b5, 0, none⟩ = some (.pointer (some ⟨R1, 0, none⟩)) := hB.cell 0
              by_cases hqc : q < cn
              · have hqci : (q : Int) < (cn : Int) := by omega
                obtain ⟨hs1, hs2⟩ := headL_step (k := q) (by omega) hl
                have hD := pDrop_calls wr.drew _ R1 v nn ps' (p.at_ : Int) (hS.below (Below.refl _ _).drew) hg hgw
                have hD := Lib.hid (show Calls Tryd.prog 14 #[.agg #[.pointer (some ⟨R1, 0, none⟩)], .int .i64 (pa : Int)] wr.drew fun e w' => e = .returned (.int .i64 0) ∧ Hid (∃ v ps', Sp w' w.heap.size R1 v nn ps' ∧ Bx w' b5 26 #[.pointer (some ⟨R1, 0, none⟩)] ∧ Below w.heap.size w w' ∧ ErrH w' ∧ OwnR w' B7 (.slice (some ⟨g, 0, none⟩) xs.length c7) xs ∧ live ps' = headL p (q + 1) ++ xs.drop (j + 1)) from by
                  rw [← hpa]
                  exact hD.mono (fun e w' hp => by
                    obtain ⟨he, v', hs, hc, -⟩ := hp
                    rw [hs1] at he
                    have hSd : Sp wr.drew w.heap.size R1 v nn ps' := hS.below (Below.refl _ _).drew
                    have hBd : Bx wr.drew b5 26 #[.pointer (some ⟨R1, 0, none⟩)] := hB
                    have hod : OwnR wr.drew B7 (.slice (some ⟨g, 0, none⟩) xs.length c7) xs := ho
                    have hgd : ErrH wr.drew := hg
                    obtain ⟨-, r2, r3⟩ := KpI.chg hSd hBd hbw.drew hs hc
                    exact ⟨he, v', _, hs, r2, r3, hgd.chg hc (fun e => by have := hSd.above _ e; omega), hod.chgSp hSd hc, hs2⟩))
                have q1 : wr.drew.cell? ⟨b5, 0, none⟩ = some (.pointer (some ⟨R1, 0, none⟩)) := e5
                have q2 : wr.drew.cell? ⟨g, j * 4, none⟩ = some (.int .i64 (pa : Int)) := c0
                have HQ := Lib.hid (And.intro hp (And.intro hpa (And.intro hlx hqk)))
                clear hp hcn hpa hM hgw hS hB hbw hg ho hl hrd he1 hgc H hqk hs1 hs2
                go_upto_region 40 with fail
                refine wp_region_held (S := fun X => X.cell? ⟨b5, 0, none⟩ = some (.pointer (some ⟨R1, 0, none⟩)) ∧ X.cell? ⟨g, j * 4, none⟩ = some (.int .i64 (pa : Int))) (by kernel_rfl) (show wpAnyH _ _ _ _ _ _ _ _ wr.drew from ?_)
                have hHeld : (fun X => X.cell? ⟨b5, 0, none⟩ = some (.pointer (some ⟨R1, 0, none⟩)) ∧ X.cell? ⟨g, j * 4, none⟩ = some (.int .i64 (pa : Int))) wr.drew := ⟨q1, q2⟩
                refine wpAnyH_take (i := 0) (v := ?_) rfl (by kernel_rfl) (by kernel_rfl) (by kernel_rfl) (fun _ _ _ h => h) (Or.inl ⟨by kernel_rfl, ?_⟩) (by assumption) ?_
                rotate_left
                · rintro w ⟨q1, q2⟩; go_simp; (try with_reducible rfl)
                try simp only [Act.put, List.setIfInBounds_toArray, List.set_cons_zero, List.set_cons_succ]
                refine wpAnyH_take (i := 1) (v := ?_) rfl (by kernel_rfl) (by kernel_rfl) (by kernel_rfl) (fun _ _ _ h => h) (Or.inl ⟨by kernel_rfl, ?_⟩) (by assumption) ?_
                rotate_left
                · rintro w ⟨q1, q2⟩; go_simp; (try with_reducible rfl)
                try simp only [Act.put, List.setIfInBounds_toArray, List.set_cons_zero, List.set_cons_succ]
                refine wpAnyH_take (i := 2) (v := ?_) rfl (by kernel_rfl) (by kernel_rfl) (by kernel_rfl) (fun _ _ _ h => h) (Or.inl ⟨by kernel_rfl, ?_⟩) (by assumption) ?_
                rotate_left
                · rintro w ⟨q1, q2⟩; go_simp; (try with_reducible rfl)
                try simp only [Act.put, List.setIfInBounds_toArray, List.set_cons_zero, List.set_cons_succ]
                refine wpAnyH_take (i := 3) (v := ?_) rfl (by kernel_rfl) (by kernel_rfl) (by kernel_rfl) (fun _ _ _ h => h) (Or.inl ⟨by kernel_rfl, ?_⟩) (by assumption) ?_
                rotate_left
                · rintro w ⟨q1, q2⟩; go_simp; (try with_reducible rfl)
                try simp only [Act.put, List.setIfInBounds_toArray, List.set_cons_zero, List.set_cons_succ]
                refine wpAnyH_take (i := 4) (v := ?_) rfl (by kernel_rfl) (by kernel_rfl) (by kernel_rfl) (fun _ _ _ h => h) (Or.inl ⟨by kernel_rfl, ?_⟩) (by assumption) ?_
                rotate_left
                · rintro w ⟨q1, q2⟩; go_simp; (try with_reducible rfl)
                try simp only [Act.put, List.setIfInBounds_toArray, List.set_cons_zero, List.set_cons_succ]
                refine wpAnyH_take (i := 5) (v := ?_) rfl (by kernel_rfl) (by kernel_rfl) (by kernel_rfl) (fun _ _ _ h => h) (Or.inl ⟨by kernel_rfl, ?_⟩) (by assumption) ?_
                rotate_left
                · rintro w ⟨q1, q2⟩; go_simp; (try with_reducible rfl)
                try simp only [Act.put, List.setIfInBounds_toArray, List.set_cons_zero, List.set_cons_succ]
                refine wpAnyH_ready (rs := [6]) (by kernel_rfl) (by simp) ?_
                refine AllReadyH.cons rfl (fun K hK => ?_) AllReadyH.nil
                go_simp
                refine (hD.out).mono ?_
                rintro e w' ⟨rfl, HI⟩
                have hS2 : w'.cell? ⟨b5, 0, none⟩ = some (.pointer (some ⟨R1, 0, none⟩)) ∧ w'.cell? ⟨g, j * 4, none⟩ = some (.int .i64 (pa : Int)) := by
                  obtain ⟨v, ps', hS, hB, hbw, hg, ho, hl⟩ := HI.out
                  obtain ⟨A', c', he, -, -, hrd⟩ := ho.rd
                  injection he with he1 _ _
                  obtain ⟨g2, hA, -, hgc⟩ := hrd j HQ.out.2.2.1
                  rw [← he1] at hA
                  cases hA
                  rw [HQ.out.1] at hgc
                  exact ⟨hB.cell 0, by rw [← HQ.out.2.1]; exact hgc 0 (by omega)⟩
                refine hK.out _ _ hS2 (fun hHeld2 => ?_)
                clear hK K hHeld
                try simp only [Act.put, List.setIfInBounds_toArray, List.set_cons_zero, List.set_cons_succ]
                refine wpAnyH_take (i := 7) (v := ?_) rfl (by kernel_rfl) (by kernel_rfl) (by kernel_rfl) (fun _ _ _ h => h) (Or.inl ⟨by kernel_rfl, ?_⟩) (by assumption) ?_
                rotate_left
                · rintro w ⟨q1, q2⟩; go_simp; (try with_reducible rfl)
                try simp only [Act.put, List.setIfInBounds_toArray, List.set_cons_zero, List.set_cons_succ]
                refine wpAnyH_done (by kernel_rfl) ?_ _
                clear hHeld2 hS2 q1 q2 hD c0 c2 e5
                have hgk : cn - (q + 1) < gk := by have := HQ.out.2.2.2; omega
                go_wp2_with fail
                go_roundg (cn - (q + 1))
                case measure => exact hgk
                case rel => exact ⟨q + 1, by go_num, by omega, HI⟩
              · obtain rfl : q = cn := by omega
                have hqci : ¬ (q : Int) < (q : Int) := by omega
                have HI := Lib.hid (show ∃ v ps', Sp wr w.heap.size R1 v nn ps' ∧ Bx wr b5 26 #[.pointer (some ⟨R1, 0, none⟩)] ∧ Below w.heap.size w wr ∧ ErrH wr ∧ OwnR wr B7 (.slice (some ⟨g, 0, none⟩) xs.length c7) xs ∧ live ps' = xs.drop (j + 1) from ⟨v, ps', hS, hB, hbw, hg, ho, by rw [hl, ← hcn, headL_all]; rfl⟩)
                clear hp hcn hpa hM hgw hS hB hbw hg ho hl hrd he1 hgc H hqk e5
                go_wp2_with fail
                go_roundg (M - (j + 1))
                case measure => omega
                case rel => exact ⟨j + 1, by go_num, by omega, HI⟩
          · obtain rfl : j = M := by omega
            have hjMi : ¬ (j : Int) < (j : Int) := by omega
            obtain ⟨v, ps', hS, hB, hbw, hg, ho, hl⟩ := H.out
            rw [List.drop_of_length_le (by have := H7.out.1; omega)] at hl
            have e5 : wr.cell? ⟨b5, 0, none⟩ = some (.pointer (some ⟨R1, 0, none⟩)) := hB.cell 0
            have hT := pTurn_calls wr _ R1 v nn ps' hS hbw.size
            rw [show turnS ps' = [] from by unfold turnS; rw [hl]; rfl] at hT
            have hT := Lib.hid hT
            have HX := Lib.hid (And.intro hS (And.intro hB hbw))
            clear hS hB hbw hg ho hl H hjk
            go_wp2_with fail
            refine (hT.out).mono ?_
            rintro e W10 ⟨rfl, v', hs', hc', -⟩
            obtain ⟨-, r2, r3⟩ := KpI.chg HX.out.1 HX.out.2.1 HX.out.2.2 hs' hc'
            have f5 : W10.cell? ⟨b5, 0, none⟩ = some (.pointer (some ⟨R1, 0, none⟩)) := r2.cell 0
            have hq := pRows_calls W10 _ R1 v' nn [] hs'
            rw [show usedS [] = 0 from rfl, show heldS [] = 0 from rfl, show nn - 0 - 0 = nn by omega, show ((0 : Nat) : Int) = 0 from rfl] at hq
            have hq := Lib.hid hq
            have Hr3 := Lib.hid r3
            clear hs' hc' r2 r3 hT HX
            go_wp2_with fail
            refine (hq.out).mono ?_
            rintro e W11 ⟨rfl, hb⟩
            have HF := Lib.hid (Hr3.out.trans (hb.mono Hr3.out.size))
            clear hb hq
            go_wp2_with fail
            go_ret
            exact ⟨rfl, HF.out⟩
end Go.Proofs.YtgkamdgegfioiaaDoor
