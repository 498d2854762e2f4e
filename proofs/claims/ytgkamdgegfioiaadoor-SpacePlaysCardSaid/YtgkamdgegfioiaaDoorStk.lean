/- The walk of (*space.Space).Take. -/
import Derived.Test.YtgkamdgegfioiaaDoorSpt
namespace Go.Proofs.YtgkamdgegfioiaaDoor
open Go.RowKit
set_option linter.unusedSimpArgs false
set_option linter.unusedVariables false
def TakePost (w : World) (B R : Nat) (v : Value) (r : Nat) (ps : List Pc) (n tag : Nat) (e : Ending) (w' : World) : Prop :=
  match insF r n tag 0 ps with
  | none => e = .returned (.tuple #[.int .i64 0, errE 8]) ∧ Below w.heap.size w w'
  | some (k, qs) => e = .returned (.tuple #[.int .i64 (k : Int), .nilIface]) ∧ ∃ v', Sp w' B R v' r qs ∧ Chg w w' (fun j => j = R ∨ rowOf v = some j) ∧ Lies w v v'
theorem drop_cons {ps : List Pc} {i : Nat} (h : i < ps.length) : ps.drop i = ps[i] :: ps.drop (i + 1) := List.drop_eq_getElem_cons h
/-- the insertion's end -/
theorem take_end {w wr W : World} {B R r n tag a i : Nat} {v v' : Value} {ps : List Pc} (h : Sp w B R v r ps) (hb : Below w.heap.size w wr) (hn1 : 1 ≤ n) (ht : tag < 18446744073709551616) (hf : fit n 0 0 ps = (a, i)) (hno : ¬ (i = ps.length ∧ r - a < n))
    (hp : OwnS W B v' (ps.take i ++ ⟨a, n, 1, tag, false⟩ :: ps.drop i)) (hg : (wr.alloc (.cells (pcA ⟨a, n, 1, tag, false⟩) 90)).grownBy W (rowOf v)) (hl : Lies (wr.alloc (.cells (pcA ⟨a, n, 1, tag, false⟩) 90)) v v') :
    TakePost w B R v r ps n tag (.returned (.tuple #[.int .i64 (a : Int), .nilIface])) (W.setCell ⟨R, 1, none⟩ v') ∧ W.frozen? ⟨R, 1, none⟩ = false ∧ W.cell? ⟨R, 1, none⟩ = some v := by
  have hi := insF_fit r n tag ps 0 0
  rw [hf, if_neg (by simpa using hno)] at hi
  simp only [Nat.sub_zero] at hi
  have hw := insF_wf hn1 ht ps 0 _ _ h.wf hi
  have h1 := (h.below hb).below ((Below.refl _ _).alloc (Nat.le_refl _) (.cells (pcA ⟨a, n, 1, tag, false⟩) 90))
  obtain ⟨q1, q2, q3, q4⟩ := h1.put hp hg hl hw.1
  refine ⟨?_, q3, q4⟩
  unfold TakePost
  rw [hi]
  have hsz : wr.heap.size ≤ (wr.alloc (.cells (pcA ⟨a, n, 1, tag, false⟩) 90)).heap.size := by simp
  refine ⟨rfl, v', q1, ((Chg.ofBelow (hb.trans (((Below.refl _ wr).alloc (Nat.le_refl _) _).mono hb.size)) _).trans q2), ?_⟩
  rcases hl with e | ⟨k, e, hk⟩
  · exact .inl e
  · exact .inr ⟨k, e, Nat.le_trans (Nat.le_trans hb.size hsz) hk⟩
set_option maxHeartbeats 4000000 in
set_option maxRecDepth 100000 in
theorem take_calls (w : World) (B R : Nat) (v : Value) (r : Nat) (ps : List Pc) (n tag : Nat) (h : Sp w B R v r ps) (hB : B ≤ w.heap.size) (hn1 : 1 ≤ n) (hn : n ≤ 9223372036854775807) (ht : tag < 18446744073709551616) :
    Calls Tryd.prog 23 #[.pointer (some ⟨R, 0, none⟩), .int .i64 (n : Int), .int .u64 (tag : Int)] w fun e w' => TakePost w B R v r ps n tag e w' := by
  have HS := Lib.hid h
  have hr := h.hr
  obtain ⟨N, hN⟩ : ∃ N, ps.length = N := ⟨_, rfl⟩
  have HN := Lib.hid hN
  have hNr := h.len
  rw [hN] at hNr
  obtain ⟨A, c, hv, hc1, hc2, hrd⟩ := h.own.rd
  rw [hN] at hv hc1
  have Hrd := Lib.hid hrd
  have Hwf := Lib.hid h.wf
  have h0 := Lib.hid (show fit n 0 0 ps = fit n 0 0 (ps.drop 0) ∧ Wf r 0 (ps.drop 0) ∧ Below w.heap.size w w from ⟨rfl, h.wf, Below.refl _ _⟩)
  have hn1i : ¬ (n : Int) < 1 := by omega
  have hc3 : c ≤ 9223372036854775807 := by unfold maxLen at hc2; omega
  clear h hrd hN hc2
  subst hv
  go_enter Tryd.func23, Tryd.ntmps23
  go_wp2_with fail
  go_loopw [8, 9] (fun t j wr => ∃ a i : Nat, t = .int .i64 (a : Int) ∧ j = .int .i64 (i : Int) ∧ i ≤ N ∧ a ≤ r ∧ Hid (fit n 0 0 ps = fit n a i (ps.drop i) ∧ Wf r a (ps.drop i) ∧ Below w.heap.size w wr)) (fun _ j _ => N - (intOf j).toNat)
  case atStart => exact ⟨0, 0, rfl, rfl, by omega, by omega, h0⟩
  case round =>
    clear h0
    rename World => wr
    obtain ⟨a, i, rfl, rfl, hi, har, H⟩ := hrel
    have hSr := (HS.out.below H.out.2.2)
    obtain ⟨cR0, cR1, fR⟩ := hSr.cells
    have fR1 := fR 1
    have HSr := Lib.hid hSr
    clear hSr fR
    by_cases hlt : i < N
    · have hlti : (i : Int) < (N : Int) := by omega
      obtain ⟨g, hA, hgw, hgf, hgc⟩ := (Hrd.out.below' H.out.2.2) i (by rw [HN.out]; exact hlt)
      subst hA
      have hd := drop_cons (ps := ps) (i := i) (by rw [HN.out]; exact hlt)
      obtain ⟨p, hp⟩ : ∃ p, ps[i]'(by rw [HN.out]; exact hlt) = p := ⟨_, rfl⟩
      rw [hp] at hgc hd
      have g0 : wr.cell? ⟨g, i * 5, none⟩ = some (.int .i64 (p.at_ : Int)) := hgc 0 (by omega)
      have g1 : wr.cell? ⟨g, i * 5 + 1, none⟩ = some (.int .i64 (p.n : Int)) := hgc 1 (by omega)
      have g2 : wr.cell? ⟨g, i * 5 + 2, none⟩ = some (.int .i64 (p.cnt : Int)) := hgc 2 (by omega)
      have g3 : wr.cell? ⟨g, i * 5 + 3, none⟩ = some (.int .u64 (p.tag : Int)) := hgc 3 (by omega)
      have g4 : wr.cell? ⟨g, i * 5 + 4, none⟩ = some (.bool p.old) := hgc 4 (by omega)
      have hwf := H.out.2.1
      rw [hd] at hwf
      have hfl := hwf.2.2.2.2.le
      have hat := hwf.1
      have hpn : p.at_ ≤ r := by unfold Pc.fin at hfl; omega
      have Hwp := Lib.hid hwf
      have Hd := Lib.hid hd
      clear hgc hp hd hwf
      by_cases hfit : p.at_ - a < n
      · have hfi : (p.at_ : Int) - (a : Int) < (n : Int) := by omega
        have HN2 := Lib.hid (show fit n 0 0 ps = fit n p.fin (i + 1) (ps.drop (i + 1)) ∧ Wf r p.fin (ps.drop (i + 1)) ∧ Below w.heap.size w (wr.alloc (.cells (pcA p) 90)) from by
          refine ⟨?_, Hwp.out.2.2.2.2, H.out.2.2.alloc H.out.2.2.size _⟩
          rw [H.out.1, Hd.out]
          conv => lhs; unfold fit
          rw [if_pos hfit])
        have Hend := Lib.hid (fun W => end_calls p W (by omega))
        have hfr : p.fin ≤ r := hfl
        clear H Hwp Hd hfit
        go_wp2_with fail
        refine ((Hend.out _)).mono ?_
        rintro e w' ⟨rfl, rfl⟩
        go_wp2_with fail
        exact ⟨⟨p.fin, i + 1, rfl, by go_num, by omega, hfr, HN2⟩, by simp [intOf]; omega⟩
      · have hfi : ¬ (p.at_ : Int) - (a : Int) < (n : Int) := by omega
        have hff := Lib.hid (show fit n 0 0 ps = (a, i) from by
          rw [H.out.1, Hd.out]
          unfold fit
          rw [if_neg hfit])
        have hne : ((i : Int) == (N : Int)) = false := by rw [beq_eq_false_iff_ne]; omega
        clear Hrd Hd Hwp Hwf
        have hins : Calls Tryd.prog 49 #[.slice (some ⟨g, 0, none⟩) N c, .int .i64 (i : Int), .slice (some ⟨wr.heap.size, 0, none⟩) 1 1] (wr.alloc (.cells #[.int .i64 (a : Int), .int .i64 (n : Int), .int .i64 1, .int .u64 (tag : Int), .bool false] 90)) (fun e w' => InsPost (wr.alloc (.cells (pcA ⟨a, n, 1, tag, false⟩) 90)) B (.slice (some ⟨g, 0, none⟩) N c) (ps.take i ++ ⟨a, n, 1, tag, false⟩ :: ps.drop i) e w') :=
          insert_calls (wr.alloc (.cells (pcA ⟨a, n, 1, tag, false⟩) 90)) B (.slice (some ⟨g, 0, none⟩) N c) ps i ⟨a, n, 1, tag, false⟩ wr.heap.size (HSr.out.own.below ((Below.refl _ _).alloc (Nat.le_refl _) _)) (by have := H.out.2.2.size; simp; omega) HS.out.len (by rw [HN.out]; exact hi) (heap_alloc_new wr _) (fun e => by
            obtain ⟨_, hk, _⟩ := HSr.out.own.row _ e
            omega)
        have Hins := Lib.hid hins
        clear hins
        go_wp2_with fail
        refine (Hins.out).mono ?_
        rintro e W ⟨v', rfl, ho, hg, hl⟩
        obtain ⟨A', c', rfl, hle'⟩ : ∃ A' c', v' = .slice A' (ps.take i ++ (⟨a, n, 1, tag, false⟩ : Pc) :: ps.drop i).length c' ∧ True := by
          obtain ⟨A', c', e1, _⟩ := ho
          exact ⟨A', c', e1, trivial⟩
        obtain ⟨qn, hqn⟩ : ∃ qn, (ps.take i ++ (⟨a, n, 1, tag, false⟩ : Pc) :: ps.drop i).length = qn := ⟨_, rfl⟩
        rw [hqn] at ho hl ⊢
        obtain ⟨hpost, hfz, hce⟩ := take_end HS.out H.out.2.2 hn1 ht hff.out (by rw [HN.out]; omega) ho hg hl
        have HP := Lib.hid hpost
        clear hpost ho hg hl Hins hqn hle'
        go_wp2_with fail
        go_ret2
        exact HP.out
    · obtain rfl : i = N := by omega
      have hff := Lib.hid (show fit n 0 0 ps = (a, i) from by
        rw [H.out.1, List.drop_of_length_le (by rw [HN.out]; exact Nat.le_refl _)]
        rfl)
      clear Hrd Hwf
      by_cases hroom : r - a < n
      · have hro : (r : Int) - (a : Int) < (n : Int) := by omega
        have HP := Lib.hid (show TakePost w B R (.slice A i c) r ps n tag (.returned (.tuple #[.int .i64 0, errE 8])) wr from by
          have hx := insF_fit r n tag ps 0 0
          rw [hff.out, if_pos ⟨by show i = 0 + ps.length; rw [HN.out]; omega, hroom⟩] at hx
          unfold TakePost
          rw [hx]
          exact ⟨rfl, H.out.2.2⟩)
        go_wp2_with fail
        go_ret2
        exact HP.out
      · have hro : ¬ (r : Int) - (a : Int) < (n : Int) := by omega
        have hins : Calls Tryd.prog 49 #[.slice A i c, .int .i64 (i : Int), .slice (some ⟨wr.heap.size, 0, none⟩) 1 1] (wr.alloc (.cells #[.int .i64 (a : Int), .int .i64 (n : Int), .int .i64 1, .int .u64 (tag : Int), .bool false] 90)) (fun e w' => InsPost (wr.alloc (.cells (pcA ⟨a, n, 1, tag, false⟩) 90)) B (.slice A i c) (ps.take i ++ ⟨a, n, 1, tag, false⟩ :: ps.drop i) e w') :=
          insert_calls (wr.alloc (.cells (pcA ⟨a, n, 1, tag, false⟩) 90)) B (.slice A i c) ps i ⟨a, n, 1, tag, false⟩ wr.heap.size (HSr.out.own.below ((Below.refl _ _).alloc (Nat.le_refl _) _)) (by have := H.out.2.2.size; simp; omega) HS.out.len (by rw [HN.out]; exact hi) (heap_alloc_new wr _) (fun e => by
            obtain ⟨_, hk, _⟩ := HSr.out.own.row _ e
            omega)
        have Hins := Lib.hid hins
        clear hins
        go_wp2_with fail
        refine (Hins.out).mono ?_
        rintro e W ⟨v', rfl, ho, hg, hl⟩
        obtain ⟨A', c', rfl, hle'⟩ : ∃ A' c', v' = .slice A' (ps.take i ++ (⟨a, n, 1, tag, false⟩ : Pc) :: ps.drop i).length c' ∧ True := by
          obtain ⟨A', c', e1, _⟩ := ho
          exact ⟨A', c', e1, trivial⟩
        obtain ⟨qn, hqn⟩ : ∃ qn, (ps.take i ++ (⟨a, n, 1, tag, false⟩ : Pc) :: ps.drop i).length = qn := ⟨_, rfl⟩
        rw [hqn] at ho hl ⊢
        obtain ⟨hpost, hfz, hce⟩ := take_end HS.out H.out.2.2 hn1 ht hff.out (by omega) ho hg hl
        have HP := Lib.hid hpost
        clear hpost ho hg hl Hins hqn hle'
        go_wp2_with fail
        go_ret2
        exact HP.out
end Go.Proofs.YtgkamdgegfioiaaDoor
