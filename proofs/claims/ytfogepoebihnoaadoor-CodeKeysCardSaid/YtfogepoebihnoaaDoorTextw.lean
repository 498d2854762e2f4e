/- The walk of reader.text. -/
import Derived.Test.YtfogepoebihnoaaDoorPread
namespace Go.Proofs.YtfogepoebihnoaaDoor
open Go.RowKit
set_option linter.unusedSimpArgs false
set_option linter.unusedVariables false
theorem own_pushL {w : World} {B : Nat} {v : Value} {out : List UInt8} (h : OwnB w B 5 v out) (hB : B ≤ w.heap.size) (b : UInt8) (hl : out.length ≤ 140737488355000) :
    ∃ v' W', (Builtin.append_ #[22, 22] 22 #[v, .slice (some ⟨w.heap.size, 0, none⟩) 1 1]).run Tryd.prog (w.alloc (.cells #[.int .u8 (b.toNat : Int)] 5)) = .ok v' W' ∧ OwnB W' B 5 v' (out ++ [b]) ∧ Below B w W' := by
  obtain ⟨i5, hi, hz0, hz1, hz2⟩ := info_parts info5
  obtain ⟨v3, W3, ha1, ha2, ha3, _⟩ := own_append (P := Tryd.prog) (w.alloc (.cells #[.int .u8 (b.toNat : Int)] 5)) 22 22 5 i5 Tryd.underlying22 hi hz0 hz1 hz2 B _ out (h.alloc _) (by simp; omega) (some ⟨w.heap.size, 0, none⟩) 1 [b] (one_rd w b _) (by simp; omega)
  exact ⟨v3, W3, ha1, ha2, ((Below.refl _ _).alloc hB _).trans ha3⟩
abbrev zRow : Array Value := #[.int .i64 0, .int .u64 0, .string ⟨#[]⟩]
structure TxtI (w : World) (R : Nat) (W : World) (g : Nat) (T : Option (List UInt8 × List UInt8)) (v : Value) (wr : World) (s rest : List UInt8) (o cap f : Nat) : Prop where
  own : OwnB wr (W.heap.size + 1) 5 v s
  rdr : Rdr w R wr g o rest cap
  grown : W.grownBy wr (some R)
  res : wr.heap[W.heap.size]? = some (.cells zRow 51 (0, 0))
  txt : txtR (f + 1) s rest = T
  fuel : rest.length ≤ f
  len : s.length + rest.length ≤ 140737488351300
  lt : R < W.heap.size
theorem Rdr.keep {w : World} {R : Nat} {W W' : World} {g o : Nat} {rest : List UInt8} {cap : Nat} (h : Rdr w R W g o rest cap) {B : Nat} (hb : Below B W W') (hRB : R < B) : Rdr w R W' g o rest cap where
  row := by rw [hb.block _ hRB]; exact h.row
  room := h.room
  rd := h.rd
  below := h.below.trans (hb.mono (by have := h.hi; omega))
  hi := h.hi
  blen := h.blen
theorem grown_keep {W W1 W2 : World} {row : Option Nat} (h : W.grownBy W1 row) {B : Nat} (hb : Below B W1 W2) (hB : W.heap.size ≤ B) : W.grownBy W2 row :=
  ⟨hb.os.trans h.os, hb.tape.trans h.tape, hb.output.trans h.output, Nat.le_trans h.size hb.size, fun k hk hne => (hb.block k (by omega)).trans (h.block k hk hne)⟩
theorem txtR_none (f : Nat) (s rest : List UInt8) (h : Lib.indexByte rest 0 < 0 ∨ (rest.length : Int) ≤ Lib.indexByte rest 0 + 1) : txtR (f + 1) s rest = none := if_pos h
def TxtPost (w : World) (R : Nat) (W : World) (g : Nat) (T : Option (List UInt8 × List UInt8)) (e : Ending) (W' : World) : Prop :=
  match T with
  | none => e = .returned (.tuple #[.agg zRow, .bool false]) ∧ W.grownBy W' (some R) ∧ Below w.heap.size w W'
  | some (s, r) => e = .returned (.tuple #[.agg (cellsPt ⟨2, 0, s⟩), .bool (decide (s.length ≤ 60))]) ∧ W.grownBy W' (some R) ∧ ∃ o' cap', Rdr w R W' g o' r cap'
set_option maxHeartbeats 4000000 in
set_option maxRecDepth 100000 in
theorem text_calls (w : World) (R : Nat) (W : World) (g o : Nat) (rest : List UInt8) (cap : Nat) (hR : Rdr w R W g o rest cap) (hl : rest.length ≤ 140737488351300) :
    Calls Tryd.prog 33 #[.pointer (some ⟨R, 0, none⟩)] W fun e W' => TxtPost w R W g (txtR (rest.length + 1) [] rest) e W' := by
  obtain ⟨i5, hi5, hz0, hz1, hz2⟩ := info_parts info5
  generalize hT : txtR (rest.length + 1) [] rest = T
  have hI : TxtI w R W g T (.slice none 0 0) (W.alloc (.cells zRow 51)) [] rest o cap rest.length :=
    ⟨OwnB.nil _ _ _, hR.later ((Below.refl _ _).alloc (Nat.le_refl _) _), grown_below ((Below.refl _ _).alloc (Nat.le_refl _) _), heap_alloc_new W _, hT, Nat.le_refl _, by simpa using hl, hR.lt⟩
  have HI := Lib.hid hI
  clear hI hT hR
  go_enter Tryd.func33, Tryd.ntmps33
  go_wp2_with fail
  go_loopw [4] (fun v wr => ∃ (s rest : List UInt8) (o cap f : Nat), Hid (TxtI w R W g T v wr s rest o cap f)) (fun _ wr => cellLen wr R)
  case atStart => exact ⟨[], rest, o, cap, rest.length, HI⟩
  case round =>
    clear HI hl
    obtain ⟨s, rest, o, cap, f, H⟩ := hrel
    have hcell := H.out.rdr.cell
    have hfz := H.out.rdr.frozen
    have hmeas := cellLen_of hcell
    have hroom := H.out.rdr.room
    have hblen := H.out.rdr.blen
    have hlen := H.out.len
    have hix := Lib.hid (show Calls Tryd.prog 39 #[.slice (some ⟨g, o, none⟩) rest.length cap, .int .u8 0] wr (fun e w' => e = .returned (.int .i64 (Lib.indexByte rest 0)) ∧ wr = w') from indexByte_calls g o cap rest 0 wr H.out.rdr.rdAt)
    rcases idx_spec rest 0 with ⟨h1, h2⟩ | ⟨i, h1, a, r, he, ha, hz⟩
    · rw [h1] at hix
      have hTn : none = T := by rw [← H.out.txt, txtR_none _ _ _ (by rw [h1]; exact .inl (by decide))]
      subst hTn
      have hres := H.out.res
      have hbel := H.out.rdr.below
      have Hfin := Lib.hid (And.intro (below_setRow hbel (show w.heap.size ≤ W.heap.size by have := H.out.rdr.hi; have := H.out.lt; omega) zRow) (grown_setRow H.out.grown (Nat.le_refl _) zRow))
      clear hbel
      go_wp2_with fail
      refine (hix.out).mono ?_
      rintro e w' ⟨rfl, rfl⟩
      go_wp2_with (refine wpList_store_row rfl 51 (.tmp 2) (.tmp 23) rfl W.heap.size zRow rfl rfl _ _ hres (by kernel_rfl) rfl (one3 _ _ _) ?_)
      refine bodyPost_ret (results_ct rfl _ _ W.heap.size 51 zRow _ _ rfl (setRow_heap _ _ _ _ _ _ hres) Tryd.underlying51 rfl (by kernel_rfl)) rfl ?_
      exact ⟨rfl, Hfin.out.2, Hfin.out.1⟩
    · rw [h1] at hix
      cases r with
      | nil =>
        have hrl : rest.length = i + 1 := by rw [he]; simp [ha]
        have hTn : none = T := by rw [← H.out.txt, txtR_none _ _ _ (by rw [h1]; exact .inr (by omega))]
        subst hTn
        have hres := H.out.res
        have hbel := H.out.rdr.below
        have Hfin := Lib.hid (And.intro (below_setRow hbel (show w.heap.size ≤ W.heap.size by have := H.out.rdr.hi; have := H.out.lt; omega) zRow) (grown_setRow H.out.grown (Nat.le_refl _) zRow))
        have hge : rest.length ≤ i + 1 := by omega
        have hge2 : (rest.length : Int) ≤ (i : Int) + 1 := by omega
        have hib : (i : Int) ≤ 140737488351300 := by omega
        clear hbel hrl he ha
        go_wp2_with fail
        refine (hix.out).mono ?_
        rintro e w' ⟨rfl, rfl⟩
        go_wp2_with (refine wpList_store_row rfl 51 (.tmp 2) (.tmp 23) rfl W.heap.size zRow rfl rfl _ _ hres (by kernel_rfl) rfl (one3 _ _ _) ?_)
        refine bodyPost_ret (results_ct rfl _ _ W.heap.size 51 zRow _ _ rfl (setRow_heap _ _ _ _ _ _ hres) Tryd.underlying51 rfl (by kernel_rfl)) rfl ?_
        exact ⟨rfl, Hfin.out.2, Hfin.out.1⟩
      | cons x q =>
        have hrl : rest.length = i + 2 + q.length := by rw [he]; simp [ha]; omega
        have hf := H.out.fuel
        obtain ⟨f, rfl⟩ : ∃ j, f = j + 1 := ⟨f - 1, by omega⟩
        have hstep := txtR_step (f + 1) s a x q hz
        rw [← he, H.out.txt] at hstep
        have hlt0 := H.out.lt
        have hRB : R < W.heap.size + 1 := by omega
        have hta : rest.take i = a := by rw [he, ← ha]; simp
        have ht1 := take_long R (some ⟨g, o, none⟩) rest.length cap i (i : Int) wr hcell hfz rfl (by omega) hroom (by omega)
        obtain ⟨o1, hR1, hadv1⟩ := H.out.rdr.adv i (by omega)
        rw [hadv1] at ht1 hR1
        have Ht1 := Lib.hid ht1
        clear ht1 hadv1
        have hd1 : rest.drop i = 0 :: x :: q := by rw [he, ← ha]; simp
        have hdl : (rest.drop i).length = q.length + 2 := by rw [hd1]; simp
        have hg1 := grown_trans H.out.grown (grown_set wr R (.slice (some ⟨g, o1, none⟩) (rest.length - i) (cap - i)))
        have ho1 := H.out.own.setBelow (a := ⟨R, 0, none⟩) hRB (.slice (some ⟨g, o1, none⟩) (rest.length - i) (cap - i))
        have hr1 : (wr.setCell ⟨R, 0, none⟩ (.slice (some ⟨g, o1, none⟩) (rest.length - i) (cap - i))).heap[W.heap.size]? = some (.cells zRow 51 (0, 0)) := by
          rw [Below.heap_setCell _ _ _ _ (by show W.heap.size ≠ R; omega)]; exact H.out.res
        have hrd1 : Rd (wr.setCell ⟨R, 0, none⟩ (.slice (some ⟨g, o1, none⟩) (rest.length - i) (cap - i))) (some ⟨g, o, none⟩) a := by
          have h := ((H.out.rdr.rd).below hR1.below).take i
          rw [hta] at h
          exact h
        have hsz1 : W.heap.size + 1 ≤ (wr.setCell ⟨R, 0, none⟩ (.slice (some ⟨g, o1, none⟩) (rest.length - i) (cap - i))).heap.size := by
          have := (Array.getElem?_eq_some_iff.1 hr1).1; omega
        obtain ⟨v2, W2, ha1, ha2, ha3, _⟩ := own_append (P := Tryd.prog) _ 22 22 5 i5 Tryd.underlying22 hi5 hz0 hz1 hz2 (W.heap.size + 1) _ s ho1 hsz1 (some ⟨g, o, none⟩) i a hrd1 (by omega)
        rw [ha] at ha1
        have hR2 := hR1.keep ha3 hRB
        have hg2 := grown_keep hg1 ha3 (by omega)
        have hr2 := (ha3.block W.heap.size (by omega)).trans hr1
        have hc2 := hR2.cell
        rw [hdl] at hc2
        have ht2 := take_long R (some ⟨g, o1, none⟩) (q.length + 2) (cap - i) 2 2 W2 hc2 hR2.frozen rfl (by omega) (by have := hR2.room; omega) (by omega)
        obtain ⟨o2, hR3, hadv2⟩ := hR2.adv 2 (by omega)
        rw [hdl] at hR3
        rw [hadv2] at ht2 hR3
        rw [show q.length + 2 - 2 = q.length by omega] at ht2 hR3
        have Ht2 := Lib.hid ht2
        clear ht2 hadv2
        have hd2 : (rest.drop i).drop 2 = q := by rw [hd1]; rfl
        rw [hd2] at hR3
        have hg3 := grown_trans hg2 (grown_set W2 R (.slice (some ⟨g, o2, none⟩) q.length (cap - i - 2)))
        have ho3 := ha2.setBelow (a := ⟨R, 0, none⟩) hRB (.slice (some ⟨g, o2, none⟩) q.length (cap - i - 2))
        have hr3 : (W2.setCell ⟨R, 0, none⟩ (.slice (some ⟨g, o2, none⟩) q.length (cap - i - 2))).heap[W.heap.size]? = some (.cells zRow 51 (0, 0)) := by
          rw [Below.heap_setCell _ _ _ _ (by show W.heap.size ≠ R; omega)]; exact hr2
        have hx3 : (W2.setCell ⟨R, 0, none⟩ (.slice (some ⟨g, o2, none⟩) q.length (cap - i - 2))).cell? ⟨g, o1 + 1, none⟩ = some (.int .u8 (x.toNat : Int)) := by
          have h := (hR2.rd.below hR3.below) 1 (by omega)
          obtain ⟨ad, he2, hc⟩ := h
          cases he2
          rw [addr_addn] at hc
          rw [hc]
          simp [hd1, vb]
        obtain ⟨A2, cc2, hv2, _, hcc, _, _⟩ := ha2.form
        subst hv2
        have Ha1 := Lib.hid ha1
        have hsl : (s ++ a).length ≤ 140737488351300 := by simp; omega
        have hsl2 : (s ++ a ++ [0]).length + q.length ≤ 140737488351300 := by simp; omega
        have Hsl2 := Lib.hid hsl2
        have hib : (i : Int) ≤ 140737488351300 := by omega
        have hnge : ¬ (rest.length : Int) ≤ (i : Int) + 1 := by omega
        have hnge2 : ¬ rest.length ≤ i + 1 := by omega
        have Hrl := Lib.hid hrl
        have Hmeas := Lib.hid hmeas
        have Hall := Lib.hid (And.intro hR3 (And.intro hg3 ho3))
        have hq3 : q.length ≤ 140737488351300 := by omega
        clear hR1 hR2 hR3 hg1 hg2 hg3 ho1 ho3 hr1 hr2 hrd1 hsz1 ha1 ha2 ha3 hd1 hd2 hdl he ha hrl hmeas hsl2 hc2
        generalize (s ++ a) = s2 at *
        generalize (W2.setCell ⟨R, 0, none⟩ (.slice (some ⟨g, o2, none⟩) q.length (cap - i - 2))) = W3 at *
        by_cases hx1 : x = 1
        · subst hx1
          rw [if_pos rfl] at hstep
          subst hstep
          obtain ⟨A3, c3, hv3, hrd3, _, _, _⟩ := Hall.out.2.2.form
          cases hv3
          have hcv := run_string_of (P := Tryd.prog) _ 22 9 5 Tryd.underlying22 Tryd.underlying5 Tryd.underlying9 A2 cc2 s2 hrd3
          have hx4 : W3.cell? ⟨g, o1 + 1, none⟩ = some (.int .u8 1) := hx3
          have Hfin := Lib.hid (And.intro (grown_setRow Hall.out.2.1 (Nat.le_refl _) #[.int .i64 2, .int .u64 0, .string ⟨s2.toArray⟩]) (Hall.out.1.setRow (k := W.heap.size) (by omega) (by have := Hall.out.1.hi; omega) #[.int .i64 2, .int .u64 0, .string ⟨s2.toArray⟩]))
          clear hx3 hrd3 hta
          obtain ⟨bb, hbb⟩ : ∃ bb, decide (s2.length ≤ 60) = bb := ⟨_, rfl⟩
          have hbi : decide ((s2.length : Int) ≤ 60) = bb := by rw [← hbb]; congr 1; simp; omega
          have Hbb := Lib.hid hbb
          clear hbb
          go_wp2_with fail
          refine (hix.out).mono ?_
          rintro e w' ⟨rfl, rfl⟩
          go_wp2_with fail
          refine (Ht1.out).mono ?_
          rintro e w' ⟨rfl, rfl⟩
          go_wp2_with (at_builtin; go_must (refine wpList_append_run rfl (.tmp 24) (.tmp 27) 22 22 rfl rfl rfl Ha1.out ?_))
          refine (Ht2.out).mono ?_
          rintro e w' ⟨rfl, rfl⟩
          go_wp2_with (refine wpList_store_row rfl 51 (.tmp 2) (.tmp 38) rfl W.heap.size #[.int .i64 2, .int .u64 0, .string ⟨s2.toArray⟩] rfl rfl _ _ hr3 (by kernel_rfl) rfl (one3 _ _ _) ?_)
          refine bodyPost_ret (results_ct rfl _ _ W.heap.size 51 #[.int .i64 2, .int .u64 0, .string ⟨s2.toArray⟩] _ _ rfl (setRow_heap _ _ _ _ _ _ hr3) Tryd.underlying51 rfl (by kernel_rfl)) rfl ?_
          exact ⟨by show Ending.returned (.tuple #[.agg (cellsPt ⟨2, 0, s2⟩), .bool bb]) = _; rw [Hbb.out], Hfin.out.1, _, _, Hfin.out.2⟩
        · rw [if_neg hx1] at hstep
          by_cases hx2 : x = 255
          · subst hx2
            rw [if_pos rfl] at hstep
            have hx4 : W3.cell? ⟨g, o1 + 1, none⟩ = some (.int .u8 255) := hx3
            have hW3 := (Array.getElem?_eq_some_iff.1 hr3).1
            obtain ⟨v5, W5, hb1, hb2, hb3⟩ := own_pushL Hall.out.2.2 (by omega) 0 (by omega)
            have Hb1 := Lib.hid (show (Builtin.append_ #[22, 22] 22 #[.slice A2 s2.length cc2, .slice (some ⟨W3.heap.size, 0, none⟩) 1 1]).run Tryd.prog (W3.alloc (.cells #[.int .u8 0] 5)) = .ok v5 W5 from hb1)
            have HI := Lib.hid (show TxtI w R W g T v5 W5 (s2 ++ [0]) q o2 (cap - i - 2) f from ⟨hb2, Hall.out.1.keep hb3 hRB, grown_keep Hall.out.2.1 hb3 (by omega), (hb3.block W.heap.size (by omega)).trans hr3, hstep.symm, by have := Hrl.out; omega, Hsl2.out, hlt0⟩)
            clear hx3 hta hb1 hb2 hb3 hr3 hW3
            go_wp2_with fail
            refine (hix.out).mono ?_
            rintro e w' ⟨rfl, rfl⟩
            go_wp2_with fail
            refine (Ht1.out).mono ?_
            rintro e w' ⟨rfl, rfl⟩
            go_wp2_with (at_builtin; go_must (refine wpList_append_run rfl (.tmp 24) (.tmp 27) 22 22 rfl rfl rfl Ha1.out ?_))
            refine (Ht2.out).mono ?_
            rintro e w' ⟨rfl, rfl⟩
            go_wp2_with (at_builtin; go_must (refine wpList_append_run rfl (.tmp 44) (.tmp 45) 22 22 rfl rfl rfl Hb1.out ?_))
            refine ⟨⟨s2 ++ [0], q, o2, cap - i - 2, f, HI⟩, ?_⟩
            rw [cellLen_of HI.out.rdr.cell, Hmeas.out, Hrl.out]
            omega
          · rw [if_neg hx2] at hstep
            subst hstep
            have Hfin := Lib.hid (And.intro (below_setRow Hall.out.1.below (show w.heap.size ≤ W.heap.size by have := Hall.out.1.hi; omega) zRow) (grown_setRow Hall.out.2.1 (Nat.le_refl _) zRow))
            have hn1 : ¬ (x.toNat : Int) = 1 := fun h => hx1 (UInt8.toNat_inj.1 (by show x.toNat = 1; omega))
            have hn2 : ¬ (x.toNat : Int) = 255 := fun h => hx2 (UInt8.toNat_inj.1 (by show x.toNat = 255; omega))
            have hn1b : (x == 1) = false := by simpa using hx1
            have hn2b : (x == 255) = false := by simpa using hx2
            clear hta
            go_wp2_with fail
            refine (hix.out).mono ?_
            rintro e w' ⟨rfl, rfl⟩
            go_wp2_with fail
            refine (Ht1.out).mono ?_
            rintro e w' ⟨rfl, rfl⟩
            go_wp2_with (at_builtin; go_must (refine wpList_append_run rfl (.tmp 24) (.tmp 27) 22 22 rfl rfl rfl Ha1.out ?_))
            refine (Ht2.out).mono ?_
            rintro e w' ⟨rfl, rfl⟩
            go_wp2_with (refine wpList_store_row rfl 51 (.tmp 2) (.tmp 33) rfl W.heap.size zRow rfl rfl _ _ hr3 (by kernel_rfl) rfl (one3 _ _ _) ?_)
            refine bodyPost_ret (results_ct rfl _ _ W.heap.size 51 zRow _ _ rfl (setRow_heap _ _ _ _ _ _ hr3) Tryd.underlying51 rfl (by kernel_rfl)) rfl ?_
            exact ⟨rfl, Hfin.out.2, Hfin.out.1⟩
end Go.Proofs.YtfogepoebihnoaaDoor
