/- The walks of code.Parts and plain.CodeParts. -/
import Derived.Test.YtfogepoebihnoaaDoorTextw
namespace Go.Proofs.YtfogepoebihnoaaDoor
open Go.RowKit
set_option linter.unusedSimpArgs false
set_option linter.unusedVariables false
structure PrtI (w : World) (g : Nat) (T : Int × List PartD) (v : Value) (wr : World) (out : List PartD) (rest : List UInt8) (o cap f : Nat) : Prop where
  own : OwnP wr (w.heap.size + 1) v out
  rdr : Rdr w w.heap.size wr g o rest cap
  prt : partsR (f + 1) out rest = T
  fuel : rest.length ≤ f
  len : rest.length ≤ 140737488351300
  few : out.length ≤ 8
def PrtPost (w : World) (T : Int × List PartD) (e : Ending) (W' : World) : Prop :=
  ∃ v, e = .returned (.tuple #[v, errV T.1]) ∧ OwnP W' w.heap.size v T.2 ∧ Below w.heap.size w W'
theorem OwnP.mono {w : World} {B B' : Nat} {v : Value} {l : List PartD} (h : OwnP w B v l) (hB : B' ≤ B) : OwnP w B' v l := by
  refine ⟨h.1, ?_⟩
  rcases h.2 with h2 | ⟨g, cap, cur, hv, hg, rest⟩
  · exact .inl h2
  · exact .inr ⟨g, cap, cur, hv, by omega, rest⟩
theorem OwnP.setBelow {w : World} {B : Nat} {v : Value} {l : List PartD} (h : OwnP w B v l) {a : Addr} (ha : a.block < B) (u : Value) : OwnP (w.setCell a u) B v l := ownsRow_setCell_below h ha u
theorem OwnP.keep {w w' : World} {B R : Nat} {v : Value} {l : List PartD} (h : OwnP w B v l) (hg : w.grownBy w' (some R)) (hR : R < B) : OwnP w' B v l := by
  refine World.ownsRow.kept (row := some R) h hg ?_
  cases hv : v.ownBlock with
  | none => exact .inl rfl
  | some k =>
    refine .inr fun e => ?_
    cases e
    have := World.ownsRow.lt h _ hv
    omega
theorem pVals_append (l m : List PartD) : pVals (l ++ m) = pVals l ++ pVals m := by
  induction l with
  | nil => rfl
  | cons p r ih => simp [pVals, ih]
theorem own_appendP {w : World} {B : Nat} {v : Value} {out : List PartD} (h : OwnP w B v out) (hB : B ≤ w.heap.size) (p : PartD) (hl : out.length ≤ 8) :
    ∃ v' W', (Builtin.append_ #[29, 29] 29 #[v, .slice (some ⟨w.heap.size, 0, none⟩) 1 1]).run Tryd.prog (w.alloc (.cells (cellsPt p) 51)) = .ok v' W' ∧ OwnP W' B v' (out ++ [p]) ∧ Below B w W' := by
  obtain ⟨i5, hi, hz0, hz1, hz2⟩ := info_parts infoP3
  have hown : (w.alloc (.cells (cellsPt p) 51)).ownsRow B 51 3 v out.length (pVals out) := World.ownsRow.alloc h _
  have hnew := heap_alloc_new w (.cells (cellsPt p) 51)
  obtain ⟨v', w', h1, h2, h3, _⟩ := run_append_own (P := Tryd.prog) (w.alloc (.cells (cellsPt p) 51)) B 29 29 51 i5 _ 3 32 Tryd.underlying29 hi hz0 hz1 hz2 rfl (by omega) v out.length (pVals out) hown ⟨w.heap.size, 0, none⟩ 1 1 (pVals [p]) rfl (fun j u hu => by
      rw [addr_add0, cell_of_row _ _ _ _ _ _ hnew]
      simpa [pVals] using hu) (pVals_one [p]) (by unfold maxLen; omega) (by omega) (by simp; omega)
  refine ⟨v', w', h1, ?_, ?_⟩
  · unfold OwnP
    rw [pVals_append, List.length_append]
    exact h2
  · exact ((Below.refl B w).alloc hB _).grown h3 (by simp; omega) fun k hk => (World.ownsRow.lt hown k hk).1
theorem run_onePart (w : World) (p : PartD) : (Instr.buildSlice 29 1 #[(0, .agg (cellsPt p))]).run Tryd.prog w = .ok (.slice (some ⟨w.heap.size, 0, none⟩) 1 1) (w.alloc (.cells (cellsPt p) 51)) := by
  obtain ⟨i5, hi, hz0, hz1, hz2⟩ := info_parts infoP3
  simp [Instr.buildSlice, run_underlying Tryd.underlying29, sizeOf, typeInfo, hi, hz0, hz1, zeroValue, Instr.fill, newRow, Value.cells, show Array.range 1 = #[0] from rfl, show Array.range 3 = #[0, 1, 2] from rfl]
theorem OwnP.setRow {w : World} {B k : Nat} {v : Value} {l : List PartD} (h : OwnP w B v l) (hk : v.ownBlock ≠ some k) (C : Array Value) : OwnP (w.setRow k C) B v l :=
  World.ownsRow.kept (row := some k) h ⟨rfl, rfl, rfl, by simp, fun i hi hne => setRow_other w k i C (fun e => hne (by rw [e]))⟩ (.inr hk)
theorem OwnP.nil (w : World) (B : Nat) : OwnP w B (.slice none 0 0) [] := World.ownsRow_nil w B _ 3
section
variable {P : Program}
theorem wpList_store_rowW {ops : Array Oper} {rest : List Oper} {o : Oper} {a : Act} {w W4 : World} {Q : Exit → Act → World → Prop} (hgd : o.guard = none) (ty : TypeId) (x y : Operand) (ho : o.op = .store ty x y)
    (g : Nat) (cells : Array Value) (hW : Hid (w.setRow g cells = W4)) (hx : a.eval x = .pointer (some ⟨g, 0, none⟩)) (hy : a.eval y = .agg cells)
    (t : TypeId) (old : Array Value) (hg : w.heap[g]? = some (.cells old t (0, 0))) (hi : (P.info? ty).map (·.size) = some cells.size)
    (hold : old.size = cells.size) (h1 : cells.all (·.oneCell') = true)
    (h : wpList P ops Q rest (a.put o.dst undef) W4) : wpList P ops Q (o :: rest) a w := by
  have hW := hW.out
  subst hW
  exact wpList_store_row hgd ty x y ho g cells hx hy t old hg hi hold h1 h
end
set_option maxHeartbeats 4000000 in
set_option maxRecDepth 100000 in
theorem partsw_calls (w : World) (g o : Nat) (bs : List UInt8) (cap : Nat) (hc : bs.length ≤ cap) (hr : Rd w (some ⟨g, o, none⟩) bs) (hl : bs.length ≤ 140737488351300) :
    Calls Tryd.prog 25 #[.slice (some ⟨g, o, none⟩) bs.length cap] w fun e W' => PrtPost w (parts bs) e W' := by
  obtain ⟨iP, hiP, hp0, hp1, hp2⟩ := info_parts infoP3
  obtain ⟨i5, hi5, hz0, hz1, hz2⟩ := info_parts info5
  unfold parts
  generalize hT : partsR (bs.length + 1) [] bs = T
  have hI : PrtI w g T (.slice none 0 0) (w.alloc (.cells #[.slice (some ⟨g, o, none⟩) bs.length cap] 56)) [] bs o cap bs.length :=
    ⟨OwnP.nil _ _, ⟨heap_alloc_new w _, hc, hr, (Below.refl _ _).alloc (Nat.le_refl _) _, Nat.le_refl _, by omega⟩, hT, Nat.le_refl _, hl, by simp⟩
  have HI := Lib.hid hI
  clear hI hT hr
  go_enter Tryd.func25, Tryd.ntmps25
  go_wp2_with fail
  go_loopw [5] (fun v wr => ∃ (out : List PartD) (rest : List UInt8) (o cap f : Nat), Hid (PrtI w g T v wr out rest o cap f)) (fun _ wr => cellLen wr w.heap.size)
  case atStart => exact ⟨[], bs, o, cap, bs.length, HI⟩
  case round =>
    clear HI hl hc
    obtain ⟨out, rest, o, cap, f, H⟩ := hrel
    have hcell := H.out.rdr.cell
    cases rest with
    | nil =>
      simp only [List.length_nil] at hcell
      have hT : T = (0, out) := H.out.prt.symm
      subst hT
      go_wp2_with fail
      go_ret2
      exact ⟨_, rfl, H.out.own.mono (Nat.le_succ _), H.out.rdr.below⟩
    | cons t r =>
      simp only [List.length_cons] at hcell
      have hmeas := cellLen_of hcell
      have hf := H.out.fuel
      have hln := H.out.len
      have hroom := H.out.rdr.room
      simp only [List.length_cons] at hf hln hroom
      obtain ⟨f, rfl⟩ : ∃ j, f = j + 1 := ⟨f - 1, by omega⟩
      have ht1 := take_long w.heap.size (some ⟨g, o, none⟩) (r.length + 1) cap 1 1 wr hcell H.out.rdr.frozen rfl (by omega) hroom (by omega)
      obtain ⟨o1, hR1, hadv1⟩ := H.out.rdr.adv 1 (by simp)
      rw [hadv1] at ht1 hR1
      simp only [List.length_cons, Nat.add_sub_cancel, List.drop_succ_cons, List.drop_zero] at ht1 hR1
      have ho1 := H.out.own.setBelow (a := ⟨w.heap.size, 0, none⟩) (Nat.lt_succ_self _) (.slice (some ⟨g, o1, none⟩) r.length (cap - 1))
      have hct : (wr.setCell ⟨w.heap.size, 0, none⟩ (.slice (some ⟨g, o1, none⟩) r.length (cap - 1))).cell? ⟨g, o, none⟩ = some (.int .u8 (t.toNat : Int)) := by
        obtain ⟨ad, he, hc⟩ := (H.out.rdr.rd.below hR1.below) 0 (by simp)
        cases he
        exact hc
      have Ht1 := Lib.hid ht1
      have hprt := H.out.prt
      have hfew := H.out.few
      simp only [partsR] at hprt
      have Hmeas := Lib.hid hmeas
      have hsz1 : w.heap.size + 1 ≤ (wr.setCell ⟨w.heap.size, 0, none⟩ (.slice (some ⟨g, o1, none⟩) r.length (cap - 1))).heap.size := hR1.lt
      generalize hW1 : wr.setCell ⟨w.heap.size, 0, none⟩ (.slice (some ⟨g, o1, none⟩) r.length (cap - 1)) = W1 at *
      have hR2 := hR1.later ((Below.refl W1.heap.size W1).alloc (Nat.le_refl _) (.cells zRow 51))
      have ho2 := ho1.below ((Below.refl W1.heap.size W1).alloc (Nat.le_refl _) (.cells zRow 51))
      have hz2 := heap_alloc_new W1 (.cells zRow 51)
      have hsz2 : (W1.alloc (.cells zRow 51)).heap.size = W1.heap.size + 1 := by simp
      have ht0 := t.toNat_lt
      have HR2 := Lib.hid hR2
      have Ho2 := Lib.hid ho2
      have Hz2 := Lib.hid hz2
      have hrl : r.length ≤ 140737488351300 := by omega
      obtain ⟨Ao, co, hvo, _, _⟩ := ho2.form
      subst hvo
      have Hne := Lib.hid (show (Value.slice Ao out.length co).ownBlock ≠ some W1.heap.size from fun e => Nat.lt_irrefl _ (World.ownsRow.lt ho1 _ e).2)
      clear hR1 ho1 hR2 ho2 hz2 hmeas ht1 hadv1 H
      by_cases h32 : t.toNat = 32
      · have htx := Lib.hid (text_calls w w.heap.size (W1.alloc (.cells zRow 51)) g o1 r (cap - 1) HR2.out hrl)
        unfold partR at hprt
        rw [if_pos h32] at hprt
        have hXl : ∀ s' r', txtR (r.length + 1) [] r = some (s', r') → r'.length ≤ r.length := fun s' r' hx => by
          obtain ⟨t, _, e⟩ := txtR_sound _ _ _ _ _ hx
          rw [e]; simp; omega
        generalize txtR (r.length + 1) [] r = X at *
        have h32i : (t.toNat : Int) = 32 := by omega
        rw [h32i] at hct
        go_wp2_with fail
        refine (Ht1.out).mono ?_
        rintro e w' ⟨rfl, rfl⟩
        go_wp2_with fail
        refine (htx.out).mono ?_
        rintro e W3 hp
        cases X with
        | none =>
          obtain ⟨rfl, hg3, hb3⟩ := hp
          have hTT : (7, []) = T := hprt
          subst hTT
          have hres := (hg3.block w'.heap.size (by rw [hsz2]; omega) (by intro e; have := Option.some.inj e; omega)).trans Hz2.out
          have Hb3 := Lib.hid (below_setRow hb3 (show w.heap.size ≤ w'.heap.size by omega) zRow)
          clear hprt hb3 hg3
          go_wp2_with (refine wpList_store_row rfl 51 (.tmp 7) (.tmp 25) rfl w'.heap.size zRow rfl rfl _ _ hres (by kernel_rfl) rfl (one3 _ _ _) ?_)
          go_ret2
          exact ⟨_, rfl, OwnP.nil _ _, Hb3.out⟩
        | some sr =>
          obtain ⟨s', r'⟩ := sr
          have hXr := hXl s' r' rfl
          clear hXl
          obtain ⟨rfl, hg3, o3, cap3, hR3⟩ := hp
          have hres := (hg3.block w'.heap.size (by rw [hsz2]; omega) (by intro e; have := Option.some.inj e; omega)).trans Hz2.out
          by_cases h60 : s'.length ≤ 60
          · have hd : decide (s'.length ≤ 60) = true := by simpa using h60
            simp only [if_pos h60] at hprt
            by_cases h8 : out.length = 8
            · rw [if_pos h8] at hprt
              subst hprt
              have Hb3 := Lib.hid (below_setRow hR3.below (show w.heap.size ≤ w'.heap.size by omega) (cellsPt ⟨2, 0, s'⟩))
              have h8i : (out.length : Int) = 8 := by omega
              clear hg3 hR3
              simp only [hd]
              go_wp2_with (refine wpList_store_row rfl 51 (.tmp 7) (.tmp 25) rfl w'.heap.size (cellsPt ⟨2, 0, s'⟩) rfl rfl _ _ hres (by kernel_rfl) rfl (one3 _ _ _) ?_)
              go_ret2
              exact ⟨_, rfl, OwnP.nil _ _, Hb3.out⟩
            · rw [if_neg h8] at hprt
              have h8i : ¬ (out.length : Int) = 8 := by omega
              have ho4 := (Ho2.out.keep hg3 (Nat.lt_succ_self _)).setRow Hne.out (cellsPt ⟨2, 0, s'⟩)
              have hR4 := hR3.setRow (k := w'.heap.size) (by omega) (by omega) (cellsPt ⟨2, 0, s'⟩)
              have hrow4 := setRow_heap W3 w'.heap.size _ (cellsPt ⟨2, 0, s'⟩) _ _ hres
              obtain ⟨W4, hW4⟩ : ∃ W4, W3.setRow w'.heap.size (cellsPt ⟨2, 0, s'⟩) = W4 := ⟨_, rfl⟩
              rw [hW4] at ho4 hR4 hrow4
              have HW4 := Lib.hid hW4
              clear hW4
              obtain ⟨v5, W5, ha1, ha2, ha3⟩ := own_appendP ho4 (by have := hR4.lt; omega) ⟨2, 0, s'⟩ (by omega)
              have hc40 : W4.cell? ⟨w'.heap.size, 0, none⟩ = some (.int .i64 2) := by rw [cell_of_row _ _ _ _ _ _ hrow4]; rfl
              have hc41 : W4.cell? ⟨w'.heap.size, 1, none⟩ = some (.int .u64 0) := by rw [cell_of_row _ _ _ _ _ _ hrow4]; rfl
              have hc42 : W4.cell? ⟨w'.heap.size, 2, none⟩ = some (.string ⟨s'.toArray⟩) := by rw [cell_of_row _ _ _ _ _ _ hrow4]; rfl
              have HI := Lib.hid (show PrtI w g T v5 W5 (out ++ [⟨2, 0, s'⟩]) r' o3 cap3 f from ⟨ha2, hR4.keep ha3 (Nat.lt_succ_self _), hprt, by omega, by omega, by simp; omega⟩)
              have Ha1 := Lib.hid (show (Builtin.append_ #[29, 29] 29 #[.slice Ao out.length co, .slice (some ⟨W4.heap.size, 0, none⟩) 1 1]).run Tryd.prog (W4.alloc (.cells #[.int .i64 2, .int .u64 0, .string ⟨s'.toArray⟩] 51)) = .ok v5 W5 from ha1)
              clear ha1 ha2 ha3 ho4 hR4 hR3 hg3 hprt
              simp only [hd]
              go_wp2_with (first | (at_builtin; go_must (refine wpList_append_run rfl (.tmp 48) (.tmp 50) 29 29 rfl rfl rfl Ha1.out ?_)) | refine wpList_store_rowW rfl 51 (.tmp 7) (.tmp 25) rfl w'.heap.size (cellsPt ⟨2, 0, s'⟩) HW4 rfl rfl _ _ hres (by kernel_rfl) rfl (one3 _ _ _) ?_)
              exact ⟨⟨_, _, _, _, _, HI⟩, by rw [cellLen_of HI.out.rdr.cell, Hmeas.out]; omega⟩
          · have hd : decide (s'.length ≤ 60) = false := by simpa using h60
            simp only [if_neg h60] at hprt
            subst hprt
            have Hb3 := Lib.hid (below_setRow hR3.below (show w.heap.size ≤ w'.heap.size by omega) (cellsPt ⟨2, 0, s'⟩))
            clear hg3 hR3
            simp only [hd]
            go_wp2_with (refine wpList_store_row rfl 51 (.tmp 7) (.tmp 25) rfl w'.heap.size (cellsPt ⟨2, 0, s'⟩) rfl rfl _ _ hres (by kernel_rfl) rfl (one3 _ _ _) ?_)
            go_ret2
            exact ⟨_, rfl, OwnP.nil _ _, Hb3.out⟩
      · unfold partR at hprt
        rw [if_neg h32] at hprt
        by_cases h16 : 16 ≤ t.toNat ∧ t.toNat < 32
        · rw [if_pos h16] at hprt
          obtain ⟨h16, h31⟩ := h16
          have h32i : ¬ (t.toNat : Int) = 32 := by omega
          by_cases hbad : 24 < t.toNat ∨ r.length < t.toNat - 16 ∨ (16 < t.toNat ∧ r.getD 0 0 = 0)
          · rw [if_pos hbad] at hprt
            have hTT : (7, []) = T := hprt
            subst hTT
            have hnr := Lib.hid (number_read w w.heap.size (W1.alloc (.cells zRow 51)) g o1 r (cap - 1) (t.toNat - 16) ((t.toNat : Int) - 16) (by omega) HR2.out (by omega) (by
              rcases hbad with h | h | ⟨h, h'⟩
              · exact .inl (by omega)
              · exact .inr (.inl h)
              · exact .inr (.inr ⟨by omega, h'⟩)))
            clear hbad hprt
            generalize t.toNat = tn at *
            go_wp2_with fail
            refine (Ht1.out).mono ?_
            rintro e w' ⟨rfl, rfl⟩
            go_wp2_with fail
            refine (hnr.out).mono ?_
            rintro e W3 ⟨rfl, hg3, hb3⟩
            have hres := (hg3.block w'.heap.size (by rw [hsz2]; omega) (by intro e; have := Option.some.inj e; omega)).trans Hz2.out
            have Hb3 := Lib.hid (below_setRow hb3 (show w.heap.size ≤ w'.heap.size by omega) zRow)
            clear hb3 hg3
            go_wp2_with (refine wpList_store_row rfl 51 (.tmp 7) (.tmp 38) rfl w'.heap.size zRow rfl rfl _ _ hres (by kernel_rfl) rfl (one3 _ _ _) ?_)
            go_ret2
            exact ⟨_, rfl, OwnP.nil _ _, Hb3.out⟩
          · rw [if_neg hbad] at hprt
            have hnr := Lib.hid (number_good w w.heap.size (W1.alloc (.cells zRow 51)) g o1 r (cap - 1) (t.toNat - 16) ((t.toNat : Int) - 16) (by omega) HR2.out (by omega) (by omega) (fun h e => hbad (.inr (.inr ⟨by omega, e⟩))))
            have hXr : (r.drop (t.toNat - 16)).length ≤ r.length := by simp
            clear hbad
            simp only [] at hprt
            generalize numOf (r.take (t.toNat - 16)) = n at *
            generalize r.drop (t.toNat - 16) = r' at *
            generalize cap - 1 - (t.toNat - 16) = cap3 at *
            generalize t.toNat = tn at *
            go_wp2_with fail
            refine (Ht1.out).mono ?_
            rintro e w' ⟨rfl, rfl⟩
            go_wp2_with fail
            refine (hnr.out).mono ?_
            rintro e W3 ⟨rfl, hg3, o3, hR3⟩
            have hres := (hg3.block w'.heap.size (by rw [hsz2]; omega) (by intro e; have := Option.some.inj e; omega)).trans Hz2.out
            by_cases h8 : out.length = 8
            · rw [if_pos h8] at hprt
              subst hprt
              have Hb3 := Lib.hid (below_setRow hR3.below (show w.heap.size ≤ w'.heap.size by omega) (cellsPt ⟨1, n, []⟩))
              have h8i : (out.length : Int) = 8 := by omega
              clear hg3 hR3
              go_wp2_with (refine wpList_store_row rfl 51 (.tmp 7) (.tmp 38) rfl w'.heap.size (cellsPt ⟨1, n, []⟩) rfl rfl _ _ hres (by kernel_rfl) rfl (one3 _ _ _) ?_)
              go_ret2
              exact ⟨_, rfl, OwnP.nil _ _, Hb3.out⟩
            · rw [if_neg h8] at hprt
              have h8i : ¬ (out.length : Int) = 8 := by omega
              have ho4 := (Ho2.out.keep hg3 (Nat.lt_succ_self _)).setRow Hne.out (cellsPt ⟨1, n, []⟩)
              have hR4 := hR3.setRow (k := w'.heap.size) (by omega) (by omega) (cellsPt ⟨1, n, []⟩)
              have hrow4 := setRow_heap W3 w'.heap.size _ (cellsPt ⟨1, n, []⟩) _ _ hres
              obtain ⟨W4, hW4⟩ : ∃ W4, W3.setRow w'.heap.size (cellsPt ⟨1, n, []⟩) = W4 := ⟨_, rfl⟩
              rw [hW4] at ho4 hR4 hrow4
              have HW4 := Lib.hid hW4
              clear hW4
              obtain ⟨v5, W5, ha1, ha2, ha3⟩ := own_appendP ho4 (by have := hR4.lt; omega) ⟨1, n, []⟩ (by omega)
              have hc40 : W4.cell? ⟨w'.heap.size, 0, none⟩ = some (.int .i64 1) := by rw [cell_of_row _ _ _ _ _ _ hrow4]; rfl
              have hc41 : W4.cell? ⟨w'.heap.size, 1, none⟩ = some (.int .u64 n) := by rw [cell_of_row _ _ _ _ _ _ hrow4]; rfl
              have hc42 : W4.cell? ⟨w'.heap.size, 2, none⟩ = some (.string ⟨#[]⟩) := by rw [cell_of_row _ _ _ _ _ _ hrow4]; rfl
              have HI := Lib.hid (show PrtI w g T v5 W5 (out ++ [⟨1, n, []⟩]) r' o3 cap3 f from ⟨ha2, hR4.keep ha3 (Nat.lt_succ_self _), hprt, by omega, by omega, by simp; omega⟩)
              have Ha1 := Lib.hid (show (Builtin.append_ #[29, 29] 29 #[.slice Ao out.length co, .slice (some ⟨W4.heap.size, 0, none⟩) 1 1]).run Tryd.prog (W4.alloc (.cells #[.int .i64 1, .int .u64 n, .string ⟨#[]⟩] 51)) = .ok v5 W5 from ha1)
              clear ha1 ha2 ha3 ho4 hR4 hR3 hg3 hprt
              go_wp2_with (first | (at_builtin; go_must (refine wpList_append_run rfl (.tmp 48) (.tmp 50) 29 29 rfl rfl rfl Ha1.out ?_)) | refine wpList_store_rowW rfl 51 (.tmp 7) (.tmp 38) rfl w'.heap.size (cellsPt ⟨1, n, []⟩) HW4 rfl rfl _ _ hres (by kernel_rfl) rfl (one3 _ _ _) ?_)
              exact ⟨⟨_, _, _, _, _, HI⟩, by rw [cellLen_of HI.out.rdr.cell, Hmeas.out]; omega⟩
        · rw [if_neg h16] at hprt
          have hTT : (7, []) = T := hprt
          subst hTT
          have Hb3 := Lib.hid HR2.out.below
          have h32i : ¬ (t.toNat : Int) = 32 := by omega
          have h16i : ¬ (16 ≤ (t.toNat : Int) ∧ (t.toNat : Int) < 32) := by omega
          clear hprt h16
          generalize t.toNat = tn at *
          go_wp2_with fail
          refine (Ht1.out).mono ?_
          rintro e w' ⟨rfl, rfl⟩
          by_cases hlo : 16 ≤ (tn : Int)
          · have hhi : ¬ (tn : Int) < 32 := by omega
            clear h16i
            go_wp2_with fail
            go_ret2
            exact ⟨_, rfl, OwnP.nil _ _, Hb3.out⟩
          · clear h16i
            go_wp2_with fail
            go_ret2
            exact ⟨_, rfl, OwnP.nil _ _, Hb3.out⟩
end Go.Proofs.YtfogepoebihnoaaDoor
