/- The walk of (*squeezer).best: the match that it tells is a true one, and no shorter than that at a period. -/
import Derived.Test.YtfogepoebihnoaaDoorSql
import Derived.Deep.RegionHeld3
import Derived.StillTailTactics
namespace Go.Proofs.YtfogepoebihnoaaDoor
open Go.RowKit Go.Maps
set_option linter.unusedSimpArgs false
set_option linter.unusedVariables false
/-- a match that is told: none, or a true one -/
def Tm (b : List UInt8) (at_ sz ds : Nat) : Prop := sz = 0 ∨ (sz ≤ 130 ∧ at_ + sz ≤ b.length ∧ 1 ≤ ds ∧ ds ≤ at_ ∧ ∀ j, j < sz → b.getD (at_ + j) 0 = b.getD (at_ + j - ds) 0)
/-- the distances up to k have been looked at -/
def Seen (b : List UInt8) (at_ sz k : Nat) : Prop := ∀ p, 1 ≤ p → p ≤ k → ∃ n, Mt b at_ p n ∧ n ≤ sz
theorem Tm.look {b : List UInt8} {at_ sz ds d n : Nat} (h : Tm b at_ sz ds) (hm : Mt b at_ d n) (hd : 1 ≤ d) (hda : d ≤ at_) : Tm b at_ (if sz < n then n else sz) (if sz < n then d else ds) := by
  by_cases e : sz < n
  · rw [if_pos e, if_pos e]; exact .inr ⟨hm.1, hm.2.1, hd, hda, hm.2.2.1⟩
  · rw [if_neg e, if_neg e]; exact h
theorem Seen.grow {b : List UInt8} {at_ sz sz' k : Nat} (h : Seen b at_ sz k) (hl : sz ≤ sz') : Seen b at_ sz' k := fun p h1 h2 => by
  obtain ⟨n, a, c⟩ := h p h1 h2
  exact ⟨n, a, by omega⟩
theorem Seen.next {b : List UInt8} {at_ sz k n : Nat} (h : Seen b at_ sz k) (hm : Mt b at_ (k + 1) n) : Seen b at_ (if sz < n then n else sz) (k + 1) := fun p h1 h2 => by
  by_cases e : p = k + 1
  · subst e
    exact ⟨n, hm, by split <;> omega⟩
  · obtain ⟨m, a, c⟩ := h p h1 (by omega)
    exact ⟨m, a, by split <;> omega⟩
theorem Seen.far {b : List UInt8} {at_ sz k : Nat} (h : Seen b at_ sz k) (hk : min 64 at_ ≤ k) : Far b at_ sz := fun p hp hpa => by
  obtain ⟨p1, p2, p3, p4⟩ := hp
  obtain ⟨n, hm, hn⟩ := h p p1 (by omega)
  rcases hm.2.2.2 with e | e | e
  · omega
  · have := hm.2.1; omega
  · have hl := hm.2.1
    rcases Nat.lt_or_ge (at_ + n) b.length with h1 | h1
    · exact absurd (p4 (at_ + n) (by omega) h1) e
    · omega
def BsPost (b : List UInt8) (at_ : Nat) (w : World) (e : Ending) (w' : World) : Prop := ∃ n d : Nat, e = .returned (.tuple #[.int .i64 (n : Int), .int .i64 (d : Int)]) ∧ Tm b at_ n d ∧ Far b at_ n ∧ Below w.heap.size w w'
theorem four0 (w : World) (a b c d : Obj) : ((((w.alloc a).alloc b).alloc c).alloc d).heap[w.heap.size]? = some a ∧ ((((w.alloc a).alloc b).alloc c).alloc d).heap[w.heap.size + 1]? = some b ∧
    ((((w.alloc a).alloc b).alloc c).alloc d).heap[w.heap.size + 1 + 1]? = some c ∧ ((((w.alloc a).alloc b).alloc c).alloc d).heap[w.heap.size + 1 + 1 + 1]? = some d ∧ Below w.heap.size w ((((w.alloc a).alloc b).alloc c).alloc d) := by
  refine ⟨?_, ?_, ?_, ?_, ((((Below.refl _ _).alloc (Nat.le_refl _) _).alloc (by simp) _).alloc (by simp; omega) _).alloc (by simp; omega) _⟩
  · rw [Below.heap_alloc _ _ _ (by simp <;> omega), Below.heap_alloc _ _ _ (by simp <;> omega), Below.heap_alloc _ _ _ (by simp)]
    exact heap_alloc_new w a
  · rw [Below.heap_alloc _ _ _ (by simp <;> omega), Below.heap_alloc _ _ _ (by simp)]
    have := heap_alloc_new (w.alloc a) b
    rwa [World.size_alloc] at this
  · rw [Below.heap_alloc _ _ _ (by simp)]
    have := heap_alloc_new ((w.alloc a).alloc b) c
    rwa [World.size_alloc, World.size_alloc] at this
  · have := heap_alloc_new (((w.alloc a).alloc b).alloc c) d
    rwa [World.size_alloc, World.size_alloc, World.size_alloc] at this
/-- what holds in best -/
def BsI (b : List UInt8) (w : World) (R at_ sz ds k : Nat) (wr : World) : Prop := LkI wr w.heap.size (w.heap.size + 1) (w.heap.size + 1 + 1) (w.heap.size + 1 + 1 + 1) R at_ sz ds ∧ Below w.heap.size w wr ∧ Tm b at_ sz ds ∧ Seen b at_ sz k
theorem sq_zeroE (w : World) : (zeroValue 3).run Tryd.prog w = .ok (.int .i64 0) w := by kernel_rfl
theorem owns_at {w w' : World} {B n : Nat} {D : DataW Unit} (h : w.ownsMap Tryd.prog 75 (plainElem Tryd.prog 3) B n D) (e : w'.heap[B]? = w.heap[B]?) : w'.ownsMap Tryd.prog 75 (plainElem Tryd.prog 3) B n D := by
  obtain ⟨es, clock, h1, h2, h3, h4⟩ := h
  exact ⟨es, clock, e.trans h1, h2, h3, h4⟩
theorem owns_lt {w : World} {B n : Nat} {D : DataW Unit} (h : w.ownsMap Tryd.prog 75 (plainElem Tryd.prog 3) B n D) : B < w.heap.size := by
  obtain ⟨es, clock, h1, _⟩ := h
  exact (Array.getElem?_eq_some_iff.1 h1).1
theorem sq_slice (g off N c at_ q : Nat) (hq : at_ + 4 = q) (hqN : q ≤ N) (hc : N ≤ c) (W : World) : (Instr.sliceAt 22 (.slice (some ⟨g, off, none⟩) N c) (some (.int .i64 (at_ : Int))) (some (.int .i64 (q : Int))) none).run Tryd.prog W = .ok (.slice (some ⟨g, off + at_, none⟩) 4 (c - at_)) W := by
  obtain ⟨i5, hi5, hz0, hz1, hz2⟩ := info_parts info5
  have b2 : (0 : Int) ≤ (q : Int) ∧ (q : Int) ≤ (c : Int) := by omega
  have b3 : ¬ (q < at_) := by omega
  have b4 : (0 : Int) ≤ (at_ : Int) ∧ (at_ : Int) ≤ (q : Int) := by omega
  have b5 : q - at_ = 4 := by omega
  have b6 : ¬ c = at_ := by omega
  have b7 : q ≤ c := by omega
  have b8 : at_ ≤ q := by omega
  have hadd : (⟨g, off, none⟩ : Addr).add at_ = ⟨g, off + at_, none⟩ := by unfold Addr.add; split <;> simp_all
  simp [Instr.sliceAt, Instr.slice, run_underlying Tryd.underlying22, Instr.sliceBounds, Instr.sliceBound, asIntOf, b2, b3, b4, b5, b6, b7, b8, sizeOf, typeInfo, hi5, hz1, hadd]
theorem sq_cells {w : World} {g off at_ N : Nat} {b : List UInt8} (hr : Rd w (some ⟨g, off, none⟩) b) (hN : b.length = N) (h4 : at_ + 4 ≤ N) (j : Nat) (hj : j < 4) : w.cell? ⟨g, off + at_ + j, none⟩ = some (.int .u8 ((b.getD (at_ + j) 0).toNat : Int)) := by
  obtain ⟨ad, e, hh⟩ := hr (at_ + j) (by omega)
  cases e
  have hadd : (⟨g, off, none⟩ : Addr).add (at_ + j) = ⟨g, off + (at_ + j), none⟩ := by unfold Addr.add; split <;> simp_all
  rw [hadd] at hh
  rw [show off + at_ + j = off + (at_ + j) by omega, hh]
  simp [vb, List.getD, show at_ + j < b.length by omega]
theorem BsI.sm {b : List UInt8} {w wr w' : World} {R at_ sz ds k : Nat} (h : BsI b w R at_ sz ds k wr) (hs : Sm wr w') : BsI b w R at_ sz ds k w' :=
  ⟨h.1.sm hs, ⟨hs.os.trans h.2.1.os, hs.tape.trans h.2.1.tape, hs.output.trans h.2.1.output, by rw [hs.heap]; exact h.2.1.size, fun k hk => by rw [hs.heap]; exact h.2.1.block k hk⟩, h.2.2⟩
theorem BsI.step {b : List UInt8} {w wr w' : World} {R at_ sz ds k d : Nat} {e : Ending} (h : BsI b w R at_ sz ds k wr) (hp : LkPost b wr w.heap.size (w.heap.size + 1) (w.heap.size + 1 + 1) (w.heap.size + 1 + 1 + 1) R at_ sz ds d e w') (hd : 1 ≤ d) (hda : d ≤ at_) :
    e = .returned (.tuple #[]) ∧ ∃ sz' ds', sz ≤ sz' ∧ BsI b w R at_ sz' ds' k w' ∧ (d = k + 1 → BsI b w R at_ sz' ds' (k + 1) w') := by
  obtain ⟨h1, h2, h3, h4⟩ := h
  obtain ⟨n, he, hm, hI, o1, o2, o3, o4, o5⟩ := hp
  have hb : Below w.heap.size w w' := ⟨o1.trans h2.os, o2.trans h2.tape, o3.trans h2.output, by rw [o4]; exact h2.size, fun k hk => (o5 k (by omega) (by omega)).trans (h2.block k hk)⟩
  have hle : sz ≤ if sz < n then n else sz := by split <;> omega
  exact ⟨he, _, _, hle, ⟨hI, hb, h3.look hm hd hda, h4.grow hle⟩, fun e => by subst e; exact ⟨hI, hb, h3.look hm hd hda, h4.next hm⟩⟩
set_option maxHeartbeats 4000000 in
set_option maxRecDepth 100000 in
theorem best_calls (R B n g off c : Nat) (b : List UInt8) (at_ : Nat) (w : World) (hR : w.cell? ⟨R, 0, none⟩ = some (.slice (some ⟨g, off, none⟩) b.length c)) (hM : w.cell? ⟨R, 2, none⟩ = some (.map (some B))) (hc : b.length ≤ c) (hr : Rd w (some ⟨g, off, none⟩) b) (hb : b.length ≤ 4096) (hl : at_ ≤ b.length) (hmp : MpOk w B n at_) :
    Calls Tryd.prog 30 #[.pointer (some ⟨R, 0, none⟩), .int .i64 at_] w fun e w' => BsPost b at_ w e w' := by
  have HR := Lib.hid hR
  have HM := Lib.hid hM
  have Hr := Lib.hid hr
  have Hmp := Lib.hid hmp
  clear hR hM hr hmp
  go_enter Tryd.func30, Tryd.ntmps30
  go_wp2_with fail
  obtain ⟨W4, hW4⟩ : ∃ W4, ((((w.alloc (.cells #[.pointer (some ⟨R, 0, none⟩)] 73)).alloc (.cells #[.int .i64 (at_ : Int)] 3)).alloc (.cells #[.int .i64 0] 3)).alloc (.cells #[.int .i64 0] 3)) = W4 := ⟨_, rfl⟩
  have h4 := four0 w (.cells #[.pointer (some ⟨R, 0, none⟩)] 73) (.cells #[.int .i64 (at_ : Int)] 3) (.cells #[.int .i64 0] 3) (.cells #[.int .i64 0] 3)
  rw [hW4] at h4 ⊢
  obtain ⟨q1, q2, q3, q4, q5⟩ := h4
  have H0 := Lib.hid (show BsI b w R at_ 0 0 0 W4 from ⟨⟨by rw [cell_of_row _ _ _ _ _ _ q1]; rfl, by rw [cell_of_row _ _ _ _ _ _ q2]; rfl, q3, q4, by omega, by omega, by omega, by omega, by omega⟩, q5, .inl rfl, fun p h1 h2 => by omega⟩)
  clear hW4 q1 q2 q3 q4 q5
  have HRl := Lib.hid (World.block_lt_of_cell? w _ HR.out)
  have HLk := Lib.hid (fun (sz ds d k : Nat) (wr : World) (h : BsI b w R at_ sz ds k wr) (h1 : 1 ≤ d) (h2 : d ≤ at_) => look_calls w.heap.size (w.heap.size + 1) (w.heap.size + 1 + 1) (w.heap.size + 1 + 1 + 1) R at_ sz ds d (some ⟨g, off, none⟩) c b wr h.1 ((h.2.1.cell HRl.out).trans HR.out) (Hr.out.below h.2.1) h1 h2 hl hb)
  go_loopw [9] (fun i wr => ∃ k sz ds : Nat, k ≤ 64 ∧ k ≤ at_ ∧ i = .int .i64 ((k : Int) + 1) ∧ Hid (BsI b w R at_ sz ds k wr)) (fun i _ => 66 - (intOf i).toNat)
  case atStart => exact ⟨0, 0, 0, by omega, by omega, rfl, H0⟩
  case round =>
    clear H0
    rename World => wr
    obtain ⟨k, sz, ds, hk, hka, rfl, H⟩ := hrel
    have r2 := H.out.1.r2
    by_cases hgo : k < 64 ∧ k < at_
    · obtain ⟨hk64, hkat⟩ := hgo
      have HL := Lib.hid (HLk.out sz ds (k + 1) k wr H.out (by omega) (by omega))
      have hcast : ((k + 1 : Nat) : Int) = (k : Int) + 1 := by omega
      rw [hcast] at HL
      by_cases hat : at_ < 64
      · have hat2 : (at_ : Int) < 64 := by omega
        have hle : (k : Int) + 1 ≤ (at_ : Int) := by omega
        go_wp2_with fail
        refine (HL.out).mono ?_
        intro e w' hp
        obtain ⟨rfl, sz', ds', _, _, h6⟩ := H.out.step hp (by omega) (by omega)
        have HN := Lib.hid (h6 rfl)
        clear hp h6
        go_wp2_with fail
        exact ⟨⟨k + 1, sz', ds', by omega, by omega, by go_num, HN⟩, by simp [intOf]; omega⟩
      · have hat2 : ¬ (at_ : Int) < 64 := by omega
        have hle : (k : Int) + 1 ≤ 64 := by omega
        go_wp2_with fail
        refine (HL.out).mono ?_
        intro e w' hp
        obtain ⟨rfl, sz', ds', _, _, h6⟩ := H.out.step hp (by omega) (by omega)
        have HN := Lib.hid (h6 rfl)
        clear hp h6
        go_wp2_with fail
        exact ⟨⟨k + 1, sz', ds', by omega, by omega, by go_num, HN⟩, by simp [intOf]; omega⟩
    · have hfar := H.out.2.2.2.far (show min 64 at_ ≤ k by omega)
      obtain ⟨N, hN⟩ : ∃ N, b.length = N := ⟨_, rfl⟩
      have HN := Lib.hid hN
      have HF := Lib.hid hfar
      have r1 := H.out.1.r1
      have r1d : wr.drew.cell? ⟨w.heap.size, 0, none⟩ = some (.pointer (some ⟨R, 0, none⟩)) := r1
      have r2d : wr.drew.cell? ⟨w.heap.size + 1, 0, none⟩ = some (.int .i64 (at_ : Int)) := r2
      have rR : wr.cell? ⟨R, 0, none⟩ = some (.slice (some ⟨g, off, none⟩) N c) := by rw [← hN]; exact (H.out.2.1.cell HRl.out).trans HR.out
      have rRd : wr.drew.cell? ⟨R, 0, none⟩ = some (.slice (some ⟨g, off, none⟩) N c) := rR
      obtain ⟨q, hq⟩ : ∃ q, at_ + 4 = q := ⟨_, rfl⟩
      have e1 : (at_ : Int) + 4 = (q : Int) := by omega
      have e2 : IntKind.i64.wrap ((at_ : Int) + 4) = (q : Int) := by rw [IntKind.wrap_i64]; omega
      have e3 : IntKind.i64.wrap (q : Int) = (q : Int) := by rw [IntKind.wrap_i64]; omega
      have Hq := Lib.hid hq
      have hkat : k ≤ at_ := hka
      have Hend := Lib.hid (fun (W : World) (h : BsI b w R at_ sz ds k W) => show W.cell? ⟨w.heap.size + 1 + 1, 0, none⟩ = some (.int .i64 (sz : Int)) ∧ W.cell? ⟨w.heap.size + 1 + 1 + 1, 0, none⟩ = some (.int .i64 (ds : Int)) from ⟨by rw [cell_of_row _ _ _ _ _ _ h.1.r3]; rfl, by rw [cell_of_row _ _ _ _ _ _ h.1.r4]; rfl⟩)
      have HD := Lib.hid (H.out.sm (Sm.refl wr).drew)
      clear hfar hN hq
      rcases (show (at_ < 64 ∧ k = at_) ∨ (¬ at_ < 64 ∧ k = 64) by omega) with ⟨hat, hke⟩ | ⟨hat, hke⟩
      · have hat2 : (at_ : Int) < 64 := by omega
        have hcnd : ¬ ((k : Int) + 1 ≤ (at_ : Int)) := by omega
        clear hke hgo
        by_cases hqN : q ≤ N
        · have hqNi : (q : Int) ≤ (N : Int) := by omega
          obtain ⟨D, hm1, hm2, hm3⟩ := Hmp.out
          have hBl := owns_lt hm2
          have hown : wr.drew.drew.ownsMap Tryd.prog 75 (plainElem Tryd.prog 3) B n D := owns_at hm2 (HD.out.2.1.block B hBl)
          have HO := Lib.hid (And.intro hown (And.intro hm1 hm3))
          have hRd := Hr.out.below HD.out.2.1
          obtain ⟨x0, x1, x2, x3, c0, c1, c2, c3⟩ : ∃ x0 x1 x2 x3 : UInt8, wr.drew.drew.cell? ⟨g, off + at_, none⟩ = some (.int .u8 (x0.toNat : Int)) ∧ wr.drew.drew.cell? ⟨g, off + at_ + 1, none⟩ = some (.int .u8 (x1.toNat : Int)) ∧ wr.drew.drew.cell? ⟨g, off + at_ + 2, none⟩ = some (.int .u8 (x2.toNat : Int)) ∧ wr.drew.drew.cell? ⟨g, off + at_ + 3, none⟩ = some (.int .u8 (x3.toNat : Int)) :=
            ⟨_, _, _, _, sq_cells hRd HN.out (by have := Hq.out; omega) 0 (by omega), sq_cells hRd HN.out (by have := Hq.out; omega) 1 (by omega), sq_cells hRd HN.out (by have := Hq.out; omega) 2 (by omega), sq_cells hRd HN.out (by have := Hq.out; omega) 3 (by omega)⟩
          have d0 : wr.drew.cell? ⟨g, off + at_, none⟩ = _ := c0
          have d1 : wr.drew.cell? ⟨g, off + at_ + 1, none⟩ = _ := c1
          have d2 : wr.drew.cell? ⟨g, off + at_ + 2, none⟩ = _ := c2
          have d3 : wr.drew.cell? ⟨g, off + at_ + 3, none⟩ = _ := c3
          have f0 : wr.cell? ⟨g, off + at_, none⟩ = _ := c0
          have f1 : wr.cell? ⟨g, off + at_ + 1, none⟩ = _ := c1
          have f2 : wr.cell? ⟨g, off + at_ + 2, none⟩ = _ := c2
          have f3 : wr.cell? ⟨g, off + at_ + 3, none⟩ = _ := c3
          obtain ⟨kl, hkl⟩ := sq_key x0 x1 x2 x3
          have Hkl := Lib.hid hkl
          have hsl := fun W => sq_slice g off N c at_ q Hq.out hqN (by rw [← HN.out]; exact hc) W
          have hatt : ∀ (W : World) (k : Nat), (Instr.arrayAt 75 (.slice (some ⟨g, off + at_, none⟩) 4 k)).run Tryd.prog W = .ok (.pointer (some ⟨g, off + at_, none⟩)) W := fun W k => run_arrayAt W 75 5 4 _ 4 k Tryd.underlying75 (Nat.le_refl _)
          have rM : wr.cell? ⟨R, 2, none⟩ = some (.map (some B)) := (H.out.2.1.cell (World.block_lt_of_cell? w _ HM.out)).trans HM.out
          have rMd : wr.drew.cell? ⟨R, 2, none⟩ = some (.map (some B)) := rM
          clear hm1 hm2 hm3 hown hkl hRd
          go_wp2_with fail
          go_region_held3 (fun w' => w'.cell? ⟨w.heap.size, 0, none⟩ = some (.pointer (some ⟨R, 0, none⟩)) ∧ w'.cell? ⟨w.heap.size + 1, 0, none⟩ = some (.int .i64 (at_ : Int)) ∧ w'.cell? ⟨R, 0, none⟩ = some (.slice (some ⟨g, off, none⟩) N c)) (first | exact ⟨r1d, r2d, rRd⟩ | exact ⟨r1, r2, rR⟩ | go_keep) (first | fail)
          generalize hwq : wr.drew = wq at *
          obtain ⟨vv, ps, hrun, hvv⟩ := HO.out.1.look_ok sq_keyed Tryd.underlying61 (sq_zeroE _) (plainElem_int Tryd.underlying3 (by decide)) Hkl.out
          obtain ⟨cc, rfl, hcc0, hwf⟩ := plainElem_int_inv Tryd.underlying3 hvv
          have hcc : D.atKey kl (.lit (.int .i64 0)) = .lit (.int .i64 cc) := congrArg Prod.fst hcc0
          have Hcc := Lib.hid hcc
          have Hhas := Lib.hid (show ∀ bb : Bool, has D kl = bb → has D kl = bb from fun _ h => h)
          obtain ⟨hb, hhb⟩ : ∃ hb, has D kl = hb := ⟨_, rfl⟩
          have Hhb := Lib.hid hhb
          rw [hhb] at hrun
          simp only [k4] at hrun
          clear hcc hcc0 hvv hwf hhb
          go_wp2_with fail
          go_region_held3 (fun w' => w'.cell? ⟨w.heap.size, 0, none⟩ = some (.pointer (some ⟨R, 0, none⟩)) ∧ w'.cell? ⟨w.heap.size + 1, 0, none⟩ = some (.int .i64 (at_ : Int)) ∧ w'.cell? ⟨R, 0, none⟩ = some (.slice (some ⟨g, off, none⟩) N c) ∧ w'.cell? ⟨R, 2, none⟩ = some (.map (some B)) ∧
            w'.cell? ⟨g, off + at_, none⟩ = some (.int .u8 (x0.toNat : Int)) ∧ w'.cell? ⟨g, off + at_ + 1, none⟩ = some (.int .u8 (x1.toNat : Int)) ∧ w'.cell? ⟨g, off + at_ + 2, none⟩ = some (.int .u8 (x2.toNat : Int)) ∧ w'.cell? ⟨g, off + at_ + 3, none⟩ = some (.int .u8 (x3.toNat : Int)))
            (first | exact ⟨r1d, r2d, rRd, rMd, c0, c1, c2, c3⟩ | go_keep) (first | fail)
          have HD2 := Lib.hid (HD.out.sm (Sm.refl _).drew)
          generalize hw2 : wq.drew = w2 at *
          clear hw2 c0 c1 c2 c3 d0 d1 d2 d3 f0 f1 f2 f3 hsl hatt r1d r2d rRd rMd hwq hrun
          have s1 := HD2.out.1.r1
          have s2 := HD2.out.1.r2
          have hh := Hhb.out
          cases hb
          · obtain ⟨z1, z2⟩ := Hend.out _ HD2.out
            obtain ⟨z3, z4⟩ := Hend.out _ (HD2.out.sm (Sm.refl _).drew)
            clear hh
            go_wp2_with fail
            go_region_held3 (fun w' => w'.cell? ⟨w.heap.size + 1 + 1, 0, none⟩ = some (.int .i64 (sz : Int)) ∧ w'.cell? ⟨w.heap.size + 1 + 1 + 1, 0, none⟩ = some (.int .i64 (ds : Int))) (first | exact ⟨z3, z4⟩ | exact ⟨z1, z2⟩ | go_keep) (first | fail)
            go_wp2_with fail
            go_ret2
            exact ⟨sz, ds, rfl, HD2.out.2.2.1, HF.out, (HD2.out.sm (Sm.refl _).drew).2.1⟩
          · obtain ⟨p, hp, hpe⟩ := HO.out.2.2 kl hh
            have hcp : cc = (p : Int) := by
              have := Hcc.out
              rw [hpe] at this
              injection this with this
              injection this with _ this
              exact this.symm
            subst hcp
            obtain ⟨d, hd⟩ : ∃ d, at_ - p = d := ⟨_, rfl⟩
            have g1 : (at_ : Int) - (p : Int) = (d : Int) := by omega
            have HL := Lib.hid (HLk.out sz ds d k w2 HD2.out (by omega) (by omega))
            have Hd := Lib.hid (show 1 ≤ d ∧ d ≤ at_ by omega)
            clear hh hpe hd
            go_wp2_with fail
            refine (HL.out).mono ?_
            intro e w' hp'
            obtain ⟨rfl, sz', ds', hle', h5, _⟩ := HD2.out.step hp' Hd.out.1 Hd.out.2
            have H5 := Lib.hid h5
            have HF5 := Lib.hid (show Far b at_ sz' from fun p' h1 h2 => Nat.le_trans (HF.out p' h1 h2) hle')
            have z1 : w'.cell? ⟨w.heap.size + 1 + 1, 0, none⟩ = some (.int .i64 (sz' : Int)) := by rw [cell_of_row _ _ _ _ _ _ h5.1.r3]; rfl
            have z2 : w'.cell? ⟨w.heap.size + 1 + 1 + 1, 0, none⟩ = some (.int .i64 (ds' : Int)) := by rw [cell_of_row _ _ _ _ _ _ h5.1.r4]; rfl
            have z3 : w'.drew.cell? ⟨w.heap.size + 1 + 1, 0, none⟩ = some (.int .i64 (sz' : Int)) := z1
            have z4 : w'.drew.cell? ⟨w.heap.size + 1 + 1 + 1, 0, none⟩ = some (.int .i64 (ds' : Int)) := z2
            clear hp' h5 hle'
            go_wp2_with fail
            go_region_held3 (fun w' => w'.cell? ⟨w.heap.size + 1 + 1, 0, none⟩ = some (.int .i64 (sz' : Int)) ∧ w'.cell? ⟨w.heap.size + 1 + 1 + 1, 0, none⟩ = some (.int .i64 (ds' : Int))) (first | exact ⟨z3, z4⟩ | exact ⟨z1, z2⟩ | go_keep) (first | fail)
            go_wp2_with fail
            go_ret2
            exact ⟨sz', ds', rfl, H5.out.2.2.1, HF5.out, (H5.out.sm (Sm.refl _).drew).2.1⟩
        · have hqNi : ¬ (q : Int) ≤ (N : Int) := by omega
          go_wp2_with fail
          go_region_held3 (fun w' => w'.cell? ⟨w.heap.size, 0, none⟩ = some (.pointer (some ⟨R, 0, none⟩)) ∧ w'.cell? ⟨w.heap.size + 1, 0, none⟩ = some (.int .i64 (at_ : Int)) ∧ w'.cell? ⟨R, 0, none⟩ = some (.slice (some ⟨g, off, none⟩) N c)) (first | exact ⟨r1d, r2d, rRd⟩ | exact ⟨r1, r2, rR⟩ | go_keep) (first | fail)
          obtain ⟨z1, z2⟩ := Hend.out _ HD.out
          obtain ⟨z3, z4⟩ := Hend.out _ (HD.out.sm (Sm.refl _).drew)
          go_wp2_with fail
          go_region_held3 (fun w' => w'.cell? ⟨w.heap.size + 1 + 1, 0, none⟩ = some (.int .i64 (sz : Int)) ∧ w'.cell? ⟨w.heap.size + 1 + 1 + 1, 0, none⟩ = some (.int .i64 (ds : Int))) (first | exact ⟨z3, z4⟩ | exact ⟨z1, z2⟩ | go_keep) (first | fail)
          go_wp2_with fail
          go_ret2
          exact ⟨sz, ds, rfl, HD.out.2.2.1, HF.out, (HD.out.sm (Sm.refl _).drew).2.1⟩
      · have hat2 : ¬ (at_ : Int) < 64 := by omega
        have hcnd : ¬ ((k : Int) + 1 ≤ 64) := by omega
        clear hke hgo
        by_cases hqN : q ≤ N
        · have hqNi : (q : Int) ≤ (N : Int) := by omega
          obtain ⟨D, hm1, hm2, hm3⟩ := Hmp.out
          have hBl := owns_lt hm2
          have hown : wr.drew.drew.ownsMap Tryd.prog 75 (plainElem Tryd.prog 3) B n D := owns_at hm2 (HD.out.2.1.block B hBl)
          have HO := Lib.hid (And.intro hown (And.intro hm1 hm3))
          have hRd := Hr.out.below HD.out.2.1
          obtain ⟨x0, x1, x2, x3, c0, c1, c2, c3⟩ : ∃ x0 x1 x2 x3 : UInt8, wr.drew.drew.cell? ⟨g, off + at_, none⟩ = some (.int .u8 (x0.toNat : Int)) ∧ wr.drew.drew.cell? ⟨g, off + at_ + 1, none⟩ = some (.int .u8 (x1.toNat : Int)) ∧ wr.drew.drew.cell? ⟨g, off + at_ + 2, none⟩ = some (.int .u8 (x2.toNat : Int)) ∧ wr.drew.drew.cell? ⟨g, off + at_ + 3, none⟩ = some (.int .u8 (x3.toNat : Int)) :=
            ⟨_, _, _, _, sq_cells hRd HN.out (by have := Hq.out; omega) 0 (by omega), sq_cells hRd HN.out (by have := Hq.out; omega) 1 (by omega), sq_cells hRd HN.out (by have := Hq.out; omega) 2 (by omega), sq_cells hRd HN.out (by have := Hq.out; omega) 3 (by omega)⟩
          have d0 : wr.drew.cell? ⟨g, off + at_, none⟩ = _ := c0
          have d1 : wr.drew.cell? ⟨g, off + at_ + 1, none⟩ = _ := c1
          have d2 : wr.drew.cell? ⟨g, off + at_ + 2, none⟩ = _ := c2
          have d3 : wr.drew.cell? ⟨g, off + at_ + 3, none⟩ = _ := c3
          have f0 : wr.cell? ⟨g, off + at_, none⟩ = _ := c0
          have f1 : wr.cell? ⟨g, off + at_ + 1, none⟩ = _ := c1
          have f2 : wr.cell? ⟨g, off + at_ + 2, none⟩ = _ := c2
          have f3 : wr.cell? ⟨g, off + at_ + 3, none⟩ = _ := c3
          obtain ⟨kl, hkl⟩ := sq_key x0 x1 x2 x3
          have Hkl := Lib.hid hkl
          have hsl := fun W => sq_slice g off N c at_ q Hq.out hqN (by rw [← HN.out]; exact hc) W
          have hatt : ∀ (W : World) (k : Nat), (Instr.arrayAt 75 (.slice (some ⟨g, off + at_, none⟩) 4 k)).run Tryd.prog W = .ok (.pointer (some ⟨g, off + at_, none⟩)) W := fun W k => run_arrayAt W 75 5 4 _ 4 k Tryd.underlying75 (Nat.le_refl _)
          have rM : wr.cell? ⟨R, 2, none⟩ = some (.map (some B)) := (H.out.2.1.cell (World.block_lt_of_cell? w _ HM.out)).trans HM.out
          have rMd : wr.drew.cell? ⟨R, 2, none⟩ = some (.map (some B)) := rM
          clear hm1 hm2 hm3 hown hkl hRd
          go_wp2_with fail
          go_region_held3 (fun w' => w'.cell? ⟨w.heap.size, 0, none⟩ = some (.pointer (some ⟨R, 0, none⟩)) ∧ w'.cell? ⟨w.heap.size + 1, 0, none⟩ = some (.int .i64 (at_ : Int)) ∧ w'.cell? ⟨R, 0, none⟩ = some (.slice (some ⟨g, off, none⟩) N c)) (first | exact ⟨r1d, r2d, rRd⟩ | exact ⟨r1, r2, rR⟩ | go_keep) (first | fail)
          generalize hwq : wr.drew = wq at *
          obtain ⟨vv, ps, hrun, hvv⟩ := HO.out.1.look_ok sq_keyed Tryd.underlying61 (sq_zeroE _) (plainElem_int Tryd.underlying3 (by decide)) Hkl.out
          obtain ⟨cc, rfl, hcc0, hwf⟩ := plainElem_int_inv Tryd.underlying3 hvv
          have hcc : D.atKey kl (.lit (.int .i64 0)) = .lit (.int .i64 cc) := congrArg Prod.fst hcc0
          have Hcc := Lib.hid hcc
          have Hhas := Lib.hid (show ∀ bb : Bool, has D kl = bb → has D kl = bb from fun _ h => h)
          obtain ⟨hb, hhb⟩ : ∃ hb, has D kl = hb := ⟨_, rfl⟩
          have Hhb := Lib.hid hhb
          rw [hhb] at hrun
          simp only [k4] at hrun
          clear hcc hcc0 hvv hwf hhb
          go_wp2_with fail
          go_region_held3 (fun w' => w'.cell? ⟨w.heap.size, 0, none⟩ = some (.pointer (some ⟨R, 0, none⟩)) ∧ w'.cell? ⟨w.heap.size + 1, 0, none⟩ = some (.int .i64 (at_ : Int)) ∧ w'.cell? ⟨R, 0, none⟩ = some (.slice (some ⟨g, off, none⟩) N c) ∧ w'.cell? ⟨R, 2, none⟩ = some (.map (some B)) ∧
            w'.cell? ⟨g, off + at_, none⟩ = some (.int .u8 (x0.toNat : Int)) ∧ w'.cell? ⟨g, off + at_ + 1, none⟩ = some (.int .u8 (x1.toNat : Int)) ∧ w'.cell? ⟨g, off + at_ + 2, none⟩ = some (.int .u8 (x2.toNat : Int)) ∧ w'.cell? ⟨g, off + at_ + 3, none⟩ = some (.int .u8 (x3.toNat : Int)))
            (first | exact ⟨r1d, r2d, rRd, rMd, c0, c1, c2, c3⟩ | go_keep) (first | fail)
          have HD2 := Lib.hid (HD.out.sm (Sm.refl _).drew)
          generalize hw2 : wq.drew = w2 at *
          clear hw2 c0 c1 c2 c3 d0 d1 d2 d3 f0 f1 f2 f3 hsl hatt r1d r2d rRd rMd hwq hrun
          have s1 := HD2.out.1.r1
          have s2 := HD2.out.1.r2
          have hh := Hhb.out
          cases hb
          · obtain ⟨z1, z2⟩ := Hend.out _ HD2.out
            obtain ⟨z3, z4⟩ := Hend.out _ (HD2.out.sm (Sm.refl _).drew)
            clear hh
            go_wp2_with fail
            go_region_held3 (fun w' => w'.cell? ⟨w.heap.size + 1 + 1, 0, none⟩ = some (.int .i64 (sz : Int)) ∧ w'.cell? ⟨w.heap.size + 1 + 1 + 1, 0, none⟩ = some (.int .i64 (ds : Int))) (first | exact ⟨z3, z4⟩ | exact ⟨z1, z2⟩ | go_keep) (first | fail)
            go_wp2_with fail
            go_ret2
            exact ⟨sz, ds, rfl, HD2.out.2.2.1, HF.out, (HD2.out.sm (Sm.refl _).drew).2.1⟩
          · obtain ⟨p, hp, hpe⟩ := HO.out.2.2 kl hh
            have hcp : cc = (p : Int) := by
              have := Hcc.out
              rw [hpe] at this
              injection this with this
              injection this with _ this
              exact this.symm
            subst hcp
            obtain ⟨d, hd⟩ : ∃ d, at_ - p = d := ⟨_, rfl⟩
            have g1 : (at_ : Int) - (p : Int) = (d : Int) := by omega
            have HL := Lib.hid (HLk.out sz ds d k w2 HD2.out (by omega) (by omega))
            have Hd := Lib.hid (show 1 ≤ d ∧ d ≤ at_ by omega)
            clear hh hpe hd
            go_wp2_with fail
            refine (HL.out).mono ?_
            intro e w' hp'
            obtain ⟨rfl, sz', ds', hle', h5, _⟩ := HD2.out.step hp' Hd.out.1 Hd.out.2
            have H5 := Lib.hid h5
            have HF5 := Lib.hid (show Far b at_ sz' from fun p' h1 h2 => Nat.le_trans (HF.out p' h1 h2) hle')
            have z1 : w'.cell? ⟨w.heap.size + 1 + 1, 0, none⟩ = some (.int .i64 (sz' : Int)) := by rw [cell_of_row _ _ _ _ _ _ h5.1.r3]; rfl
            have z2 : w'.cell? ⟨w.heap.size + 1 + 1 + 1, 0, none⟩ = some (.int .i64 (ds' : Int)) := by rw [cell_of_row _ _ _ _ _ _ h5.1.r4]; rfl
            have z3 : w'.drew.cell? ⟨w.heap.size + 1 + 1, 0, none⟩ = some (.int .i64 (sz' : Int)) := z1
            have z4 : w'.drew.cell? ⟨w.heap.size + 1 + 1 + 1, 0, none⟩ = some (.int .i64 (ds' : Int)) := z2
            clear hp' h5 hle'
            go_wp2_with fail
            go_region_held3 (fun w' => w'.cell? ⟨w.heap.size + 1 + 1, 0, none⟩ = some (.int .i64 (sz' : Int)) ∧ w'.cell? ⟨w.heap.size + 1 + 1 + 1, 0, none⟩ = some (.int .i64 (ds' : Int))) (first | exact ⟨z3, z4⟩ | exact ⟨z1, z2⟩ | go_keep) (first | fail)
            go_wp2_with fail
            go_ret2
            exact ⟨sz', ds', rfl, H5.out.2.2.1, HF5.out, (H5.out.sm (Sm.refl _).drew).2.1⟩
        · have hqNi : ¬ (q : Int) ≤ (N : Int) := by omega
          go_wp2_with fail
          go_region_held3 (fun w' => w'.cell? ⟨w.heap.size, 0, none⟩ = some (.pointer (some ⟨R, 0, none⟩)) ∧ w'.cell? ⟨w.heap.size + 1, 0, none⟩ = some (.int .i64 (at_ : Int)) ∧ w'.cell? ⟨R, 0, none⟩ = some (.slice (some ⟨g, off, none⟩) N c)) (first | exact ⟨r1d, r2d, rRd⟩ | exact ⟨r1, r2, rR⟩ | go_keep) (first | fail)
          obtain ⟨z1, z2⟩ := Hend.out _ HD.out
          obtain ⟨z3, z4⟩ := Hend.out _ (HD.out.sm (Sm.refl _).drew)
          go_wp2_with fail
          go_region_held3 (fun w' => w'.cell? ⟨w.heap.size + 1 + 1, 0, none⟩ = some (.int .i64 (sz : Int)) ∧ w'.cell? ⟨w.heap.size + 1 + 1 + 1, 0, none⟩ = some (.int .i64 (ds : Int))) (first | exact ⟨z3, z4⟩ | exact ⟨z1, z2⟩ | go_keep) (first | fail)
          go_wp2_with fail
          go_ret2
          exact ⟨sz, ds, rfl, HD.out.2.2.1, HF.out, (HD.out.sm (Sm.refl _).drew).2.1⟩
end Go.Proofs.YtfogepoebihnoaaDoor
