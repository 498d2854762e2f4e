/- The walk of code.Squeeze: what comes out reads back as what went in, and is short. Condition: the slice reads as at most 4096 bytes. -/
import Derived.Test.YtfogepoebihnoaaDoorSqw
import Derived.Carry
namespace Go.Proofs.YtfogepoebihnoaaDoor
open Go.RowKit Go.Maps
set_option linter.unusedSimpArgs false
set_option linter.unusedVariables false
theorem SqS.belowS {w0 W W' : World} {R B : Nat} {A : Option Addr} {N c n lim fr : Nat} {v : Value} {out : List UInt8} (h : SqS w0 W R B A N c n lim fr v out) (hb : Below W.heap.size W W') : SqS w0 W' R B A N c n lim fr v out :=
  h.grown (row := none) ⟨hb.os, hb.tape, hb.output, hb.size, fun k hk _ => hb.block k hk⟩ (fun r e => by cases e)
theorem SqS.note {w0 W W' : World} {R B : Nat} {A : Option Addr} {N c n lim n' lim' fr : Nat} {v : Value} {out : List UInt8} (h : SqS w0 W R B A N c n lim fr v out) (hm : MpOk W' B n' lim') (hg : W.grownBy W' (some B)) : SqS w0 W' R B A N c n' lim' fr v out := by
  refine ⟨h.below.grown hg h.below.size (fun k e => by cases e; exact h.hB), h.hR, h.hB, (hg.block R (Array.getElem?_eq_some_iff.1 h.row).1 (fun e => h.neB.1 (by injection e))).trans h.row, World.ownsRow.kept (row := some B) h.own hg ?_, hm⟩
  cases e : v.ownBlock with
  | none => simp
  | some k => exact .inr (fun e2 => h.neB.2 k e (by injection e2))
def SqzPost (b : List UInt8) (w : World) (e : Ending) (w' : World) : Prop := ∃ v out, e = .returned (.tuple #[v, .nilIface]) ∧ OwnB w' w.heap.size 5 v out ∧ Below w.heap.size w w' ∧ sw (b.length : Int) (out.length + 1) out [] = (0, b) ∧
  out.length ≤ b.length + (b.length + 127) / 128 ∧ ∀ p, Per b p → out.length ≤ p + 8 + 3 * (b.length / 130)
theorem sq_part (g off c N fr at_ : Nat) (b : List UInt8) (w : World) (hN : b.length = N) (hf : fr ≤ at_) (ha : at_ ≤ N) (hc : N ≤ c) (hr : Rd w (some ⟨g, off, none⟩) b) :
    ∃ A' c', (∀ W, (Instr.sliceAt 22 (.slice (some ⟨g, off, none⟩) N c) (some (.int .i64 (fr : Int))) (some (.int .i64 (at_ : Int))) none).run Tryd.prog W = .ok (.slice A' ((b.take at_).drop fr).length c') W) ∧
      (0 < ((b.take at_).drop fr).length → A' = some ⟨g, off + fr, none⟩) ∧ Rd w A' ((b.take at_).drop fr) ∧ ((b.take at_).drop fr).length ≤ c' ∧ ((b.take at_).drop fr).length = at_ - fr := by
  obtain ⟨i5, hi5, hz0, hz1, hz2⟩ := info_parts info5
  have hl : ((b.take at_).drop fr).length = at_ - fr := by simp; omega
  have hrd : Rd w (some ⟨g, off + fr, none⟩) ((b.take at_).drop fr) := fun j hj => by
    rw [hl] at hj
    obtain ⟨ad, e, hh⟩ := hr (fr + j) (by omega)
    cases e
    refine ⟨_, rfl, ?_⟩
    have e1 : (⟨g, off + fr, none⟩ : Addr).add j = (⟨g, off, none⟩ : Addr).add (fr + j) := by unfold Addr.add; split <;> split <;> simp_all <;> omega
    rw [e1, hh]
    simp
  rw [hl]
  have b2 : (0 : Int) ≤ (at_ : Int) ∧ (at_ : Int) ≤ (c : Int) := by omega
  have b3 : ¬ (at_ < fr) := by omega
  have b4 : (0 : Int) ≤ (fr : Int) ∧ (fr : Int) ≤ (at_ : Int) := by omega
  have b7 : at_ ≤ c := by omega
  have hadd : (⟨g, off, none⟩ : Addr).add fr = ⟨g, off + fr, none⟩ := by unfold Addr.add; split <;> simp_all
  by_cases hcf : c = fr
  · have h0 : at_ - fr = 0 := by omega
    refine ⟨some ⟨g, off, none⟩, 0, fun W => ?_, fun h => by omega, fun j hj => by rw [hl] at hj; omega, by omega, rfl⟩
    have : at_ = fr := by omega
    subst this
    subst hcf
    simp [Instr.sliceAt, Instr.slice, run_underlying Tryd.underlying22, Instr.sliceBounds, Instr.sliceBound, asIntOf, b2, b3, b4, b7, sizeOf, typeInfo, hi5, hz1]
  · refine ⟨some ⟨g, off + fr, none⟩, c - fr, fun W => ?_, fun _ => rfl, hrd, by omega, rfl⟩
    simp [Instr.sliceAt, Instr.slice, run_underlying Tryd.underlying22, Instr.sliceBounds, Instr.sliceBound, asIntOf, b2, b3, b4, b7, hcf, sizeOf, typeInfo, hi5, hz1, hadd]
set_option maxHeartbeats 4000000 in
set_option maxRecDepth 100000 in
theorem squeeze_calls (g off c : Nat) (b : List UInt8) (w : World) (hc : b.length ≤ c) (hr : Rd w (some ⟨g, off, none⟩) b) (hb : b.length ≤ 4096) :
    Calls Tryd.prog 24 #[.slice (some ⟨g, off, none⟩) b.length c] w fun e w' => SqzPost b w e w' := by
  obtain ⟨i5, hi5, hz0, hz1, hz2⟩ := info_parts info5
  obtain ⟨N, hN⟩ : ∃ N, b.length = N := ⟨_, rfl⟩
  have HN := Lib.hid hN
  have Hr := Lib.hid hr
  rw [hN] at hb hc ⊢
  clear hr hN
  have hmm := fun W => run_makeMap (P := Tryd.prog) 61 W
  obtain ⟨R, hR⟩ : ∃ R, w.heap.size + 1 = R := ⟨_, rfl⟩
  have h0 : SqS w ((w.alloc (.map #[] 0)).alloc (.cells #[.slice (some ⟨g, off, none⟩) N c, .slice none 0 0, .map (some w.heap.size), .int .i64 ((0 : Nat) : Int)] 63)) R w.heap.size (some ⟨g, off, none⟩) N c 0 0 0 (.slice none 0 0) [] := by
    refine ⟨((Below.refl _ _).alloc (Nat.le_refl _) _).alloc (by simp) _, by omega, Nat.le_refl _, ?_, OwnB.nil _ _ _, ?_⟩
    · rw [← hR]
      have := heap_alloc_new (w.alloc (.map #[] 0)) (.cells #[.slice (some ⟨g, off, none⟩) N c, .slice none 0 0, .map (some w.heap.size), .int .i64 ((0 : Nat) : Int)] 63)
      rw [World.size_alloc] at this
      exact this
    · refine (show MpOk (w.alloc (.map #[] 0)) w.heap.size 0 0 from ⟨.map [], ?_, World.ownsMap_made _ _ _ _, fun kl h => ?_⟩).at (Below.heap_alloc _ _ _ (by simp))
      · exact isMap_empty
      · cases h
  have H0 := Lib.hid (And.intro h0 (SqI.start b))
  clear h0
  go_enter Tryd.func24, Tryd.ntmps24
  go_wp2_with fail
  have HR := Lib.hid hR
  obtain ⟨B, hB⟩ : ∃ B, w.heap.size = B := ⟨_, rfl⟩
  rw [hB] at H0 ⊢
  clear hR
  go_loopw [5] (fun i wr => ∃ (at_ fr : Nat) (v : Value) (out : List UInt8), i = .int .i64 (at_ : Int) ∧ at_ ≤ N ∧ Hid (SqS w wr R B (some ⟨g, off, none⟩) N c at_ at_ fr v out ∧ SqI b at_ fr out)) (fun i _ => N - (intOf i).toNat)
  case atStart => exact ⟨0, 0, _, _, rfl, by omega, H0⟩
  case round =>
    clear H0
    rename World => wr
    obtain ⟨at_, fr, v, out, rfl, hat, H⟩ := hrel
    by_cases hlt : at_ < N
    · have hlti : (at_ : Int) < (N : Int) := by omega
      have hrb : Rd wr (some ⟨g, off, none⟩) b := Hr.out.below H.out.1.below
      have hbest := best_calls R B at_ g off c b at_ wr (by rw [HN.out]; exact H.out.1.cells.1) H.out.1.cells.2.2.1 (by rw [HN.out]; exact hc) hrb (by rw [HN.out]; exact hb) (by rw [HN.out]; exact hat) H.out.1.mp
      have Hbest := Lib.hid hbest
      clear hbest hrb
      go_wp2_with fail
      refine (Hbest.out).mono ?_
      rintro e w1 ⟨n, d, rfl, htm, hfar, hbel⟩
      have Ht := Lib.hid (And.intro htm hfar)
      have H1 := Lib.hid (H.out.1.belowS hbel)
      clear htm hfar hbel Hbest
      by_cases h4 : n < 4
      · have h4i : (n : Int) < 4 := by omega
        have hnote := note_calls R B at_ g off c b at_ w1 (by rw [HN.out]; exact H1.out.cells.1) H1.out.cells.2.2.1 (by rw [HN.out]; exact hc) (Hr.out.below H1.out.below) (by rw [HN.out]; exact hb) (by omega) (by omega) H1.out.mp
        have Hnote := Lib.hid hnote
        clear hnote
        go_wp2_with fail
        refine (Hnote.out).mono ?_
        rintro e w2 ⟨rfl, hm2, hg2⟩
        have H2 := Lib.hid (And.intro (H1.out.note hm2 hg2) (H.out.2.lit (by rw [HN.out]; exact hlt) h4 Ht.out.2))
        clear hm2 hg2 Hnote
        go_wp2_with fail
        exact ⟨⟨at_ + 1, fr, v, out, by go_num, by omega, H2⟩, by simp [intOf]; omega⟩
      · have h4i : ¬ (n : Int) < 4 := by omega
        have htm : n ≤ 130 ∧ at_ + n ≤ b.length ∧ 1 ≤ d ∧ d ≤ at_ ∧ ∀ j, j < n → b.getD (at_ + j) 0 = b.getD (at_ + j - d) 0 := by
          rcases Ht.out.1 with h | h
          · omega
          · exact h
        have Htm := Lib.hid htm
        have hol : out.length ≤ 50000 := by have := H.out.2.base; have := H.out.2.fa; omega
        obtain ⟨A', c', hsl, hA', hx, hc', hxl⟩ := sq_part g off c N fr at_ b w HN.out H.out.2.fa hat hc Hr.out
        have hpl := plain_calls w w1 R B (some ⟨g, off, none⟩) A' N c at_ at_ fr at_ g (off + fr) c' v _ out H1.out hx hA' (by omega) hol hc' hsl
        have Hpl := Lib.hid hpl
        have Hrem := Lib.hid (And.intro hol htm)
        clear htm hpl hsl hA' hx hc' hxl hol
        go_wp2_with fail
        refine (Hpl.out).mono ?_
        rintro e w3 ⟨rfl, v3, hs3⟩
        have hdb : 1 ≤ d ∧ d ≤ at_ := ⟨Htm.out.2.2.1, Htm.out.2.2.2.1⟩
        have hnb : n ≤ 130 := Htm.out.1
        have hanN : at_ + n ≤ N := by have := Htm.out.2.1; rw [HN.out] at this; exact this
        have hlo : (out ++ chunkL ((b.take at_).drop fr)).length ≤ 100000 := by
          have := H.out.2.fa
          have h2 := Hrem.out.1
          rw [List.length_append, chunkL_len, List.length_drop, List.length_take]
          omega
        obtain ⟨y0, hy0⟩ : ∃ y0, n + 125 = y0 := ⟨_, rfl⟩
        obtain ⟨y1, hy1⟩ : ∃ y1, (d - 1) % 256 = y1 := ⟨_, rfl⟩
        obtain ⟨y2, hy2⟩ : ∃ y2, (d - 1) / 256 = y2 := ⟨_, rfl⟩
        have hcp : bArr (cpB n d) = #[.int .u8 (y0 : Int), .int .u8 (y1 : Int), .int .u8 (y2 : Int)] := by
          have t0 : (UInt8.ofNat (n + 125)).toNat = y0 := by rw [UInt8.toNat_ofNat', ← hy0]; exact Nat.mod_eq_of_lt (by omega)
          have t1 : (UInt8.ofNat (d - 1)).toNat = y1 := by rw [UInt8.toNat_ofNat', ← hy1]
          have t2 : (UInt8.ofNat ((d - 1) / 256)).toNat = y2 := by rw [UInt8.toNat_ofNat', ← hy2]; exact Nat.mod_eq_of_lt (by omega)
          show #[vb (UInt8.ofNat (n + 125)), vb (UInt8.ofNat (d - 1)), vb (UInt8.ofNat ((d - 1) / 256))] = _
          simp only [vb, t0, t1, t2]
        have hrd : Rd (w3.alloc (.cells #[.int .u8 (y0 : Int), .int .u8 (y1 : Int), .int .u8 (y2 : Int)] 5)) (some ⟨w3.heap.size, 0, none⟩) (cpB n d) := by
          refine Rd.block (L := cpB n d) (e := 5) (fr := (0, 0)) ?_ ⟨[], by simp⟩
          rw [hcp]
          exact heap_alloc_new w3 _
        have H3a := hs3.alloc (.cells #[.int .u8 (y0 : Int), .int .u8 (y1 : Int), .int .u8 (y2 : Int)] 5)
        obtain ⟨v4, w4, hr4, ho4, hb4, hg4⟩ := own_append (P := Tryd.prog) _ 22 22 5 i5 Tryd.underlying22 hi5 hz0 hz1 hz2 w.heap.size v3 _ H3a.own H3a.below.size _ 3 (cpB n d) hrd (by rw [show (cpB n d).length = 3 from rfl]; omega)
        obtain ⟨A4, n4, c4, rfl⟩ : ∃ A4 n4 c4, v4 = .slice A4 n4 c4 := by obtain ⟨A4, c4, h, _⟩ := ho4.form; exact ⟨_, _, _, h⟩
        obtain ⟨q1, q2, q3, q4, q5⟩ := H3a.put ho4 hg4 hb4
        have R4 := Lib.hid (show (Builtin.append_ #[22, 22] 22 #[v3, .slice (some ⟨w3.heap.size, 0, none⟩) 3 3]).run Tryd.prog (w3.alloc (.cells #[.int .u8 (y0 : Int), .int .u8 (y1 : Int), .int .u8 (y2 : Int)] 5)) = .ok (.slice A4 n4 c4) w4 from hr4)
        have HQ := Lib.hid q3
        have hc1 : w3.cell? ⟨R, 1, none⟩ = some v3 := hs3.cells.2.1
        have hc1a : (w3.alloc (.cells #[.int .u8 (y0 : Int), .int .u8 (y1 : Int), .int .u8 (y2 : Int)] 5)).cell? ⟨R, 1, none⟩ = some v3 := H3a.cells.2.1
        have e0 : IntKind.u8.wrap ((n : Int) + 125) = (y0 : Int) := by rw [IntKind.wrap_u8]; omega
        have e1 : IntKind.u8.wrap ((d : Int) - 1) = (y1 : Int) := by rw [IntKind.wrap_u8]; omega
        have e2 : ((d : Int) - 1) / 256 = (y2 : Int) := by omega
        have hy2b : y2 ≤ 255 := by omega
        clear hs3 Hpl hcp hrd H3a hr4 ho4 hb4 hg4 q3 q4 q5 hy0
        go_wp2_with (at_builtin; go_must (refine wpList_append_run rfl (.tmp 33) (.tmp 44) 22 22 rfl rfl rfl R4.out ?_))
        go_loopw [5, 48] (fun i j wr => ∃ (k : Nat), i = .int .i64 ((at_ + k : Nat) : Int) ∧ j = .int .i64 (k : Int) ∧ k ≤ n ∧ Hid (SqS w wr R B (some ⟨g, off, none⟩) N c (at_ + k) (at_ + k) at_ (.slice A4 n4 c4) (out ++ chunkL ((b.take at_).drop fr) ++ cpB n d))) (fun _ j _ => n - (intOf j).toNat)
        case atStart => exact ⟨0, by go_num, rfl, by omega, HQ⟩
        case round =>
          rename World => wk
          obtain ⟨k, rfl, rfl, hk, G⟩ := hrel
          clear q1 q2 R4 HQ hc1 hc1a e0 e1 e2
          by_cases hkn : k < n
          · have hkni : (k : Int) < (n : Int) := by omega
            obtain ⟨q, hq⟩ : ∃ q, at_ + k = q := ⟨_, rfl⟩
            rw [hq] at G ⊢
            have hnote := note_calls R B q g off c b q wk (by rw [HN.out]; exact G.out.cells.1) G.out.cells.2.2.1 (by rw [HN.out]; exact hc) (Hr.out.below G.out.below) (by rw [HN.out]; exact hb) (by omega) (by omega) G.out.mp
            have Hnote := Lib.hid hnote
            have Hq := Lib.hid hq
            have hqb : q ≤ 5000 := by omega
            clear hnote hq
            go_wp2_with fail
            refine (Hnote.out).mono ?_
            rintro e w6 ⟨rfl, hm2, hg2⟩
            have H2 := Lib.hid (G.out.note hm2 hg2)
            clear hm2 hg2 Hnote
            go_wp2_with fail
            refine ⟨⟨k + 1, by rw [← Hq.out]; congr 1, by go_num, by omega, ?_⟩, by simp [intOf]; omega⟩
            rw [show at_ + (k + 1) = q + 1 by have := Hq.out; omega]
            exact H2
          · obtain rfl : k = n := by omega
            obtain ⟨q, hq⟩ : ∃ q, at_ + k = q := ⟨_, rfl⟩
            have HG := Lib.hid (And.intro (G.out.atFrom (at_ + k)) (H.out.2.copy (by omega) hnb (by rw [HN.out]; exact hanN) hdb.1 hdb.2 (by omega) Htm.out.2.2.2.2 Ht.out.2))
            have f1 : wk.cell? ⟨R, 3, none⟩ = some (.int .i64 (at_ : Int)) := G.out.cells.2.2.2
            have f2 : wk.frozen? ⟨R, 3, none⟩ = false := frozen_of_row _ _ _ _ _ G.out.row
            rw [hq] at HG ⊢
            have hqb : at_ + 4 ≤ q ∧ q ≤ N := by omega
            clear hq G
            go_wp2_with fail
            exact ⟨⟨q, q, _, _, rfl, hqb.2, HG⟩, by simp [intOf]; omega⟩
    · obtain rfl : at_ = N := by omega
      have hol : out.length ≤ 50000 := by have := H.out.2.base; have := H.out.2.fa; omega
      obtain ⟨A', c', hsl, hA', hx, hc', hxl⟩ := sq_part g off c at_ fr at_ b w HN.out H.out.2.fa hat hc Hr.out
      have hpl := plain_calls w wr R B (some ⟨g, off, none⟩) A' at_ c at_ at_ fr at_ g (off + fr) c' v _ out H.out.1 hx hA' (by omega) hol hc' hsl
      have Hpl := Lib.hid hpl
      clear hpl hsl hA' hx hc' hxl hol
      go_wp2_with fail
      refine (Hpl.out).mono ?_
      rintro e w3 ⟨rfl, v3, hs3⟩
      have f1 : w3.cell? ⟨R, 1, none⟩ = some v3 := hs3.cells.2.1
      have hF := H.out.2
      rw [← HN.out] at hF
      have HF := Lib.hid hF.fin
      have H3 := Lib.hid hs3
      clear hs3 Hpl hF
      go_wp2_with fail
      go_ret2
      have e1 : (b.take at_).drop fr = b.drop fr := by rw [List.take_of_length_le (by rw [HN.out]; exact Nat.le_refl _)]
      rw [e1] at H3
      exact ⟨v3, _, rfl, H3.out.own, H3.out.below, HF.out.1, HF.out.2.1, HF.out.2.2⟩
set_option maxHeartbeats 400000 in
theorem squeeze_long (A : Option Addr) (n c : Nat) (w : World) (h : 4096 < n) (hn : n ≤ 140737488355328) :
    Calls Tryd.prog 24 #[.slice A n c] w fun e w' => e = .returned (.tuple #[.slice none 0 0, .iface 24 (.int .i64 6)]) ∧ w = w' := by
  have hi : (4096 : Int) < (n : Int) := by omega
  go_enter Tryd.func24, Tryd.ntmps24
  go_wp2_with fail
  go_ret2
  exact ⟨rfl, rfl⟩
end Go.Proofs.YtfogepoebihnoaaDoor
