/- The walk of (*squeezer).note; what is known of the map: each number in it lies below the place. -/
import Derived.Test.YtfogepoebihnoaaDoorSqk
import Derived.StillTailTactics
import Derived.Laws.Cover3
namespace Go.Proofs.YtfogepoebihnoaaDoor
open Go.RowKit Go.Maps
set_option linter.unusedSimpArgs false
set_option linter.unusedVariables false
/-- block B is a map of at most n entries, each number in it below lim -/
def MpOk (w : World) (B n lim : Nat) : Prop := ∃ D : DataW Unit, IsMap D ∧ w.ownsMap Tryd.prog 75 (plainElem Tryd.prog 3) B n D ∧ ∀ kl, has D kl = true → ∃ p : Nat, p < lim ∧ ∀ z, D.atKey kl z = .lit (.int .i64 (p : Int))
theorem MpOk.mono {w : World} {B n lim lim' : Nat} (h : MpOk w B n lim) (hl : lim ≤ lim') : MpOk w B n lim' := by
  obtain ⟨D, h1, h2, h3⟩ := h
  exact ⟨D, h1, h2, fun kl hk => by obtain ⟨p, hp, e⟩ := h3 kl hk; exact ⟨p, by omega, e⟩⟩
theorem mp_put {D : DataW Unit} {lim p0 : Nat} {kl : Lit} (h1 : IsMap D) (h3 : ∀ k, has D k = true → ∃ p : Nat, p < lim ∧ ∀ z, D.atKey k z = .lit (.int .i64 (p : Int))) (hk : WideAt.IsKeyLit kl) (hp : p0 < lim) :
    IsMap (D.put kl (.lit (.int .i64 (p0 : Int)))) ∧ ∀ k, has (D.put kl (.lit (.int .i64 (p0 : Int)))) k = true → ∃ p : Nat, p < lim ∧ ∀ z, (D.put kl (.lit (.int .i64 (p0 : Int)))).atKey k z = .lit (.int .i64 (p : Int)) := by
  refine ⟨h1.put _ _, fun k hh => ?_⟩
  by_cases e : k = kl
  · subst e
    exact ⟨p0, hp, fun z => atKey_put_same h1 hk _ z⟩
  · rw [has_put_other e] at hh
    obtain ⟨p, a, b⟩ := h3 k hh
    exact ⟨p, a, fun z => by rw [atKey_put_other e]; exact b z⟩
set_option maxHeartbeats 4000000 in
set_option maxRecDepth 100000 in
theorem note_calls (R B n : Nat) (g off : Nat) (c : Nat) (b : List UInt8) (at_ : Nat) (w : World) (hR : w.cell? ⟨R, 0, none⟩ = some (.slice (some ⟨g, off, none⟩) b.length c)) (hM : w.cell? ⟨R, 2, none⟩ = some (.map (some B))) (hc : b.length ≤ c) (hr : Rd w (some ⟨g, off, none⟩) b) (hb : b.length ≤ 4096) (hn : n ≤ 100000) (ha : at_ ≤ 4096) (hmp : MpOk w B n at_) :
    Calls Tryd.prog 31 #[.pointer (some ⟨R, 0, none⟩), .int .i64 at_] w fun e w' => e = .returned (.tuple #[]) ∧ MpOk w' B (n + 1) (at_ + 1) ∧ w.grownBy w' (some B) := by
  have HR := Lib.hid hR
  have Hr := Lib.hid hr
  have Hmp := Lib.hid hmp
  obtain ⟨N, hN⟩ : ∃ N, b.length = N := ⟨_, rfl⟩
  have HN := Lib.hid hN
  rw [hN] at hR hb hc
  clear hr hmp hN
  by_cases h4 : at_ + 4 ≤ N
  · have e1 : (at_ : Int) + 4 ≤ (N : Int) := by omega
    obtain ⟨q, hq⟩ : ∃ q, at_ + 4 = q := ⟨_, rfl⟩
    have e2 : IntKind.i64.wrap ((at_ : Int) + 4) = (q : Int) := by rw [IntKind.wrap_i64]; omega
    obtain ⟨i5, hi5, hz0, hz1, hz2⟩ := info_parts info5
    have hsl : ∀ W : World, (Instr.sliceAt 22 (.slice (some ⟨g, off, none⟩) N c) (some (.int .i64 (at_ : Int))) (some (.int .i64 (q : Int))) none).run Tryd.prog W = .ok (.slice (some ⟨g, off + at_, none⟩) 4 (c - at_)) W := fun W => by
      have b2 : (0 : Int) ≤ (q : Int) ∧ (q : Int) ≤ (c : Int) := by omega
      have b3 : ¬ (q < at_) := by omega
      have b4 : (0 : Int) ≤ (at_ : Int) ∧ (at_ : Int) ≤ (q : Int) := by omega
      have b5 : q - at_ = 4 := by omega
      have b6 : ¬ c = at_ := by omega
      have b7 : q ≤ c := by omega
      have b8 : at_ ≤ q := by omega
      have hadd : (⟨g, off, none⟩ : Addr).add at_ = ⟨g, off + at_, none⟩ := by unfold Addr.add; split <;> simp_all
      simp [Instr.sliceAt, Instr.slice, run_underlying Tryd.underlying22, Instr.sliceBounds, Instr.sliceBound, asIntOf, b2, b3, b4, b5, b6, b7, b8, sizeOf, typeInfo, hi5, hz1, hadd]
    have hat : ∀ (W : World) (k : Nat), (Instr.arrayAt 75 (.slice (some ⟨g, off + at_, none⟩) 4 k)).run Tryd.prog W = .ok (.pointer (some ⟨g, off + at_, none⟩)) W := fun W k => run_arrayAt W 75 5 4 _ 4 k Tryd.underlying75 (Nat.le_refl _)
    have hcell : ∀ j, j < 4 → w.cell? ⟨g, off + at_ + j, none⟩ = some (.int .u8 ((b.getD (at_ + j) 0).toNat : Int)) := fun j hj => by
      obtain ⟨ad, e, hh⟩ := Hr.out (at_ + j) (by rw [HN.out]; omega)
      cases e
      have hadd : (⟨g, off, none⟩ : Addr).add (at_ + j) = ⟨g, off + (at_ + j), none⟩ := by unfold Addr.add; split <;> simp_all
      rw [hadd] at hh
      rw [show off + at_ + j = off + (at_ + j) by omega, hh]
      simp [vb, List.getD, show at_ + j < b.length by rw [HN.out]; omega]
    have c0 : w.cell? ⟨g, off + at_, none⟩ = some (.int .u8 ((b.getD (at_ + 0) 0).toNat : Int)) := hcell 0 (by omega)
    have c1 := hcell 1 (by omega)
    have c2 := hcell 2 (by omega)
    have c3 := hcell 3 (by omega)
    have hk0 := sq_key (b.getD (at_ + 0) 0) (b.getD (at_ + 1) 0) (b.getD (at_ + 2) 0) (b.getD (at_ + 3) 0)
    obtain ⟨kl, hkl⟩ := hk0
    have Hkl := Lib.hid hkl
    have hqN : q ≤ N := by omega
    obtain ⟨D, hm1, hm2, hm3⟩ := Hmp.out
    have Hown := Lib.hid (show w.drew.ownsMap Tryd.prog 75 (plainElem Tryd.prog 3) B n D from hm2)
    have Hm := Lib.hid (And.intro hm1 hm3)
    have hwfa : (Lit.int .i64 (at_ : Int)).wf = true := by simp [Lit.wf, IntKind.min, IntKind.max, IntKind.signed, IntKind.bits]; omega
    clear hcell hkl hq hm1 hm2 hm3
    go_enter Tryd.func31, Tryd.ntmps31
    go_wp2_with fail
    go_still_tail 15, (by kernel_rfl)
    change wpList _ _ _ _ _ w.drew
    generalize hw2 : w.drew = w2 at *
    refine wpList_mapUpdate_own _ rfl _ _ _ 61 rfl 75 3 sq_keyed Tryd.underlying61 _ B n D rfl Hown.out (by unfold maxLen; omega) _ _ kl rfl rfl Hkl.out _ [] (plainElem_int Tryd.underlying3 hwfa) ?_
    intro w1 hown1 hgrow1
    have Hown1 := Lib.hid hown1
    have Hgrow1 := Lib.hid hgrow1
    clear hown1 hgrow1
    go_wp2_with fail
    go_end0
    have hlt : ∀ k, has D k = true → ∃ p : Nat, p < at_ + 1 ∧ ∀ z, D.atKey k z = .lit (.int .i64 (p : Int)) := fun k hk => by
      obtain ⟨p, hp, e⟩ := Hm.out.2 k hk
      exact ⟨p, by omega, e⟩
    obtain ⟨x1, x2⟩ := mp_put (p0 := at_) Hm.out.1 hlt (sq_keyed.key Hkl.out) (by omega)
    refine ⟨rfl, ⟨_, x1, Hown1.out, x2⟩, ?_⟩
    have hg := Hgrow1.out
    rw [← hw2] at hg
    exact ⟨hg.os, hg.tape, hg.output, hg.size, hg.block⟩
  · have e1 : ¬ (at_ : Int) + 4 ≤ (N : Int) := by omega
    go_enter Tryd.func31, Tryd.ntmps31
    go_wp2_with fail
    go_end0
    refine ⟨rfl, ?_, ?_⟩
    · obtain ⟨D, h1, h2, h3⟩ := Hmp.out
      exact ⟨D, h1, h2.mono (by omega), fun kl hk => by obtain ⟨p, hp, e⟩ := h3 kl hk; exact ⟨p, by omega, e⟩⟩
    · exact ⟨rfl, rfl, rfl, Nat.le_refl _, fun _ _ _ => rfl⟩
end Go.Proofs.YtfogepoebihnoaaDoor
