/- A game is kept: an append onto the slice of kept ones. -/
/- The first game changes places with a kept one. -/
import Derived.Test.YtgkamdgegfioiaaDoorGmq
namespace Go.Proofs.YtgkamdgegfioiaaDoor
open Go.RowKit
set_option linter.unusedSimpArgs false
set_option linter.unusedVariables false
theorem infoOk : (Tryd.prog.info? 83).map (fun i => (i.zero, i.size, i.bytes)) = some (some (.agg #[.pointer none, .pointer none]), 2, 16) := by kernel_rfl
theorem appendK (w : World) (B : Nat) (v : Value) (L : List Gm) (h : OwnK w B v L) (hB : B ≤ w.heap.size) (b : Nat) (g : Gm) (hs : Bx w b 83 #[.pointer (some ⟨g.R, 0, none⟩), .pointer (some ⟨g.Q, 0, none⟩)]) (hn : L.length ≤ 4) :
    ∃ A n c w', (Builtin.append_ #[54, 54] 54 #[v, .slice (some ⟨b, 0, none⟩) 1 1]).run Tryd.prog w = .ok (.slice A n c) w' ∧ OwnK w' B (.slice A n c) (L ++ [g]) ∧ w.grownBy w' v.ownBlock := by
  obtain ⟨i5, hi, hz0, hz1, hz2⟩ := info_parts infoOk
  obtain ⟨v', w', h1, h2, h3, _, h5⟩ := run_append_own_at (P := Tryd.prog) w B 54 54 83 i5 _ 2 16 Tryd.underlying54 hi hz0 hz1 hz2 rfl (by omega) v L.length (okL L) h ⟨b, 0, none⟩ 1 1 (okL [g]) rfl (fun j u hj => by
    rw [addr_add0, hs.cell]
    have e : (okL [g])[j]? = (#[Value.pointer (some ⟨g.R, 0, none⟩), .pointer (some ⟨g.Q, 0, none⟩)] : Array Value)[j]? := by
      show [Value.pointer (some ⟨g.R, 0, none⟩), Value.pointer (some ⟨g.Q, 0, none⟩)][j]? = _
      simp
    rw [← e]
    exact hj) (okL_cell _) (by unfold maxLen; omega) (by omega) hB
  have ho : OwnK w' B v' (L ++ [g]) := by
    unfold OwnK
    rw [okL_append, List.length_append]
    exact h2
  obtain ⟨A, c, e, _⟩ := ho.at_
  subst e
  exact ⟨A, _, c, w', h1, ho, h3⟩
/-- one game more is kept -/
theorem St.push {w V V3 V4 : World} {P : Nat} {cur gn : Gm} {kept : List Gm} {vk vk' : Value} (h : St w V P cur kept vk) (hlen : kept.length < 4) (hb : Below V.heap.size V V3) (hi : GmI V3 V.heap.size gn)
    (ho : OwnK V4 w.heap.size vk' (kept ++ [gn])) (hg : V3.grownBy V4 vk.ownBlock) : St w (V4.setCell ⟨P, 2, none⟩ vk') P cur (kept ++ [gn]) vk' := by
  have h3 := h.kb hb
  have hkb : ∀ k, vk.ownBlock = some k → ∃ C, Bx V3 k 83 C := fun k hk => by
    rcases h3.own.2 with ⟨e, _⟩ | ⟨g, cap, C, e, _, hg2, _⟩
    · rw [e] at hk; cases hk
    · rw [e] at hk; cases hk; exact ⟨C, hg2⟩
  have hc4 : Chg V3 V4 (fun k => vk.ownBlock = some k) := Chg.ofGrown hg
  have hx4 : Bx V4 P 56 #[.pointer (some ⟨cur.R, 0, none⟩), .pointer (some ⟨cur.Q, 0, none⟩), vk] := (hc4.block P h3.box.lt (fun e => by
    obtain ⟨C, hC⟩ := hkb P e
    exact bx_ne hC h3.box (by decide) rfl)).trans h3.box
  have hc5 : Chg V4 (V4.setCell ⟨P, 2, none⟩ vk') (fun k => k = P) := Chg.setCell _ _ _ _
  have hc : Chg V3 (V4.setCell ⟨P, 2, none⟩ vk') (fun j => vk.ownBlock = some j ∨ j = P) := (hc4.mono (fun j _ e => .inl e)).trans (hc5.mono (fun j _ e => .inr e))
  have hn : ∀ g, GmI V3 w.heap.size g → ∀ j, GmS g j → ¬ (vk.ownBlock = some j ∨ j = P) := fun g hgi j hj e => by
    rcases e with e | e
    · obtain ⟨C, hC⟩ := hkb j e
      exact hgi.notBx hC (by decide) (by decide) (by decide) (by decide) hj
    · subst e
      exact hgi.notBx h3.box (by decide) (by decide) (by decide) (by decide) hj
  have hin : GmI V3 w.heap.size gn := hi.mono h.below.size
  refine ⟨h.hP, hx4.set 2 vk', ho.chg hc5 (fun k C _ hx e => by subst e; exact bx_ne hx hx4 (by decide) rfl), h3.one.chg hc (hn _ h3.one), fun g hg => ?_, ?_, Chg.below h3.below hc (fun k hk => ?_) h3.below.size, by rw [List.length_append]; show kept.length + 1 ≤ 4; omega⟩
  · rcases List.mem_append.1 hg with hg | hg
    · exact (h3.all g hg).chg hc (hn _ (h3.all g hg))
    · rw [List.mem_singleton.1 hg]
      exact hin.chg hc (hn _ hin)
  · rw [← List.cons_append, List.pairwise_append]
    refine ⟨h.apart, List.pairwise_singleton _ _, fun g hg g2 hg2 j hj hj2 => ?_⟩
    rw [List.mem_singleton.1 hg2] at hj2
    have h1 := (hi.blk hj2).1
    have h2 : GmI V w.heap.size g := by
      rcases List.mem_cons.1 hg with rfl | hg
      · exact h.one
      · exact h.all g hg
    have := (h2.blk hj).2.1
    omega
  · rcases hk with hk | hk
    · rcases h3.own.2 with ⟨e, _⟩ | ⟨g, cap, C, e, hbg, _⟩
      · rw [e] at hk; cases hk
      · rw [e] at hk; cases hk; exact hbg
    · rw [hk]; exact h.hP
theorem Rf.mono {w : World} {B B' Q : Nat} {u : Value} {L : List Rw} (h : Rf w B Q u L) (hb : B' ≤ B) : Rf w B' Q u L := ⟨Nat.le_trans hb h.hQ, h.row, ⟨h.own.1, by
  rcases h.own.2 with e | ⟨a, b, c, d, e, f⟩
  · exact .inl e
  · exact .inr ⟨a, b, c, d, Nat.le_trans hb e, f⟩⟩, h.len⟩
end Go.Proofs.YtgkamdgegfioiaaDoor

namespace Go.Proofs.YtgkamdgegfioiaaDoor
open Go.RowKit
set_option linter.unusedSimpArgs false
set_option linter.unusedVariables false
theorem okL_set : ∀ (L : List Gm) (i : Nat) (g : Gm) (hi : i < L.length), okL (L.set i g) = ((okL L).set (i * 2) (.pointer (some ⟨g.R, 0, none⟩))).set (i * 2 + 1) (.pointer (some ⟨g.Q, 0, none⟩))
  | [], i, _, hi => absurd hi (by simp)
  | x :: xs, 0, g, _ => rfl
  | x :: xs, i + 1, g, hi => by
    have ih := okL_set xs i g (by simpa using hi)
    rw [List.set_cons_succ, okL, okL, ih, show (i + 1) * 2 = i * 2 + 1 + 1 by omega]
    rfl
/-- the pairwise apart games, the first one exchanged with the i-th kept one -/
theorem pair_swap {x : Gm} {L : List Gm} (h : (x :: L).Pairwise Apart) (i : Nat) (hi : i < L.length) : (L[i] :: L.set i x).Pairwise Apart := by
  obtain ⟨h1, h2⟩ := List.pairwise_cons.1 h
  rw [List.pairwise_iff_getElem] at h2
  refine List.pairwise_cons.2 ⟨fun g hg => ?_, ?_⟩
  · obtain ⟨j, hj, rfl⟩ := List.mem_iff_getElem.1 hg
    rw [List.length_set] at hj
    rw [List.getElem_set]
    by_cases e : i = j
    · rw [if_pos e]
      exact (h1 _ (List.getElem_mem hi)).symm
    · rw [if_neg e]
      rcases Nat.lt_or_gt_of_ne e with h3 | h3
      · exact h2 i j hi hj h3
      · exact (h2 j i hj hi h3).symm
  · rw [List.pairwise_iff_getElem]
    intro a b ha hb hab
    rw [List.length_set] at ha hb
    rw [List.getElem_set, List.getElem_set]
    by_cases e1 : i = a
    · rw [if_pos e1, if_neg (by omega)]
      exact h1 _ (List.getElem_mem hb)
    · rw [if_neg e1]
      by_cases e2 : i = b
      · rw [if_pos e2]
        exact (h1 _ (List.getElem_mem ha)).symm
      · rw [if_neg e2]
        exact h2 a b ha hb hab
theorem okA_one (R Q : Nat) : (#[.pointer (some ⟨R, 0, none⟩), .pointer (some ⟨Q, 0, none⟩)] : Array Value).all (·.oneCell') = true := all_oneCell_toArray (okL_cell [⟨R, .bool false, 0, [], Q, .bool false⟩])
/-- a kept game is put at a place -/
theorem OwnK.whole {w : World} {B : Nat} {v : Value} {L : List Gm} (h : OwnK w B v L) {g : Nat} (hv : v.ownBlock = some g) {i : Nat} (hi : i < L.length) (y : Gm) :
    OwnK (w.setCells g (i * 2) [.pointer (some ⟨y.R, 0, none⟩), .pointer (some ⟨y.Q, 0, none⟩)]) B v (L.set i y) ∧ Chg w (w.setCells g (i * 2) [.pointer (some ⟨y.R, 0, none⟩), .pointer (some ⟨y.Q, 0, none⟩)]) (fun k => v.ownBlock = some k) ∧ w.there g (i * 2) 2 := by
  rcases h.2 with ⟨rfl, hn⟩ | ⟨g', cap, cur, rfl, hb, hg, hc, hm, hs, ht⟩
  · cases hv
  · obtain rfl : g = g' := (Option.some.inj hv).symm
    have hbx : Bx w g 83 cur := hg
    have hset : w.setCells g (i * 2) [.pointer (some ⟨y.R, 0, none⟩), .pointer (some ⟨y.Q, 0, none⟩)] = (w.setCell ⟨g, i * 2, none⟩ (.pointer (some ⟨y.R, 0, none⟩))).setCell ⟨g, i * 2 + 1, none⟩ (.pointer (some ⟨y.Q, 0, none⟩)) := rfl
    have h2 := (hbx.set (i * 2) (.pointer (some ⟨y.R, 0, none⟩))).set (i * 2 + 1) (.pointer (some ⟨y.Q, 0, none⟩))
    refine ⟨⟨by rw [List.length_set, okL_len, List.length_set], .inr ⟨g, cap, _, by rw [List.length_set], hb, by rw [hset]; exact h2, by rw [List.length_set]; exact hc, hm, by simpa using hs, ?_⟩⟩, ?_, fun k hk => ⟨?_, hbx.frozen _⟩⟩
    · rw [List.length_set, okL_set L i y hi, ← ht, Array.toList_setIfInBounds, Array.toList_setIfInBounds, List.take_set, List.take_set]
    · rw [hset]
      exact ((Chg.setCell _ _ _ _).trans (Chg.setCell _ _ _ _)).mono (fun k _ e => by rw [e]; rfl)
    · rw [hbx.cell]
      have : i * 2 + k < cur.size := by rw [hs]; omega
      simp [this]
/-- the struct and the slice hold the games in other places -/
theorem St.swap {w V W' : World} {P g : Nat} {cur : Gm} {kept : List Gm} {vk : Value} (h : St w V P cur kept vk) (i : Nat) (hi : i < kept.length) (hk : vk.ownBlock = some g) (hc : Chg V W' (fun j => j = P ∨ j = g))
    (hb : Bx W' P 56 #[.pointer (some ⟨kept[i].R, 0, none⟩), .pointer (some ⟨kept[i].Q, 0, none⟩), vk]) (ho : OwnK W' w.heap.size vk (kept.set i cur)) : St w W' P kept[i] (kept.set i cur) vk := by
  obtain ⟨C, hgb, hC⟩ : ∃ C, w.heap.size ≤ g ∧ Bx V g 83 C := by
    rcases h.own.2 with ⟨e, _⟩ | ⟨g', cap, C, e, hbg, hg2, _⟩
    · rw [e] at hk; cases hk
    · rw [e] at hk; cases hk; exact ⟨C, hbg, hg2⟩
  have hn : ∀ x, GmI V w.heap.size x → ∀ j, GmS x j → ¬ (j = P ∨ j = g) := fun x hx j hj e => by
    rcases e with e | e
    · subst e; exact hx.notBx h.box (by decide) (by decide) (by decide) (by decide) hj
    · subst e; exact hx.notBx hC (by decide) (by decide) (by decide) (by decide) hj
  have hall : ∀ x, x = cur ∨ x ∈ kept → GmI W' w.heap.size x := fun x hx => by
    have : GmI V w.heap.size x := by
      rcases hx with rfl | hx
      · exact h.one
      · exact h.all x hx
    exact this.chg hc (hn x this)
  refine ⟨h.hP, hb, ho, hall _ (.inr (List.getElem_mem hi)), fun x hx => hall x ?_, pair_swap h.apart i hi, Chg.below h.below hc (fun k e => ?_) h.below.size, by rw [List.length_set]; exact h.few⟩
  · rcases List.mem_or_eq_of_mem_set hx with hx | hx
    · exact .inr hx
    · exact .inl hx
  · rcases e with e | e
    · rw [e]; exact h.hP
    · rw [e]; exact hgb
end Go.Proofs.YtgkamdgegfioiaaDoor
