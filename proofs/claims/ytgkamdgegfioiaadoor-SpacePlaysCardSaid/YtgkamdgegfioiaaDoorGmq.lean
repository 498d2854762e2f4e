/- Games: a space and what it should be; several at once, in the law's struct; Take of fewer than one row, a space of a bad number of rows. -/
/- The law's struct: a game under way, and kept ones. -/
/- Pairs of calls: Take, Grow. -/
/- The walk of the law's loads: written as bytes, read again. Condition: errors.errorType holds its handle. -/
import Derived.Test.YtgkamdgegfioiaaDoorWpq
import Derived.Test.YtgkamdgegfioiaaDoorKst
import Derived.Test.YtgkamdgegfioiaaDoorLent
namespace Go.Proofs.YtgkamdgegfioiaaDoor
open Go.RowKit
set_option linter.unusedSimpArgs false
set_option linter.unusedVariables false
set_option maxHeartbeats 1000000 in
theorem take_bad (w : World) (R : Nat) (n tag : Int) (hn : n < 1) :
    Calls Tryd.prog 23 #[.pointer (some ⟨R, 0, none⟩), .int .i64 n, .int .u64 tag] w fun e w' => e = .returned (.tuple #[.int .i64 0, errE 5]) ∧ w = w' := by
  go_enter Tryd.func23, Tryd.ntmps23
  go_wp2_with fail
  go_ret2
  exact ⟨rfl, rfl⟩
set_option maxHeartbeats 1000000 in
theorem pTake_bad (w : World) (R : Nat) (n tag : Int) (hn : n < 1) (hg : ErrH w) :
    Calls Tryd.prog 8 #[.agg #[.pointer (some ⟨R, 0, none⟩)], .int .i64 n, .int .u64 tag] w fun e w' => e = .returned (.tuple #[.int .i64 0, .int .i64 5]) ∧ Below w.heap.size w w' := by
  obtain ⟨W0, hW0⟩ : ∃ W0, w.alloc (.cells #[.pointer (some ⟨R, 0, none⟩)] 26) = W0 := ⟨_, rfl⟩
  obtain ⟨H, hH⟩ : ∃ H, w.heap.size = H := ⟨_, rfl⟩
  have hx0 : Bx W0 H 26 #[.pointer (some ⟨R, 0, none⟩)] := by rw [← hW0, ← hH]; exact Bx.new _ _ _
  have hb0 : Below w.heap.size w W0 := by rw [← hW0]; exact (Below.refl _ _).alloc (Nat.le_refl _) _
  have e0 : W0.cell? ⟨H, 0, none⟩ = some (.pointer (some ⟨R, 0, none⟩)) := hx0.cell 0
  have Hq := Lib.hid (take_bad W0 R n tag hn)
  have hn8 := number_calls 5 W0 (hg.below hg.lt hb0)
  rw [show errV 5 = errE 5 from rfl] at hn8
  have Hn8 := Lib.hid hn8
  have HB := Lib.hid hb0
  clear hn8 hx0 hb0 hg hn
  unfold errE at *
  go_enter Tryd.func8, Tryd.ntmps8
  go_wp2_with fail
  try rw [hW0]
  try rw [hH]
  go_wp2_with fail
  refine (Hq.out).mono ?_
  rintro e W1 ⟨rfl, hw1⟩
  subst hw1
  go_wp2_with fail
  refine (Hn8.out).mono ?_
  rintro e W2 ⟨rfl, hb2⟩
  have HP := Lib.hid (HB.out.trans (hb2.mono HB.out.size))
  clear hb2
  go_wp2_with fail
  go_ret2
  exact ⟨rfl, HP.out⟩
set_option maxHeartbeats 1000000 in
theorem spaceNew_bad (n : Int) (w : World) (h : n < 0 ∨ 1073741824 < n) (hg : ErrH w) : Calls Tryd.prog 7 #[.int .i64 n] w fun e w' => e = .returned (.tuple #[.agg #[.pointer none], .int .i64 5]) ∧ Below w.heap.size w w' := by
  obtain ⟨W0, hW0⟩ : ∃ W0, w.alloc (.cells #[.pointer none] 26) = W0 := ⟨_, rfl⟩
  obtain ⟨H, hH⟩ : ∃ H, w.heap.size = H := ⟨_, rfl⟩
  have hx0 : Bx W0 H 26 #[.pointer none] := by rw [← hW0, ← hH]; exact Bx.new _ _ _
  have hb0 : Below w.heap.size w W0 := by rw [← hW0]; exact (Below.refl _ _).alloc (Nat.le_refl _) _
  have Hq := Lib.hid (new_bad n W0 h)
  have hm := made_err 5 false W0 (by omega) (hg.below hg.lt hb0)
  have Hm := Lib.hid hm
  have HB := Lib.hid (And.intro hb0 (And.intro hx0 hH))
  clear hx0 hb0 hg h hm
  unfold errE at *
  go_enter Tryd.func7, Tryd.ntmps7
  go_wp2_with fail
  try rw [hW0]
  try rw [hH]
  go_wp2_with fail
  refine (Hq.out).mono ?_
  rintro e W1 ⟨rfl, hw1⟩
  subst hw1
  go_wp2_with fail
  refine (Hm.out).mono ?_
  rintro e W2 ⟨rfl, hb2⟩
  have hx2 := HB.out.2.1.below hb2 HB.out.2.1.lt
  have f0 : W2.cell? ⟨H, 0, none⟩ = some (.pointer none) := hx2.cell 0
  have f1 : W2.frozen? ⟨H, 0, none⟩ = false := hx2.frozen 0
  have f2 : (W2.setCell ⟨H, 0, none⟩ (.pointer none)).cell? ⟨H, 0, none⟩ = some (.pointer none) := World.cell?_setCell_same _ _ _ f0
  have HP := Lib.hid (show Below w.heap.size w (W2.setCell ⟨H, 0, none⟩ (.pointer none)) from (HB.out.1.trans (hb2.mono HB.out.1.size)).setCell (by show w.heap.size ≤ H; rw [HB.out.2.2]; exact Nat.le_refl _) _)
  clear hb2 hx2
  go_wp2_with fail
  refine bodyPost_ret (v := .tuple #[.agg #[.pointer none], .int .i64 5]) (by simp [results, Tryd.results7, go_sem, f2]) rfl ⟨rfl, HP.out⟩
/-- a space, and what it should be -/
structure Gm where
  R : Nat
  v : Value
  n : Nat
  ps : List Pc
  Q : Nat
  u : Value
def GmI (w : World) (B : Nat) (g : Gm) : Prop := Sp w B g.R g.v g.n g.ps ∧ Rf w B g.Q g.u (rows g.n g.ps)
def GmS (g : Gm) : Nat → Prop := fun j => (j = g.R ∨ rowOf g.v = some j) ∨ RfS g.Q g.u j
def Apart (g h : Gm) : Prop := ∀ j, GmS g j → ¬ GmS h j
theorem Apart.symm {g h : Gm} (a : Apart g h) : Apart h g := fun j h1 h2 => a j h2 h1
theorem GmI.chg {w w' : World} {B : Nat} {g : Gm} {S : Nat → Prop} (h : GmI w B g) (hc : Chg w w' S) (hs : ∀ j, GmS g j → ¬ S j) : GmI w' B g :=
  ⟨h.1.kept hc (hs _ (.inl (.inl rfl))) (fun k hk => hs k (.inl (.inr hk))), h.2.chg hc (hs _ (.inr (.inl rfl))) (fun k hk => hs k (.inr (.inr hk)))⟩
theorem GmI.below {w w' : World} {B : Nat} {g : Gm} (h : GmI w B g) (hb : Below w.heap.size w w') : GmI w' B g := ⟨h.1.below hb, h.2.below hb⟩
theorem GmI.mono {w : World} {B B' : Nat} {g : Gm} (h : GmI w B g) (hb : B' ≤ B) : GmI w B' g := ⟨h.1.mono hb, ⟨Nat.le_trans hb h.2.hQ, h.2.row, ⟨h.2.own.1, by
  rcases h.2.own.2 with e | ⟨a, b, c, d, e, f⟩
  · exact .inl e
  · exact .inr ⟨a, b, c, d, Nat.le_trans hb e, f⟩⟩, h.2.len⟩⟩
/-- a game's blocks: there, from B on, each of its kind -/
theorem GmI.blk {w : World} {B : Nat} {g : Gm} (h : GmI w B g) {j : Nat} (hj : GmS g j) : B ≤ j ∧ j < w.heap.size ∧ ∃ C t, w.heap[j]? = some (.cells C t (0, 0)) ∧ (t = 88 ∨ t = 90 ∨ t = 77 ∨ t = 106) := by
  rcases hj with (rfl | e) | (rfl | e)
  · exact ⟨h.1.hR, (Array.getElem?_eq_some_iff.1 h.1.row).1, _, _, h.1.row, .inl rfl⟩
  · obtain ⟨a, b, C, c⟩ := h.1.own.row j e
    exact ⟨a, b, C, _, c, .inr (.inl rfl)⟩
  · exact ⟨h.2.hQ, (Array.getElem?_eq_some_iff.1 h.2.row).1, _, _, h.2.row, .inr (.inr (.inl rfl))⟩
  · obtain ⟨a, b, C, c⟩ := h.2.own.row j e
    exact ⟨a, b, C, _, c, .inr (.inr (.inr rfl))⟩
theorem GmI.notBx {w : World} {B b : Nat} {g : Gm} {t : TypeId} {C : Array Value} (h : GmI w B g) (hx : Bx w b t C) (h1 : t ≠ 88) (h2 : t ≠ 90) (h3 : t ≠ 77) (h4 : t ≠ 106) : ¬ GmS g b := fun hj => by
  obtain ⟨-, -, C2, t2, hr, ht⟩ := h.blk hj
  rw [show w.heap[b]? = _ from hx] at hr
  injection hr with hr
  injection hr with _ e _
  subst e
  rcases ht with e | e | e | e
  · exact h1 e
  · exact h2 e
  · exact h3 e
  · exact h4 e
/-- the game's next state lies where the game lies, or on new blocks -/
def Next (w : World) (g g' : Gm) : Prop := ∀ j, GmS g' j → GmS g j ∨ w.heap.size ≤ j
theorem Next.refl (w : World) (g : Gm) : Next w g g := fun j h => .inl h
theorem Next.trans {w w1 : World} {a b c : Gm} (h : Next w a b) (k : Next w1 b c) (hs : w.heap.size ≤ w1.heap.size) : Next w a c := fun j hj => by
  rcases k j hj with h1 | h1
  · exact h j h1
  · exact .inr (Nat.le_trans hs h1)
theorem Apart.next {w : World} {B : Nat} {g g' h : Gm} (a : Apart g h) (hn : Next w g g') (hh : GmI w B h) : Apart g' h := fun j h1 h2 => by
  rcases hn j h1 with e | e
  · exact a j e h2
  · have := (hh.blk h2).2.1
    omega
/-- a turn of the space alone -/
theorem GmI.space {w w' : World} {B n' : Nat} {g : Gm} {v' : Value} {qs : List Pc} (h : GmI w B g) (hs : Sp w' B g.R v' n' qs) (hc : Chg w w' (fun j => j = g.R ∨ rowOf g.v = some j)) (hl : Lies w g.v v') :
    Rf w' B g.Q g.u (rows g.n g.ps) ∧ Chg w w' (GmS g) ∧ (∀ u', LiesW w g.u u' → Next w g { g with v := v', n := n', ps := qs, u := u' }) := by
  have hne : ∀ j, RfS g.Q g.u j → ¬ (j = g.R ∨ rowOf g.v = some j) := fun j hj e => by
    have hj2 : ∃ C t, w.heap[j]? = some (.cells C t (0, 0)) ∧ (t = 77 ∨ t = 106) := by
      rcases hj with rfl | hj
      · exact ⟨_, _, h.2.row, .inl rfl⟩
      · obtain ⟨_, _, C, c⟩ := h.2.own.row j hj
        exact ⟨C, _, c, .inr rfl⟩
    have hj3 : ∃ C t, w.heap[j]? = some (.cells C t (0, 0)) ∧ (t = 88 ∨ t = 90) := by
      rcases e with rfl | e
      · exact ⟨_, _, h.1.row, .inl rfl⟩
      · obtain ⟨_, _, C, c⟩ := h.1.own.row j e
        exact ⟨C, _, c, .inr rfl⟩
    obtain ⟨C, t, a1, a2⟩ := hj2
    obtain ⟨C2, t2, b1, b2⟩ := hj3
    rw [a1] at b1
    injection b1 with b1
    injection b1 with _ b1 _
    subst b1
    rcases a2 with rfl | rfl <;> rcases b2 with b2 | b2 <;> exact absurd b2 (by decide)
  refine ⟨h.2.chg hc (hne _ (.inl rfl)) (fun k hk => hne k (.inr hk)), hc.mono (fun j _ hj => .inl hj), fun u' hu j hj => ?_⟩
  rcases hj with (hj | hj) | (hj | hj)
  · exact .inl (.inl (.inl hj))
  · rcases hl with e | ⟨k, e, hk⟩
    · exact .inl (.inl (.inr (e.symm.trans hj)))
    · right
      have : some k = some j := e.symm.trans hj
      cases this
      exact hk
  · exact .inl (.inr (.inl hj))
  · rcases hu with e | ⟨k, e, hk⟩
    · exact .inl (.inr (.inr (e.symm.trans hj)))
    · right
      have : some k = some j := e.symm.trans hj
      cases this
      exact hk
end Go.Proofs.YtgkamdgegfioiaaDoor

namespace Go.Proofs.YtgkamdgegfioiaaDoor
open Go.RowKit
set_option linter.unusedSimpArgs false
set_option linter.unusedVariables false
def okL : List Gm → List Value
  | [] => []
  | g :: gs => .pointer (some ⟨g.R, 0, none⟩) :: .pointer (some ⟨g.Q, 0, none⟩) :: okL gs
theorem okL_len : ∀ (L : List Gm), (okL L).length = L.length * 2
  | [] => rfl
  | g :: gs => by simp only [okL, List.length_cons, okL_len gs]; omega
theorem okL_append : ∀ (a b : List Gm), okL (a ++ b) = okL a ++ okL b
  | [], _ => rfl
  | g :: gs, b => by simp only [List.cons_append, okL, okL_append gs b]
theorem okL_cell : ∀ (L : List Gm), ∀ u ∈ okL L, u.oneCell' = true
  | [], u, h => by cases h
  | g :: gs, u, h => by
    simp only [okL, List.mem_cons] at h
    rcases h with rfl | rfl | h
    · rfl
    · rfl
    · exact okL_cell gs u h
theorem okL_at : ∀ (L : List Gm) (j : Nat) (hj : j < L.length), (okL L)[j * 2]? = some (.pointer (some ⟨L[j].R, 0, none⟩)) ∧ (okL L)[j * 2 + 1]? = some (.pointer (some ⟨L[j].Q, 0, none⟩))
  | g :: gs, 0, _ => ⟨rfl, rfl⟩
  | g :: gs, j + 1, h => by
    have := okL_at gs j (by simpa using h)
    rw [show (j + 1) * 2 = j * 2 + 2 by omega, show j * 2 + 2 + 1 = j * 2 + 1 + 2 by omega]
    exact this
/-- the slice of those that are kept -/
def OwnK (w : World) (B : Nat) (v : Value) (L : List Gm) : Prop := w.ownsRow B 83 2 v L.length (okL L)
theorem OwnK.chg {w w' : World} {B : Nat} {v : Value} {L : List Gm} {S : Nat → Prop} (h : OwnK w B v L) (hc : Chg w w' S) (hs : ∀ k C, v.ownBlock = some k → Bx w k 83 C → ¬ S k) : OwnK w' B v L := by
  refine ⟨h.1, ?_⟩
  rcases h.2 with hn | ⟨g, cap, cur, rfl, hb, hgg, rest⟩
  · exact .inl hn
  · exact .inr ⟨g, cap, cur, rfl, hb, (hc.block g (Array.getElem?_eq_some_iff.1 hgg).1 (hs g cur rfl hgg)).trans hgg, rest⟩
theorem OwnK.at_ {w : World} {B : Nat} {v : Value} {L : List Gm} (h : OwnK w B v L) : ∃ A c, v = .slice A L.length c ∧ L.length ≤ c ∧ c ≤ maxLen ∧ ∀ j (hj : j < L.length), ∃ g, A = some ⟨g, 0, none⟩ ∧ v.ownBlock = some g ∧ B ≤ g ∧ w.cell? ⟨g, j * 2, none⟩ = some (.pointer (some ⟨L[j].R, 0, none⟩)) ∧ w.cell? ⟨g, j * 2 + 1, none⟩ = some (.pointer (some ⟨L[j].Q, 0, none⟩)) ∧ (∀ o, w.frozen? ⟨g, o, none⟩ = false) ∧ ∃ C, Bx w g 83 C := by
  rcases h.2 with ⟨rfl, hn⟩ | ⟨g, cap, cur, rfl, hb, hg, hc, hm, hs, ht⟩
  · have : L = [] := List.length_eq_zero_iff.1 hn
    subst this
    exact ⟨none, 0, rfl, Nat.le_refl _, Nat.zero_le _, fun j hj => by simp at hj⟩
  · refine ⟨some ⟨g, 0, none⟩, cap, rfl, hc, hm, fun j hj => ?_⟩
    obtain ⟨a1, a2⟩ := okL_at L j hj
    refine ⟨g, rfl, rfl, hb, ?_, ?_, fun o => frozen_of_row _ _ _ _ _ hg, cur, hg⟩
    · rw [cell_of_row _ _ _ _ _ _ hg, ← a1, ← ht, List.getElem?_take_of_lt (by omega)]
      simp
    · rw [cell_of_row _ _ _ _ _ _ hg, ← a2, ← ht, List.getElem?_take_of_lt (by omega)]
      simp
/-- block P is the law's struct -/
structure St (w wr : World) (P : Nat) (cur : Gm) (kept : List Gm) (vk : Value) : Prop where
  hP : w.heap.size ≤ P
  box : Bx wr P 56 #[.pointer (some ⟨cur.R, 0, none⟩), .pointer (some ⟨cur.Q, 0, none⟩), vk]
  own : OwnK wr w.heap.size vk kept
  one : GmI wr w.heap.size cur
  all : ∀ g ∈ kept, GmI wr w.heap.size g
  apart : (cur :: kept).Pairwise Apart
  below : Below w.heap.size w wr
  few : kept.length ≤ 4
theorem St.kb {w wr W' : World} {P : Nat} {cur : Gm} {kept : List Gm} {vk : Value} (h : St w wr P cur kept vk) (hb : Below wr.heap.size wr W') : St w W' P cur kept vk :=
  ⟨h.hP, h.box.below hb h.box.lt, h.own.chg (Chg.ofBelow hb (fun _ => False)) (fun _ _ _ _ f => f), h.one.below hb, fun g hg => (h.all g hg).below hb, h.apart, h.below.trans (hb.mono h.below.size), h.few⟩
theorem St.notK {w wr : World} {P : Nat} {cur : Gm} {kept : List Gm} {vk : Value} (h : St w wr P cur kept vk) : ∀ k C, vk.ownBlock = some k → Bx wr k 83 C → ¬ GmS cur k := fun k C _ hx => h.one.notBx hx (by decide) (by decide) (by decide) (by decide)
/-- a turn of the first game alone -/
theorem St.turn {w wr W' : World} {P : Nat} {cur cur' : Gm} {kept : List Gm} {vk : Value} (h : St w wr P cur kept vk) (hc : Chg wr W' (GmS cur)) (hi : GmI W' w.heap.size cur') (hn : Next wr cur cur') (hR : cur'.R = cur.R) (hQ : cur'.Q = cur.Q) : St w W' P cur' kept vk := by
  obtain ⟨ha1, ha2⟩ := List.pairwise_cons.1 h.apart
  refine ⟨h.hP, ?_, h.own.chg hc h.notK, hi, fun g hg => (h.all g hg).chg hc (fun j hj => fun e => ha1 g hg j e hj), List.pairwise_cons.2 ⟨fun g hg => (ha1 g hg).next hn (h.all g hg), ha2⟩, Chg.below h.below hc (fun k hk => (h.one.blk hk).1) h.below.size, h.few⟩
  rw [hR, hQ]
  exact (hc.block P h.box.lt (h.one.notBx h.box (by decide) (by decide) (by decide) (by decide))).trans h.box
/-- the space's turn, then the reference's -/
theorem GmI.both {wr W1 W2 : World} {B n' : Nat} {g : Gm} {v' u' : Value} {qs : List Pc} (h : GmI wr B g) (hs : Sp W1 B g.R v' n' qs) (hc : Chg wr W1 (fun j => j = g.R ∨ rowOf g.v = some j)) (hl : Lies wr g.v v')
    (hr : Rf W2 B g.Q u' (rows n' qs)) (hc2 : Chg W1 W2 (RfS g.Q g.u)) (hl2 : LiesW W1 g.u u') : GmI W2 B { g with v := v', n := n', ps := qs, u := u' } ∧ Chg wr W2 (GmS g) ∧ Next wr g { g with v := v', n := n', ps := qs, u := u' } := by
  obtain ⟨h1, h2, h3⟩ := h.space hs hc hl
  have hl3 : LiesW wr g.u u' := by
    rcases hl2 with e | ⟨k, e, hk⟩
    · exact .inl e
    · exact .inr ⟨k, e, Nat.le_trans hc.size hk⟩
  have hne : ∀ j, (j = g.R ∨ rowOf v' = some j) → ¬ RfS g.Q g.u j := fun j hj e => by
    have hj2 : ∃ C t, W1.heap[j]? = some (.cells C t (0, 0)) ∧ (t = 77 ∨ t = 106) := by
      rcases e with rfl | e
      · exact ⟨_, _, h1.row, .inl rfl⟩
      · obtain ⟨_, _, C, c⟩ := h1.own.row j e
        exact ⟨C, _, c, .inr rfl⟩
    have hj3 : ∃ C t, W1.heap[j]? = some (.cells C t (0, 0)) ∧ (t = 88 ∨ t = 90) := by
      rcases hj with rfl | hj
      · exact ⟨_, _, hs.row, .inl rfl⟩
      · obtain ⟨_, _, C, c⟩ := hs.own.row j hj
        exact ⟨C, _, c, .inr rfl⟩
    obtain ⟨C, t, a1, a2⟩ := hj2
    obtain ⟨C2, t2, b1, b2⟩ := hj3
    rw [a1] at b1
    injection b1 with b1
    injection b1 with _ b1 _
    subst b1
    rcases a2 with rfl | rfl <;> rcases b2 with b2 | b2 <;> exact absurd b2 (by decide)
  exact ⟨⟨hs.kept hc2 (hne _ (.inl rfl)) (fun k hk => hne k (.inr hk)), hr⟩, h2.trans (hc2.mono (fun j _ hj => .inr hj)), h3 u' hl3⟩
/-- what a step leaves -/
def StepPost (w : World) (P : Nat) (e : Ending) (w' : World) : Prop := e = .returned (.bool true) ∧ ∃ cur kept vk, St w w' P cur kept vk
/-- the first half, and the whole, of a pair of calls -/
def Half (wr : World) (B : Nat) (g : Gm) (n' : Nat) (qs : List Pc) (W1 : World) : Prop := ∃ v', Sp W1 B g.R v' n' qs ∧ Chg wr W1 (fun j => j = g.R ∨ rowOf g.v = some j) ∧ Lies wr g.v v'
def Full (wr : World) (B : Nat) (g : Gm) (W2 : World) : Prop := ∃ g', GmI W2 B g' ∧ Chg wr W2 (GmS g) ∧ Next wr g g' ∧ g'.R = g.R ∧ g'.Q = g.Q
theorem Half.full {wr W1 W2 : World} {B : Nat} {g : Gm} {n' : Nat} {qs : List Pc} (h : GmI wr B g) (h1 : Half wr B g n' qs W1) {u' : Value} (hr : Rf W2 B g.Q u' (rows n' qs)) (hc2 : Chg W1 W2 (RfS g.Q g.u)) (hl2 : LiesW W1 g.u u') : Full wr B g W2 := by
  obtain ⟨v', hs, hc, hl⟩ := h1
  obtain ⟨a, b, c⟩ := h.both hs hc hl hr hc2 hl2
  exact ⟨_, a, b, c, rfl, rfl⟩
theorem Half.rf {wr W1 : World} {B : Nat} {g : Gm} {n' : Nat} {qs : List Pc} (h : GmI wr B g) (h1 : Half wr B g n' qs W1) : Rf W1 B g.Q g.u (rows g.n g.ps) := by
  obtain ⟨v', hs, hc, hl⟩ := h1
  exact (h.space hs hc hl).1
theorem St.box1 {w wr W1 : World} {P : Nat} {cur : Gm} {kept : List Gm} {vk : Value} (h : St w wr P cur kept vk) (hc : Chg wr W1 (GmS cur)) : Bx W1 P 56 #[.pointer (some ⟨cur.R, 0, none⟩), .pointer (some ⟨cur.Q, 0, none⟩), vk] :=
  (hc.block P h.box.lt (h.one.notBx h.box (by decide) (by decide) (by decide) (by decide))).trans h.box
end Go.Proofs.YtgkamdgegfioiaaDoor

namespace Go.Proofs.YtgkamdgegfioiaaDoor
open Go.RowKit
set_option linter.unusedSimpArgs false
set_option linter.unusedVariables false
theorem Half.same {W W1 : World} {B : Nat} {g : Gm} (h : GmI W B g) (hb : Below W.heap.size W W1) : Half W B g g.n g.ps W1 := ⟨g.v, h.1.below hb, Chg.ofBelow hb _, .inl rfl⟩
theorem Half.drew {W W1 : World} {B n' : Nat} {g : Gm} {qs : List Pc} (h : Half W B g n' qs W1) : Half W B g n' qs W1.drew := by
  obtain ⟨v', a, b, c⟩ := h
  exact ⟨v', a.below (Below.refl _ _).drew, b.trans (Chg.ofBelow (Below.refl _ _).drew _), c⟩
theorem Half.chg {W W1 : World} {B n' : Nat} {g : Gm} {qs : List Pc} (h : Half W B g n' qs W1) : Chg W W1 (GmS g) := by
  obtain ⟨v', a, b, c⟩ := h
  exact b.mono (fun j _ hj => .inl hj)
theorem take_pair {w W : World} {P : Nat} {cur : Gm} {kept : List Gm} {vk : Value} (h : St w W P cur kept vk) (hg : ErrH W) (hgw : 0 < w.heap.size) (n : Int) (hn : n ≤ 9223372036854775807) (tag : Nat) (ht : tag < 18446744073709551616) :
    ∃ (xv ev : Int) (qs : List Pc), (Calls Tryd.prog 8 #[.agg #[.pointer (some ⟨cur.R, 0, none⟩)], .int .i64 n, .int .u64 (tag : Int)] W fun e w' => e = .returned (.tuple #[.int .i64 xv, .int .i64 ev]) ∧ Hid (Half W w.heap.size cur cur.n qs w')) ∧
      ∀ W1, Half W w.heap.size cur cur.n qs W1 → Calls Tryd.prog 35 #[.pointer (some ⟨cur.Q, 0, none⟩), .int .i64 n, .int .u64 (tag : Int)] W1 fun e w' => e = .returned (.tuple #[.int .i64 xv, .int .i64 ev]) ∧ Hid (Full W w.heap.size cur w') := by
  by_cases h1 : n < 1
  · refine ⟨0, 5, cur.ps, (pTake_bad W cur.R n tag h1 hg).mono (fun e w' ⟨he, hb⟩ => ⟨he, Half.same h.one hb⟩), fun W1 hh => ?_⟩
    exact (rTake_bad W1 w.heap.size cur.Q cur.u _ n tag (hh.rf h.one) h1).mono (fun e w' ⟨he, u', a1, a2, a3⟩ => ⟨he, hh.full h.one a1 a2 a3⟩)
  · obtain ⟨m, rfl⟩ : ∃ m : Nat, n = (m : Int) := ⟨n.toNat, by omega⟩
    have hA := pTake_calls W w.heap.size cur.R cur.v cur.n cur.ps m tag h.one.1 h.below.size (by omega) (by omega) ht hg hgw
    have hB := fun W1 hR => rTake_calls W1 w.heap.size cur.Q cur.u cur.n cur.ps m tag hR h.one.1.wf (by omega) (by omega)
    unfold PTakePost at hA
    unfold RTkPost at hB
    cases hi : insF cur.n m tag 0 cur.ps with
    | none =>
      rw [hi] at hA
      simp only [hi] at hB
      exact ⟨0, 8, cur.ps, hA.mono (fun e w' ⟨he, hb⟩ => ⟨he, Half.same h.one hb⟩), fun W1 hh => (hB W1 (hh.rf h.one)).mono (fun e w' ⟨he, u', a1, a2, a3⟩ => ⟨he, hh.full h.one a1 a2 a3⟩)⟩
    | some kq =>
      obtain ⟨k, qs⟩ := kq
      rw [hi] at hA
      simp only [hi] at hB
      exact ⟨k, 0, qs, hA.mono (fun e w' ⟨he, v', a1, a2, a3⟩ => ⟨he, v', a1, a2, a3⟩), fun W1 hh => (hB W1 (hh.rf h.one)).mono (fun e w' ⟨he, u', a1, a2, a3⟩ => ⟨he, hh.full h.one a1 a2 a3⟩)⟩
theorem grow_pair {w W : World} {P : Nat} {cur : Gm} {kept : List Gm} {vk : Value} (h : St w W P cur kept vk) (hg : ErrH W) (hgw : 0 < w.heap.size) (k : Int) :
    ∃ (x : Int) (n' : Nat), (Calls Tryd.prog 39 #[.agg #[.pointer (some ⟨cur.R, 0, none⟩)], .int .i64 k] W fun e w' => e = .returned (.int .i64 x) ∧ Hid (Half W w.heap.size cur n' cur.ps w')) ∧
      ∀ W1, Half W w.heap.size cur n' cur.ps W1 → Calls Tryd.prog 40 #[.pointer (some ⟨cur.Q, 0, none⟩), .int .i64 k] W1 fun e w' => e = .returned (.int .i64 x) ∧ Hid (Full W w.heap.size cur w') := by
  refine ⟨_, _, (pGrow_calls W w.heap.size cur.R cur.v cur.n cur.ps k h.one.1 hg hgw).mono (fun e w' ⟨he, hs, hc⟩ => ⟨he, cur.v, hs, hc.mono (fun j _ hj => .inl hj), .inl rfl⟩), fun W1 hh => ?_⟩
  refine (rGrow_calls W1 w.heap.size cur.Q cur.u cur.n k cur.ps (hh.rf h.one) h.one.1.wf (Nat.le_trans h.below.size hh.chg.size)).mono (fun e w' ⟨he, u', a1, a2, a3⟩ => ⟨he, hh.full h.one ?_ a2 a3⟩)
  by_cases hk : growOk cur.n k = true
  · rw [if_pos hk] at a1 ⊢; exact a1
  · rw [if_neg hk] at a1 ⊢; exact a1
/-- a turn of the first game, and of the struct -/
theorem St.turn2 {w wr W' : World} {P : Nat} {cur cur' : Gm} {kept : List Gm} {vk : Value} (h : St w wr P cur kept vk) (hc : Chg wr W' (fun j => GmS cur j ∨ j = P)) (hi : GmI W' w.heap.size cur') (hn : Next wr cur cur')
    (hb : Bx W' P 56 #[.pointer (some ⟨cur'.R, 0, none⟩), .pointer (some ⟨cur'.Q, 0, none⟩), vk]) : St w W' P cur' kept vk := by
  obtain ⟨ha1, ha2⟩ := List.pairwise_cons.1 h.apart
  have hnp : ∀ g ∈ kept, ∀ j, GmS g j → ¬ (GmS cur j ∨ j = P) := fun g hg j hj e => by
    rcases e with e | e
    · exact ha1 g hg j e hj
    · subst e
      exact (h.all g hg).notBx h.box (by decide) (by decide) (by decide) (by decide) hj
  refine ⟨h.hP, hb, h.own.chg hc (fun k C hk hx e => ?_), hi, fun g hg => (h.all g hg).chg hc (hnp g hg), List.pairwise_cons.2 ⟨fun g hg => (ha1 g hg).next hn (h.all g hg), ha2⟩, Chg.below h.below hc (fun k hk => ?_) h.below.size, h.few⟩
  · rcases e with e | e
    · exact h.notK k C hk hx e
    · subst e
      exact bx_ne hx h.box (by decide) rfl
  · rcases hk with hk | hk
    · exact (h.one.blk hk).1
    · rw [hk]; exact h.hP
end Go.Proofs.YtgkamdgegfioiaaDoor

namespace Go.Proofs.YtgkamdgegfioiaaDoor
open Go.RowKit
set_option linter.unusedSimpArgs false
set_option linter.unusedVariables false
set_option maxHeartbeats 4000000 in
set_option maxRecDepth 100000 in
theorem loads_calls (w wr : World) (P : Nat) (cur : Gm) (kept : List Gm) (vk : Value) (h : St w wr P cur kept vk) (hg : ErrH w) :
    Calls Tryd.prog 44 #[.pointer (some ⟨P, 0, none⟩)] wr fun e w' => StepPost w P e w' := by
  obtain ⟨R1, hR1⟩ : ∃ R1, cur.R = R1 := ⟨_, rfl⟩
  obtain ⟨Q, hQ⟩ : ∃ Q, cur.Q = Q := ⟨_, rfl⟩
  have hbx := h.box
  rw [hR1, hQ] at hbx
  have q1 : wr.cell? ⟨P, 0, none⟩ = some (.pointer (some ⟨R1, 0, none⟩)) := hbx.cell 0
  have hB := pBytes_calls wr w.heap.size cur.R cur.n cur.v cur.ps h.one.1
  rw [hR1] at hB
  have HB := Lib.hid hB
  have H0 := Lib.hid (And.intro h (And.intro hg (And.intro hR1 hQ)))
  clear h hg hR1 hQ hbx hB
  go_enter Tryd.func44, Tryd.ntmps44
  go_wp2_with fail
  refine (HB.out).mono ?_
  rintro e W1 ⟨vv, rfl, ho, hb1⟩
  obtain ⟨h, hg, hR1, hQ⟩ := H0.out
  have h1 := h.kb hb1
  have hlen := bytesS_len cur.n cur.ps
  have hlv := (live_wf h.one.1.wf).len
  have hnr := h.one.1.hr
  -- the slice of bytes: a row of its own
  obtain ⟨g, cap, C, rfl, hgb, hgr, hcap, hcm, hCs, hCt⟩ : ∃ g cap C, vv = .slice (some ⟨g, 0, none⟩) (bytesS cur.n cur.ps).length cap ∧ wr.heap.size ≤ g ∧ W1.heap[g]? = some (.cells C 5 (0, 0)) ∧ (bytesS cur.n cur.ps).length ≤ cap ∧ cap ≤ maxLen ∧ C.size = cap ∧ True := by
    rcases ho.2 with ⟨_, hn⟩ | ⟨g, cap, C, e, b1, b2, b3, b4, b5, _⟩
    · omega
    · exact ⟨g, cap, C, e, b1, b2, b3, b4, by simpa using b5, trivial⟩
  obtain ⟨A, c, hv2, hrd, -, -, -⟩ := ho.form
  injection hv2 with e1 e2 e3
  have hrd1 : Rd W1 (some ⟨g, 0, none⟩) (bytesS cur.n cur.ps) := by rw [e1]; exact hrd
  clear e1 e2 e3 hrd
  have hl := lent_calls2 (some ⟨g, 0, none⟩) cap (bytesS cur.n cur.ps) W1 (by omega) hrd1
  obtain ⟨L, hL⟩ : ∃ L, (bytesS cur.n cur.ps).length = L := ⟨_, rfl⟩
  rw [hL] at hl hcap ⊢
  have Hl := Lib.hid hl
  have hcm2 : cap ≤ 9223372036854775807 := by unfold maxLen at hcm; omega
  have HX := Lib.hid (And.intro hgr (And.intro hrd1 (And.intro hCs (And.intro hcm (And.intro hgb (And.intro hb1 (And.intro hL hlen)))))))
  have hLb : L ≤ 100000000000 := by omega
  clear hgr hrd1 hCs hCt hcm hgb hb1 hL hlen hl ho h hg hR1 hQ h1 HB q1 hlv
  go_wp2_with fail
  refine (Hl.out).mono ?_
  rintro e W2 ⟨g2, rfl, hg2, hlo, hhi, hb2⟩
  obtain ⟨h, hg, hR1, hQ⟩ := H0.out
  obtain ⟨hgr, hrd1, hCs, hcm, hgb, hb1, hL, hlen⟩ := HX.out
  have hbw2 : Below wr.heap.size wr W2 := hb1.trans (hb2.mono hb1.size)
  have hrd2 : Rd W2 (some ⟨g2, 0, none⟩) (bytesS cur.n cur.ps) := Rd.block hg2 ⟨List.replicate 9 77 ++ List.replicate (9 - 9) 0, by unfold lentL; rw [List.append_assoc]⟩
  have hlo2 := pLoad_calls W2 (some ⟨g2, 0, none⟩) (L + 9) (bytesS cur.n cur.ps) (fun _ => ⟨g2, rfl⟩) (by omega) hrd2 (by omega) (hg.below hg.lt (h.below.trans (hbw2.mono h.below.size)))
  unfold PLoadPost at hlo2
  rw [loadS_bytes h.one.1.wf (by omega), hL] at hlo2
  have Hlo := Lib.hid hlo2
  have HY := Lib.hid (And.intro hg2 (And.intro hlo (And.intro hhi (And.intro hb2 hbw2))))
  clear h hg hR1 hQ hgr hrd1 hCs hcm hgb hb1 hL hlen hlo2 hg2 hlo hhi hb2 hbw2 hrd2 Hl
  go_wp2_with fail
  refine (Hlo.out).mono ?_
  rintro e W3 ⟨R3, v3, rfl, hs3, hb3⟩
  obtain ⟨b5, hb5⟩ : ∃ b5, W3.heap.size = b5 := ⟨_, rfl⟩
  obtain ⟨W4, hW4⟩ : ∃ W4, W3.alloc (.cells #[.pointer (some ⟨R3, 0, none⟩)] 26) = W4 := ⟨_, rfl⟩
  have hx4 : Bx W4 b5 26 #[.pointer (some ⟨R3, 0, none⟩)] := by rw [← hW4, ← hb5]; exact Bx.new _ _ _
  have hb34 : Below W3.heap.size W3 W4 := by rw [← hW4]; exact (Below.refl _ _).alloc (Nat.le_refl _) _
  have hs4 := hs3.below hb34
  have hb24 : Below W2.heap.size W2 W4 := hb3.trans (hb34.mono hb3.size)
  obtain ⟨hg2, hlo, hhi, hb2, hbw2⟩ := HY.out
  obtain ⟨hgr, hrd1, hCs, hcm, hgb, hb1, hL, hlen⟩ := HX.out
  have hg24 := (hb24.block g2 hhi).trans hg2
  have hrd4 : Rd W4 (some ⟨g, 0, none⟩) (bytesS cur.n cur.ps) := (hrd1.below hb2).below hb24
  have hbk := back_calls g2 (bytesS cur.n cur.ps) (some ⟨g, 0, none⟩) cap (bytesS cur.n cur.ps) W4 hg24 (by omega) rfl hrd4
  rw [hL, beq_self_eq_true] at hbk
  obtain ⟨W5, hW5⟩ : ∃ W5, W4.setRow g2 (bArr (List.replicate (L + 9) 78)) = W5 := ⟨_, rfl⟩
  have Hbk := Lib.hid (show Calls Tryd.prog 63 #[.slice (some ⟨g2, 0, none⟩) L (L + 9), .slice (some ⟨g, 0, none⟩) L cap] W4 fun e w' => e = .returned (.bool true) ∧ w' = W5 from hbk.mono (fun e w' ⟨a, b⟩ => ⟨a, b.trans hW5⟩))
  have hg5 : W5.heap[g]? = some (.cells C 5 (0, 0)) := by
    have hg1l : g < W1.heap.size := (Array.getElem?_eq_some_iff.1 hgr).1
    rw [← hW5, setRow_other _ _ _ _ (by omega), hb24.block g (by have := hb2.size; omega), hb2.block g hg1l]
    exact hgr
  have hwp := wipe_calls W5 g L cap C hg5 hCs (by omega) hcm
  have Hwp := Lib.hid hwp
  have HZ := Lib.hid (And.intro hs4 (And.intro hx4 (And.intro hb24 (And.intro hW5 (And.intro hW4 (And.intro hb5 hb3))))))
  clear hs3 hb3 hx4 hb34 hs4 hb24 hg2 hlo hhi hb2 hbw2 hgr hrd1 hCs hcm hgb hb1 hL hlen hg24 hrd4 hbk hW5 hg5 hwp Hlo
  go_wp2_with fail
  try rw [(show W3.alloc (.cells #[.pointer (some ⟨R3, 0, none⟩)] 26) = W4 from HZ.out.2.2.2.2.1)]
  refine (Hbk.out).mono ?_
  rintro e W5' ⟨rfl, hw5⟩
  subst hw5
  go_wp2_with fail
  refine (Hwp.out).mono ?_
  rintro e W6 ⟨rfl, hc6⟩
  obtain ⟨hs4, hx4, hb24, hW5, hW4, hb5, hb3⟩ := HZ.out
  obtain ⟨hg2, hlo, hhi, hb2, hbw2⟩ := HY.out
  obtain ⟨hgr, hrd1, hCs, hcm, hgb, hb1, hL, hlen⟩ := HX.out
  obtain ⟨h, hg, hR1, hQ⟩ := H0.out
  have hg1l : g < W1.heap.size := (Array.getElem?_eq_some_iff.1 hgr).1
  have hc5 : Chg W4 W5' (fun k => k = g2) := by rw [← hW5]; exact ⟨rfl, rfl, rfl, by simp, fun k _ hk => setRow_other _ _ _ _ (fun e => hk e)⟩
  have hb6 : Below wr.heap.size wr W6 := Chg.below (Chg.below (hbw2.trans (hb24.mono hbw2.size)) hc5 (fun k e => by rw [e]; exact Nat.le_trans hb1.size hlo) (Nat.le_trans hbw2.size hb24.size)) hc6 (fun k e => by rw [e]; exact hgb) (Nat.le_trans (Nat.le_trans hbw2.size hb24.size) hc5.size)
  have h6 := h.kb hb6
  have hR3 := hs4.hR
  have hv3 := fun k hk => (hs4.own.row k hk).1
  have hs5 := hs4.kept hc5 (by omega) (fun k hk e => by have := hv3 k hk; omega)
  have hs6 := hs5.kept hc6 (by have := hb2.size; omega) (fun k hk e => by have := hv3 k hk; have := hb2.size; omega)
  have hx5 : Bx W5' b5 26 #[.pointer (some ⟨R3, 0, none⟩)] := (hc5.block b5 hx4.lt (by have := hb3.size; intro e; omega)).trans hx4
  have hx6 : Bx W6 b5 26 #[.pointer (some ⟨R3, 0, none⟩)] := (hc6.block b5 hx5.lt (by have := hb3.size; have := hb2.size; intro e; omega)).trans hx5
  have hbx6 := h6.box
  rw [hR1, hQ] at hbx6
  have q1 : W6.cell? ⟨P, 1, none⟩ = some (.pointer (some ⟨Q, 0, none⟩)) := hbx6.cell 1
  have hr6 := rRuns_calls W6 w.heap.size cur.Q cur.u cur.n cur.ps h6.one.2 h6.one.1.wf
  rw [hQ] at hr6
  have Hr6 := Lib.hid hr6
  have hPb : P < wr.heap.size := h.box.lt
  have hsz : wr.heap.size ≤ W2.heap.size := hbw2.size
  have HT := Lib.hid (And.intro h6 (And.intro hs6 (And.intro hx6 (And.intro hb6 (And.intro hPb (And.intro hsz (And.intro hR3 hv3)))))))
  obtain ⟨m, hm⟩ : ∃ m, (live cur.ps).length = m := ⟨_, rfl⟩
  have hmb : m ≤ 1073741824 := by
    have a1 := (live_wf h.one.1.wf).len
    omega
  have hLm : L = 4 + 18 * m := by rw [← hL, hlen, hm]
  have hLi : ¬ ((16 : Int) + 20 * (m : Int)) < (L : Int) := by omega
  have Hm := Lib.hid (And.intro hm hLm)
  clear hm hLm hs4 hx4 hb24 hW5 hW4 hb5 hb3 hg2 hlo hhi hb2 hbw2 hgr hrd1 hCs hcm hgb hb1 hL hlen h hg hg1l hc5 hb6 h6 hR3 hv3 hs5 hs6 hx5 hx6 hbx6 hr6 hc6 Hwp Hbk hPb hsz HZ HY HX
  go_wp2_with fail
  refine (Hr6.out).mono ?_
  rintro e W7 ⟨vr, rfl, hor, hb7⟩
  obtain ⟨Ar, cr, rfl, hcr1, -, -⟩ := hor.rd
  rw [Hm.out.1] at hcr1 ⊢
  obtain ⟨h6, hs6, hx6, hb6, hPb, hsz, hR3, hv3⟩ := HT.out
  obtain ⟨h, hg, hR1, hQ⟩ := H0.out
  have h7 := h6.kb hb7
  have hs7 := hs6.below hb7
  have hx7 := hx6.below hb7 hx6.lt
  have hbx7 := h7.box
  rw [hR1, hQ] at hbx7
  have e5 : W7.cell? ⟨b5, 0, none⟩ = some (.pointer (some ⟨R3, 0, none⟩)) := hx7.cell 0
  have p0 : W7.cell? ⟨P, 0, none⟩ = some (.pointer (some ⟨R1, 0, none⟩)) := hbx7.cell 0
  have pf : W7.frozen? ⟨P, 0, none⟩ = false := hbx7.frozen 0
  have hb7w : Below wr.heap.size wr W7 := hb6.trans (hb7.mono hb6.size)
  obtain ⟨W8, hW8⟩ : ∃ W8, W7.setCell ⟨P, 0, none⟩ (.pointer (some ⟨R3, 0, none⟩)) = W8 := ⟨_, rfl⟩
  have hc8 : Chg W7 W8 (fun j => j = P) := by rw [← hW8]; exact Chg.setCell _ _ _ _
  have hbx8 : Bx W8 P 56 #[.pointer (some ⟨R3, 0, none⟩), .pointer (some ⟨Q, 0, none⟩), vk] := by rw [← hW8]; exact hbx7.set 0 _
  have hs8 := hs7.kept hc8 (by omega) (fun k hk e => by have := hv3 k hk; omega)
  have hr8 : Rf W8 w.heap.size cur.Q cur.u (rows cur.n cur.ps) := h7.one.2.chg hc8 (fun e => h7.one.notBx hbx7 (by decide) (by decide) (by decide) (by decide) (.inr (.inl e.symm))) (fun k hk e => h7.one.notBx hbx7 (by decide) (by decide) (by decide) (by decide) (.inr (.inr (by rw [hk, e]))))
  have hT := rTurn_calls W8 w.heap.size cur.Q cur.u cur.n cur.ps hr8 h.one.1.wf
  rw [hQ] at hT
  have HTn := Lib.hid hT
  have q8 : W8.cell? ⟨P, 1, none⟩ = some (.pointer (some ⟨Q, 0, none⟩)) := hbx8.cell 1
  have HU := Lib.hid (And.intro hb7w (And.intro hc8 (And.intro hbx8 (And.intro hs8 hr8))))
  clear h6 hs6 hx6 hb6 hPb hsz hR3 hv3 h hg hR1 hQ h7 hs7 hx7 hbx7 hb7w hc8 hbx8 hs8 hr8 hT hor hb7 q1 Hr6
  go_wp2_with fail
  refine (HTn.out).mono ?_
  rintro e W9 ⟨rfl, u', hr9, hc9, hl9⟩
  obtain ⟨h6, hs6, hx6, hb6, hPb, hsz, hR3, hv3⟩ := HT.out
  obtain ⟨h, hg, hR1, hQ⟩ := H0.out
  obtain ⟨hb7w, hc8, hbx8, hs8, hr8⟩ := HU.out
  rw [← hQ] at hr9 hc9
  have hublk : ∀ j, RfS cur.Q cur.u j → j < wr.heap.size ∧ ∃ C t, wr.heap[j]? = some (.cells C t (0, 0)) := fun j hj => by
    obtain ⟨a, b, C, t, c, _⟩ := h.one.blk (j := j) (.inr hj)
    exact ⟨b, C, t, c⟩
  have hs9 := hs8.kept hc9 (fun e => by have := (hublk _ e).1; omega) (fun k hk e => by have := (hublk _ e).1; have := hv3 k hk; omega)
  have hbx9 : Bx W9 P 56 #[.pointer (some ⟨R3, 0, none⟩), .pointer (some ⟨Q, 0, none⟩), vk] := (hc9.block P hbx8.lt (fun e => h.one.notBx h.box (by decide) (by decide) (by decide) (by decide) (.inr e))).trans hbx8
  have HP := Lib.hid (show StepPost w P (.returned (.bool true)) W9 from by
    refine ⟨rfl, { cur with R := R3, v := v3, ps := turnS cur.ps, u := u' }, kept, vk, h.turn2 ?_ ⟨hs9.mono (Nat.le_trans h.below.size hsz), hr9⟩ (fun j hj => ?_) (by rw [hQ]; exact hbx9)⟩
    · have hc := ((Chg.ofBelow hb7w (fun j => GmS cur j ∨ j = P)).trans (hc8.mono (fun j _ hj => .inr hj))).trans (hc9.mono (fun j _ hj => .inl (.inr hj)))
      exact hc
    · rcases hj with (hj | hj) | (hj | hj)
      · right
        have : j = R3 := hj
        omega
      · right
        have := hv3 j hj
        omega
      · exact .inl (.inr (.inl hj))
      · rcases hl9 with e | ⟨k, e, hk⟩
        · exact .inl (.inr (.inr (e.symm.trans hj)))
        · right
          have e2 : some k = some j := e.symm.trans hj
          cases e2
          have := hb7w.size
          have := hc8.size
          omega)
  clear h6 hs6 hx6 hb6 hPb hsz hR3 hv3 h hg hR1 hQ hb7w hc8 hbx8 hs8 hr8 hublk hs9 hbx9 hr9 hc9 hl9 HU HT H0 HTn
  go_wp2_with fail
  go_ret
  exact HP.out
end Go.Proofs.YtgkamdgegfioiaaDoor
