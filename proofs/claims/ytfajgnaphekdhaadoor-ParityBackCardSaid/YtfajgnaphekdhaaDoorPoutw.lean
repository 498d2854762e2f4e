/- Slices of slices of the call's own, whose elements the call itself appends to; a copy of a slice of slices. No walk. -/
import Derived.Test.YtfajgnaphekdhaaDoorPmend
import Derived.Test.YtfajgnaphekdhaaDoorPpcs
import Derived.Deep.AppendLies
namespace Go.Proofs.YtfajgnaphekdhaaDoor
open Go.RowKit
set_option linter.unusedSimpArgs false
set_option linter.unusedVariables false
theorem owns_mono {w : World} {B B' : Nat} {e : TypeId} {n : Nat} {v : Value} {xs : List Value} (h : w.ownsRow B e 1 v n xs) (hb : B' ≤ B) : w.ownsRow B' e 1 v n xs := by
  refine ⟨h.1, ?_⟩
  rcases h.2 with h2 | ⟨g, cap, cur, h1, h2, h3⟩
  · exact .inl h2
  · exact .inr ⟨g, cap, cur, h1, Nat.le_trans hb h2, h3⟩
theorem OwnB.rowK {w : World} {B : Nat} {v : Value} {bs : List UInt8} (h : OwnB w B 5 v bs) : ∀ k, v.ownBlock = some k → ∃ cur fr, w.heap[k]? = some (.cells cur 5 fr) := by
  intro k hk
  rcases h.2 with ⟨rfl, _⟩ | ⟨g, cap, cur, rfl, _, hc, _⟩
  · cases hk
  · cases hk
    exact ⟨cur, _, hc⟩
structure OutW (W : World) (B : Nat) (v : Value) (vs : List Value) (L : List (List UInt8)) : Prop where
  own : W.ownsRow B 33 1 v L.length vs
  len : vs.length = L.length
  el : ∀ j (h1 : j < vs.length) (h2 : j < L.length), OwnB W B 5 vs[j] L[j]
  sm : ∀ j (h1 : j < vs.length), ∃ k, vs[j].ownBlock = some k
  ap : ∀ i j (h1 : i < vs.length) (h2 : j < vs.length), i ≠ j → vs[i].ownBlock ≠ vs[j].ownBlock
theorem OutW.nil (W : World) (B : Nat) : OutW W B (.slice none 0 0) [] [] :=
  ⟨World.ownsRow_nil _ _ _ _, rfl, fun j h => by simp at h, fun j h => by simp at h, fun i j h => by simp at h⟩
theorem OutW.below {W W' : World} {B : Nat} {v : Value} {vs : List Value} {L : List (List UInt8)} (h : OutW W B v vs L) (hb : Below W.heap.size W W') : OutW W' B v vs L :=
  ⟨World.ownsRow.kept (row := none) h.own ⟨hb.os, hb.tape, hb.output, hb.size, fun k hk _ => hb.block k hk⟩ (by cases v.ownBlock <;> simp), h.len, fun j h1 h2 => (h.el j h1 h2).below hb, h.sm, h.ap⟩
theorem OutW.push {W W' : World} {B k : Nat} {v v' x : Value} {vs : List Value} {L : List (List UInt8)} {b : List UInt8} (h : OutW W B v vs L) (hx : OwnB W B 5 x b) (hk : x.ownBlock = some k) (hf : ∀ j (h1 : j < vs.length), vs[j].ownBlock ≠ some k)
    (hg : W.grownBy W' v.ownBlock) (ho : W'.ownsRow B 33 1 v' (L.length + 1) (vs ++ [x])) : OutW W' B v' (vs ++ [x]) (L ++ [b]) := by
  have kept : ∀ (y : Value) (c : List UInt8), OwnB W B 5 y c → OwnB W' B 5 y c := fun y c hy => by
    refine World.ownsRow.kept hy hg ?_
    cases hyb : y.ownBlock with
    | none => exact .inl rfl
    | some kk => exact .inr (not_row h.own (hy.rowK kk hyb))
  have hlen := h.len
  refine ⟨by simpa using ho, by simp [h.len], fun j h1 h2 => ?_, fun j h1 => ?_, fun i j h1 h2 hij => ?_⟩
  · by_cases hj : j < vs.length
    · rw [List.getElem_append_left hj, List.getElem_append_left (by omega)]
      exact kept _ _ (h.el j hj (by omega))
    · have e : j = vs.length := by simp at h1; omega
      subst e
      rw [List.getElem_append_right (by omega), List.getElem_append_right (by omega)]
      simpa [hlen] using kept _ _ hx
  · by_cases hj : j < vs.length
    · rw [List.getElem_append_left hj]; exact h.sm j hj
    · have e : j = vs.length := by simp at h1; omega
      subst e
      rw [List.getElem_append_right (by omega)]
      simpa using ⟨k, hk⟩
  · have ei : ∀ i (h1 : i < (vs ++ [x]).length), (∃ h : i < vs.length, (vs ++ [x])[i] = vs[i]) ∨ (i = vs.length ∧ (vs ++ [x])[i] = x) := fun i h1 => by
      by_cases hi : i < vs.length
      · exact .inl ⟨hi, List.getElem_append_left hi⟩
      · have e : i = vs.length := by simp at h1; omega
        subst e
        exact .inr ⟨rfl, by rw [List.getElem_append_right (by omega)]; simp⟩
    rcases ei i h1 with ⟨a1, a2⟩ | ⟨a1, a2⟩ <;> rcases ei j h2 with ⟨b1, b2⟩ | ⟨b1, b2⟩
    · rw [a2, b2]; exact h.ap i j a1 b1 hij
    · rw [a2, b2, hk]; exact hf i a1
    · rw [a2, b2, hk]; exact fun e => hf j b1 e.symm
    · omega
theorem OutW.put {W W2 : World} {B i gv cv : Nat} {vs : List Value} {L : List (List UInt8)} {x' : Value} {b' : List UInt8} (h : OutW W B (.slice (some ⟨gv, 0, none⟩) L.length cv) vs L) (hi : i < vs.length) (hx : OwnB W2 B 5 x' b') (hk : ∃ k, x'.ownBlock = some k)
    (hg : W.grownBy W2 vs[i].ownBlock) (hat : vs[i].ownBlock = x'.ownBlock ∨ x'.ownBlock = some W.heap.size) :
    W2.frozen? ⟨gv, i, none⟩ = false ∧ (∃ u, W2.cell? ⟨gv, i, none⟩ = some u) ∧ OutW (W2.setCell ⟨gv, i, none⟩ x') B (.slice (some ⟨gv, 0, none⟩) L.length cv) (vs.set i x') (L.set i b') ∧ W2.grownBy (W2.setCell ⟨gv, i, none⟩ x') (some gv) := by
  have hlen := h.len
  obtain ⟨ki, hki⟩ := h.sm i hi
  have hown2 : W2.ownsRow B 33 1 (.slice (some ⟨gv, 0, none⟩) L.length cv) L.length vs := World.ownsRow.kept h.own hg (.inr (by
    rw [hki]
    exact fun e => not_row h.own ((h.el i hi (by omega)).rowK ki hki) e.symm))
  obtain ⟨s1, s2⟩ := hown2.stored i x'
  have keptS : ∀ (y : Value) (c : List UInt8), OwnB W2 B 5 y c → OwnB (W2.setCell ⟨gv, i, none⟩ x') B 5 y c := fun y c hy => by
    refine World.ownsRow.kept hy s2 ?_
    cases hyb : y.ownBlock with
    | none => exact .inl rfl
    | some kk => exact .inr (not_row hown2 (hy.rowK kk hyb))
  refine ⟨hown2.frozenAt i, ⟨vs[i], by rw [hown2.cellAt i (by omega)]; simp [hi]⟩, ⟨by simpa using s1, by simp [hlen], fun j h1 h2 => ?_, fun j h1 => ?_, fun p q h1 h2 hpq => ?_⟩, s2⟩
  · by_cases hj : i = j
    · subst hj
      simp only [List.getElem_set_self]
      exact keptS _ _ hx
    · simp only [List.getElem_set_ne hj]
      have hj1 : j < vs.length := by simpa using h1
      exact keptS _ _ (World.ownsRow.kept (h.el j hj1 (by omega)) hg (.inr (h.ap j i hj1 hi (Ne.symm hj))))
  · by_cases hj : i = j
    · subst hj
      simp only [List.getElem_set_self]
      exact hk
    · simp only [List.getElem_set_ne hj]
      exact h.sm j (by simpa using h1)
  · have hp1 : p < vs.length := by simpa using h1
    have hq1 : q < vs.length := by simpa using h2
    have hfar : ∀ j (hj : j < vs.length), j ≠ i → vs[j].ownBlock ≠ x'.ownBlock := fun j hj hji e => by
      rcases hat with hat | hat
      · exact h.ap j i hj hi hji (e.trans hat.symm)
      · obtain ⟨kj, hkj⟩ := h.sm j hj
        have := (World.ownsRow.lt (h.el j hj (by omega)) kj hkj).2
        rw [hat, hkj] at e
        injection e with e
        omega
    by_cases hp : i = p
    · subst hp
      simp only [List.getElem_set_self, List.getElem_set_ne hpq]
      exact fun e => hfar q hq1 (Ne.symm hpq) e.symm
    · by_cases hq : i = q
      · subst hq
        simp only [List.getElem_set_self, List.getElem_set_ne hp]
        exact hfar p hp1 hpq
      · simp only [List.getElem_set_ne hp, List.getElem_set_ne hq]
        exact h.ap p q hp1 hq1 hpq
theorem OutW.rdl {W : World} {B : Nat} {v : Value} {vs : List Value} {L : List (List UInt8)} (h : OutW W B v vs L) : ∃ A c, v = .slice A L.length c ∧ RdL W A L := by
  rcases h.own.2 with ⟨rfl, hn⟩ | ⟨g, cap, cur, hv, hb, hc, hl, _⟩
  · have : L = [] := List.length_eq_zero_iff.1 hn
    subst this
    exact ⟨none, 0, rfl, fun j hj => by simp at hj⟩
  · subst hv
    refine ⟨_, cap, rfl, fun j hj => ?_⟩
    have hj' : j < vs.length := by have := h.len; omega
    obtain ⟨A, c, e1, e2, e3, _, _⟩ := (h.el j hj' hj).form
    refine ⟨_, A, c, rfl, ?_, e2, e3⟩
    have := h.own.cells (g := g) rfl j (vs[j]) (by simp [hj'])
    rw [this, e1]
section
variable {P : Program} (w : World)
/-- as own_append; and what was no nil is none -/
theorem own_append2 (t ty e : TypeId) (i : TypeInfo) (ht : P.underlying t = some (.slice e)) (hi : P.info? e = some i) (hz : i.zero = some (.int .u8 0)) (hs : i.size = 1) (hby : i.bytes = 1)
    (B : Nat) (v : Value) (bs : List UInt8) (hown : OwnB w B e v bs) (hB : B ≤ w.heap.size) (hne : ∃ k, v.ownBlock = some k) (A : Option Addr) (c : Nat) (xs : List UInt8) (hr : Rd w A xs) (hn : bs.length + xs.length ≤ 140737488355328) :
    ∃ v' w' k, (Builtin.append_ #[t, t] ty #[v, .slice A xs.length c]).run P w = .ok v' w' ∧ OwnB w' B e v' (bs ++ xs) ∧ w.grownBy w' v.ownBlock ∧ v'.ownBlock = some k := by
  cases A with
  | some a =>
    obtain ⟨v', w', h1, h2, h3, h4⟩ := run_append_own (P := P) w B t ty e i (.int .u8 0) 1 1 ht hi hz hs hby rfl (by omega) v bs.length (vbs bs) hown a xs.length c (vbs xs) (by simp) (fun j u hu => by
      simp only [vbs, List.getElem?_map, Option.map_eq_some_iff] at hu
      obtain ⟨b, hb, rfl⟩ := hu
      obtain ⟨hj, hb⟩ := List.getElem?_eq_some_iff.1 hb
      obtain ⟨ad, he, hc⟩ := hr j hj
      cases he
      rw [hc, hb]) (vbs_one xs) (by unfold maxLen; omega) (by omega) hB
    have hnn : v' ≠ .slice none 0 0 := fun e => by
      obtain ⟨k, hk⟩ := hne
      rw [(h4.1 e).1] at hk
      cases hk
    have hk : ∃ k, v'.ownBlock = some k := by
      rcases h2.2 with ⟨h, _⟩ | ⟨g, cap, cur, h, _⟩
      · exact absurd h hnn
      · exact ⟨g, by rw [h]; rfl⟩
    obtain ⟨k, hk⟩ := hk
    refine ⟨v', w', k, h1, ?_, h3, hk⟩
    unfold OwnB
    rw [vbs_append, List.length_append]
    exact h2
  | none =>
    have hx : xs = [] := by
      cases xs with
      | nil => rfl
      | cons b r => obtain ⟨ad, he, _⟩ := hr 0 (by simp); cases he
    subst hx
    obtain ⟨A, c', rfl, _, hc', _, _⟩ := hown.form
    obtain ⟨k, hk⟩ := hne
    refine ⟨.slice A bs.length c', w, k, ?_, by simpa using hown, ⟨rfl, rfl, rfl, Nat.le_refl _, fun _ _ _ => rfl⟩, hk⟩
    have hle : bs.length ≤ c' := hc'
    cases A <;> simp [Builtin.append_, run_underlying ht, sizeOf, typeInfo, hi, Builtin.lenOf, hle, Builtin.firstCells, storeCells]
theorem step_append_run {ops : Array Oper} {o : Oper} {a : Act} {K : Act → World → Prop} {Q : Exit → Act → World → Prop} {E : Prop} (hgd : o.guard = none) (s x : Operand) (t t' : TypeId)
    (ho : o.op = .call { callee := .builtin .append, args := #[s, x], argTypes := #[t, t'] }) {vs vx v : Value} {w w' : World} (hs : a.eval s = vs) (hx : a.eval x = vx)
    (hr : (Builtin.append_ #[t, t'] o.type #[vs, vx]).run P w = .ok v w') (h : K (a.put o.dst v) w') :
    if Region.wanted o (yielded ops a.tmps) = true then Oper.wp P o a w K Q else E := by
  have hw : Region.wanted o (yielded ops a.tmps) = true := by simp [Region.wanted, hgd]
  rw [if_pos hw]
  unfold Oper.wp execOp
  simp only [ho, resolve, invoke, builtin, Sem.run_bind, Sem.run_pure, Result.andThen_ok, List.map_toArray, List.map_cons, List.map_nil, hs, hx, hr]
  exact h
end
/-- a copy of a slice of slices: its elements are those that w has -/
structure UseP (w W : World) (v : Value) (xs : List Value) (ls : List (List UInt8)) : Prop where
  own : W.ownsRow w.heap.size 33 1 v ls.length xs
  el : ∀ j (h1 : j < xs.length) (h2 : j < ls.length), ∃ Aj cj, xs[j] = .slice Aj ls[j].length cj ∧ Rd w Aj ls[j] ∧ ls[j].length ≤ cj
theorem UseP.rdl {w W : World} {v : Value} {xs : List Value} {ls : List (List UInt8)} (h : UseP w W v xs ls) (h0 : 0 < ls.length) :
    ∃ gu cap, v = .slice (some ⟨gu, 0, none⟩) ls.length cap ∧ ls.length ≤ cap ∧ gu < W.heap.size ∧ w.heap.size ≤ gu ∧ ∀ w' : World, w'.heap[gu]? = W.heap[gu]? → Below w.heap.size w w' → RdL w' (some ⟨gu, 0, none⟩) ls := by
  rcases h.own.2 with ⟨_, hn⟩ | ⟨g, cap, cur, hv, hb, hc, hl, _⟩
  · omega
  · refine ⟨g, cap, hv, hl, (Array.getElem?_eq_some_iff.1 hc).1, hb, fun w' hk hbw j hj => ?_⟩
    have hj' : j < xs.length := by have := h.own.1; omega
    obtain ⟨Aj, cj, e1, e2, e3⟩ := h.el j hj' hj
    refine ⟨_, Aj, cj, rfl, ?_, e2.below hbw, e3⟩
    have hgb : ∀ j : Nat, ((⟨g, 0, none⟩ : Addr).add j).block = g := fun j => by rw [addr_add0]
    rw [World.cell?_of_block (w := W) (by rw [hgb]; exact hk)]
    have := h.own.cells (g := g) (by rw [hv]; rfl) j (xs[j]) (by simp [hj'])
    rw [this, e1]
theorem UseP.set {w W : World} {gu cap : Nat} {xs : List Value} {ls : List (List UInt8)} (h : UseP w W (.slice (some ⟨gu, 0, none⟩) ls.length cap) xs ls) (k : Nat) (hk : k < ls.length) :
    W.frozen? ⟨gu, k, none⟩ = false ∧ (∃ u, W.cell? ⟨gu, k, none⟩ = some u) ∧ UseP w (W.setCell ⟨gu, k, none⟩ (.slice none 0 0)) (.slice (some ⟨gu, 0, none⟩) ls.length cap) (xs.set k (.slice none 0 0)) (ls.set k []) ∧ W.grownBy (W.setCell ⟨gu, k, none⟩ (.slice none 0 0)) (some gu) := by
  obtain ⟨s1, s2⟩ := h.own.stored k (.slice none 0 0)
  have hxl := h.own.1
  refine ⟨h.own.frozenAt k, ⟨xs[k]'(by omega), by rw [h.own.cellAt k (by omega)]; simp [show k < xs.length by omega]⟩, ⟨by simpa using s1, fun j h1 h2 => ?_⟩, s2⟩
  by_cases hj : k = j
  · subst hj
    simp only [List.getElem_set_self]
    exact ⟨none, 0, rfl, fun j hj => by simp at hj, Nat.le_refl _⟩
  · simp only [List.getElem_set_ne hj]
    exact h.el j (by simpa using h1) (by simpa using h2)
theorem use_run {w W : World} {A : Option Addr} {c : Nat} {ls : List (List UInt8)} (hb : Below w.heap.size w W) (hr : RdL w A ls) (h0 : 0 < ls.length) (hl : ls.length ≤ 1000) :
    ∃ v' W' xs, (Builtin.append_ #[23, 23] 23 #[.slice (some ⟨W.heap.size, 0, none⟩) 0 0, .slice A ls.length c]).run Tryd.prog (W.alloc (.cells #[] 33)) = .ok v' W' ∧ UseP w W' v' xs ls ∧ Below w.heap.size w W' := by
  obtain ⟨iS, hi, hz0, hz1, hz2⟩ := info_parts infoS3
  have hb1 : Below w.heap.size w (W.alloc (.cells #[] 33)) := hb.alloc hb.size _
  have each : ∀ j : Fin ls.length, ∃ u Aj cj, (∃ ad, A = some ad ∧ (W.alloc (.cells #[] 33)).cell? (ad.add j.1) = some u) ∧ u = .slice Aj ls[j.1].length cj ∧ Rd w Aj ls[j.1] ∧ ls[j.1].length ≤ cj := fun j => by
    obtain ⟨ad, Aj, cj, e1, e2⟩ := hr.at j.1 j.2
    obtain ⟨_, _, _, _, _, e3, e4⟩ := hr j.1 j.2
    obtain ⟨ad', Aj', cj', f1, f2, f3, f4⟩ := (hr.below hb1) j.1 j.2
    obtain ⟨g1, g2⟩ := e2 _ hb1
    obtain ⟨g3, g4⟩ := e2 w (Below.refl _ _)
    rw [e1] at f1
    cases f1
    rw [g1] at f2
    cases f2
    exact ⟨_, Aj, cj, ⟨ad, e1, g1⟩, rfl, g4, f4⟩
  obtain ⟨ad, hA⟩ : ∃ ad, A = some ad := by obtain ⟨ad, _, _, h, _⟩ := hr 0 h0; exact ⟨ad, h⟩
  subst hA
  obtain ⟨xs, hxl, hx⟩ : ∃ xs : List Value, xs.length = ls.length ∧ ∀ j (h1 : j < xs.length) (h2 : j < ls.length), (W.alloc (.cells #[] 33)).cell? (ad.add j) = some xs[j] ∧ ∃ Aj cj, xs[j] = .slice Aj ls[j].length cj ∧ Rd w Aj ls[j] ∧ ls[j].length ≤ cj := by
    refine ⟨(List.finRange ls.length).map fun j => (each j).choose, by simp, fun j h1 h2 => ?_⟩
    obtain ⟨Aj, cj, ⟨ad', hh, hc⟩, h3, h4, h5⟩ := (each ⟨j, h2⟩).choose_spec
    cases hh
    have e : ((List.finRange ls.length).map fun j => (each j).choose)[j] = (each ⟨j, h2⟩).choose := by simp
    rw [e]
    exact ⟨hc, Aj, cj, h3, h4, h5⟩
  obtain ⟨v', w', h1, h2, h3, _⟩ := run_append_own (P := Tryd.prog) (W.alloc (.cells #[] 33)) w.heap.size 23 23 33 iS _ 1 24 Tryd.underlying23 hi hz0 hz1 hz2 rfl (by omega) (.slice (some ⟨W.heap.size, 0, none⟩) 0 0) 0 [] (World.ownsRow_lit W #[] 0 hb.size (Nat.zero_le _) rfl) ad ls.length c xs (by omega) (fun j u hu => by
      obtain ⟨hj, e⟩ := List.getElem?_eq_some_iff.1 hu
      rw [(hx j hj (by omega)).1, e]) (fun u hu => by
      obtain ⟨j, hj, rfl⟩ := List.getElem_of_mem hu
      obtain ⟨_, Aj, cj, e, _⟩ := hx j hj (by omega)
      rw [e]; rfl) (by unfold maxLen; omega) (by omega) (by rw [World.size_alloc]; have := hb.size; omega)
  refine ⟨v', w', xs, h1, ⟨by simpa using h2, fun j a1 a2 => (hx j a1 a2).2⟩, hb1.grown h3 hb1.size fun k e => ?_⟩
  cases e
  exact hb.size
end Go.Proofs.YtfajgnaphekdhaaDoor
