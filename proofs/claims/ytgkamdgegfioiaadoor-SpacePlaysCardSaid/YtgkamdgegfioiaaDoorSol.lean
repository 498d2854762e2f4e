/- A space in plain words: a run is found, shared, dropped; a turn. No program. -/
import Derived.Test.YtgkamdgegfioiaaDoorFnd
import Derived.Test.YtgkamdgegfioiaaDoorSdf
namespace Go.Proofs.YtgkamdgegfioiaaDoor
open Go.RowKit
set_option linter.unusedSimpArgs false
set_option linter.unusedVariables false
/-- it is the run that begins at row k -/
def isR (k : Int) (p : Pc) : Prop := (p.at_ : Int) = k ∧ p.cnt ≠ 0
instance (k : Int) (p : Pc) : Decidable (isR k p) := inferInstanceAs (Decidable (_ ∧ _))
/-- the first run that begins at row k -/
def findS (k : Int) : List Pc → Option Pc
  | [] => none
  | p :: ps => if isR k p then some p else findS k ps
/-- .. exchanged -/
def upd (k : Int) (f : Pc → List Pc) : List Pc → Option (List Pc)
  | [] => none
  | p :: ps => if isR k p then some (f p ++ ps) else (upd k f ps).map (p :: ·)
def hitAt (ps : List Pc) (k : Int) (i : Nat) : Prop := ∃ h : i < ps.length, isR k ps[i] ∧ ∀ j (hj : j < ps.length), j < i → ¬ isR k ps[j]
theorem findS_at (f : Pc → List Pc) {k : Int} : ∀ {ps : List Pc} {i : Nat} (h : hitAt ps k i), findS k ps = some (ps[i]'h.1) ∧ upd k f ps = some (ps.take i ++ (f (ps[i]'h.1) ++ ps.drop (i + 1)))
  | [], i, h => absurd h.1 (by simp)
  | p :: ps, 0, h => by
    have h1 : isR k p := h.2.1
    simp [findS, upd, h1]
  | p :: ps, i + 1, h => by
    have h1 : ¬ isR k p := h.2.2 0 (by simp) (by omega)
    have h2 : hitAt ps k i := ⟨by have := h.1; simpa using this, by have := h.2.1; simpa using this, fun j hj hji => by
      have := h.2.2 (j + 1) (by simpa using hj) (by omega)
      simpa using this⟩
    have ih := findS_at f h2
    unfold findS upd
    rw [if_neg h1, if_neg h1, ih.1, ih.2]
    simp
theorem findS_none (f : Pc → List Pc) {k : Int} : ∀ {ps : List Pc}, (∀ p ∈ ps, ¬ isR k p) → findS k ps = none ∧ upd k f ps = none
  | [], _ => ⟨rfl, rfl⟩
  | p :: ps, h => by
    have ih := findS_none f (fun q hq => h q (List.mem_cons_of_mem _ hq))
    unfold findS upd
    rw [if_neg (h p (List.mem_cons_self ..)), if_neg (h p (List.mem_cons_self ..)), ih.1, ih.2]
    exact ⟨rfl, rfl⟩
theorem upd_cons (k : Int) (f : Pc → List Pc) (p : Pc) (ps : List Pc) : upd k f (p :: ps) = if isR k p then some (f p ++ ps) else (upd k f ps).map (p :: ·) := rfl
theorem findS_cons (k : Int) (p : Pc) (ps : List Pc) : findS k (p :: ps) = if isR k p then some p else findS k ps := rfl
theorem findS_mem {k : Int} : ∀ {ps : List Pc} {p : Pc}, findS k ps = some p → p ∈ ps ∧ isR k p
  | [], p, h => by cases h
  | q :: ps, p, h => by
    unfold findS at h
    split at h
    · rename_i h1
      cases h
      exact ⟨List.mem_cons_self .., h1⟩
    · have := findS_mem h
      exact ⟨List.mem_cons_of_mem _ this.1, this.2⟩
/-- what the search by halves tells -/
theorem bs_hit {ps : List Pc} {k : Int} {i : Nat} (hs : SortedAt ps) (h : BsPost ps k i) :
    (∃ hi : i < ps.length, bsHit ps k i = true ∧ ps[i].cnt ≠ 0 ∧ hitAt ps k i) ∨ ((∀ p ∈ ps, ¬ isR k p) ∧ (bsHit ps k i = false ∨ ∃ hi : i < ps.length, bsHit ps k i = true ∧ ps[i].cnt = 0)) := by
  obtain ⟨h1, h2, h3⟩ := h
  have hne : ∀ j (hj : j < ps.length), j ≠ i → ¬ isR k ps[j] := fun j hj hji hr => by
    have hr1 := hr.1
    rcases Nat.lt_or_gt_of_ne hji with h | h
    · have := h2 j hj h; omega
    · have a := h3 i (by omega) (Nat.le_refl _)
      have b := hs i j (by omega) hj h
      omega
  by_cases hi : i < ps.length
  · by_cases hk : (ps[i].at_ : Int) = k
    · have hb : bsHit ps k i = true := by unfold bsHit; rw [List.getElem?_eq_getElem hi]; simpa using hk
      by_cases hc : ps[i].cnt = 0
      · refine .inr ⟨fun p hp hr => ?_, .inr ⟨hi, hb, hc⟩⟩
        obtain ⟨j, hj, rfl⟩ := List.mem_iff_getElem.1 hp
        by_cases hji : j = i
        · subst hji; exact hr.2 hc
        · exact hne j hj hji hr
      · exact .inl ⟨hi, hb, hc, hi, ⟨hk, hc⟩, fun j hj hji => hne j hj (by omega)⟩
    · refine .inr ⟨fun p hp hr => ?_, .inl (by unfold bsHit; rw [List.getElem?_eq_getElem hi]; simpa using hk)⟩
      obtain ⟨j, hj, rfl⟩ := List.mem_iff_getElem.1 hp
      by_cases hji : j = i
      · subst hji; exact hk hr.1
      · exact hne j hj hji hr
  · refine .inr ⟨fun p hp hr => ?_, .inl (by unfold bsHit; rw [List.getElem?_eq_none (by omega)])⟩
    obtain ⟨j, hj, rfl⟩ := List.mem_iff_getElem.1 hp
    exact hne j hj (by omega) hr
/-- one use more -/
def incP (p : Pc) : List Pc := [{ p with cnt := p.cnt + 1 }]
/-- one use less -/
def decP1 (p : Pc) : List Pc := if p.cnt = 1 ∧ p.old = false then [] else [{ p with cnt := p.cnt - 1 }]
/-- what Share answers, and leaves -/
def shareS (k : Int) (ps : List Pc) : Int × List Pc := match findS k ps with
  | none => (3, ps)
  | some p => if p.cnt = 65535 then (14, ps) else (0, (upd k incP ps).getD ps)
def dropS (k : Int) (ps : List Pc) : Int × List Pc := match upd k decP1 ps with
  | none => (3, ps)
  | some qs => (0, qs)
def turnS (ps : List Pc) : List Pc := (live ps).map oldP
theorem Wf.map_old {r : Nat} : ∀ {a : Nat} {ps : List Pc}, Wf r a ps → Wf r a (ps.map oldP)
  | _, [], h => h
  | a, p :: ps, h => ⟨h.1, h.2.1, h.2.2.1, h.2.2.2.1, h.2.2.2.2.map_old⟩
theorem turnS_wf {r a : Nat} {ps : List Pc} (h : Wf r a ps) : Wf r a (turnS ps) := (live_wf h).map_old
theorem upd_wf {r : Nat} {k : Int} {f : Pc → List Pc} : ∀ {a : Nat} {ps qs : List Pc}, Wf r a ps → (∀ p, findS k ps = some p → f p = [] ∨ ∃ c o, c ≤ 65535 ∧ f p = [{ p with cnt := c, old := o }]) → upd k f ps = some qs → Wf r a qs
  | _, [], _, _, _, h => by cases h
  | a, p :: ps, qs, hw, hf, h => by
    unfold upd at h
    split at h
    · rename_i h1
      cases h
      rcases hf p (by unfold findS; rw [if_pos h1]) with e | ⟨c, o, hc, e⟩
      · rw [e]
        refine hw.2.2.2.2.mono ?_
        have := hw.1
        unfold Pc.fin
        omega
      · rw [e]
        exact ⟨hw.1, hw.2.1, hc, hw.2.2.2.1, hw.2.2.2.2⟩
    · rename_i h1
      rw [Option.map_eq_some_iff] at h
      obtain ⟨q2, e1, rfl⟩ := h
      exact ⟨hw.1, hw.2.1, hw.2.2.1, hw.2.2.2.1, upd_wf hw.2.2.2.2 (fun q hq => hf q (by unfold findS; rw [if_neg h1]; exact hq)) e1⟩
theorem dropS_wf {r a : Nat} {k : Int} {ps : List Pc} (h : Wf r a ps) : Wf r a (dropS k ps).2 := by
  unfold dropS
  split
  · exact h
  · rename_i qs e
    refine upd_wf h (fun p hp => ?_) e
    unfold decP1
    split
    · exact .inl rfl
    · exact .inr ⟨p.cnt - 1, p.old, by have := (h.all p (findS_mem hp).1).2.2.1; omega, rfl⟩
theorem upd_none_iff (f : Pc → List Pc) {k : Int} : ∀ {ps : List Pc}, upd k f ps = none ↔ findS k ps = none
  | [] => ⟨fun _ => rfl, fun _ => rfl⟩
  | p :: ps => by
    unfold upd findS
    split
    · simp
    · rw [Option.map_eq_none_iff]; exact upd_none_iff f
theorem shareS_wf {r a : Nat} {k : Int} {ps : List Pc} (h : Wf r a ps) : Wf r a (shareS k ps).2 := by
  unfold shareS
  split
  · exact h
  · rename_i p e
    split
    · exact h
    · rename_i hc
      cases hu : upd k incP ps with
      | none => exact h
      | some qs =>
        refine upd_wf h (fun q hq => .inr ⟨q.cnt + 1, q.old, ?_, rfl⟩) hu
        rw [e] at hq
        cases hq
        have := (h.all p (findS_mem e).1).2.2.1
        omega
/-- of the pieces in use -/
theorem findS_live {k : Int} : ∀ (ps : List Pc), findS k (live ps) = findS k ps
  | [] => rfl
  | p :: ps => by
    have ih := findS_live (k := k) ps
    unfold live at *
    rw [List.filter_cons]
    by_cases hc : p.cnt = 0
    · rw [if_neg (by simpa using hc), ih]
      conv => rhs; unfold findS
      rw [if_neg (fun h => h.2 hc)]
    · rw [if_pos (by simpa using hc)]
      unfold findS
      rw [ih]
/-- what is used less, of those in use -/
def decL (p : Pc) : List Pc := if p.cnt = 1 then [] else [{ p with cnt := p.cnt - 1 }]
theorem live_dec (p : Pc) (h : p.cnt ≠ 0) : live (decP1 p) = decL p := by
  unfold decP1 decL live
  by_cases h1 : p.cnt = 1
  · by_cases h2 : p.old = false
    · simp [h1, h2]
    · simp [h1, h2]
  · have h3 : ¬ p.cnt - 1 = 0 := by omega
    simp [h1, h3]
theorem drop_live {k : Int} : ∀ {ps : List Pc}, (upd k decP1 ps).map live = upd k decL (live ps)
  | [] => rfl
  | p :: ps => by
    have ih := drop_live (k := k) (ps := ps)
    have hcons : ∀ q xs, live (q :: xs) = if q.cnt ≠ 0 then q :: live xs else live xs := fun q xs => by
      unfold live
      rw [List.filter_cons]
      simp
    rw [hcons]
    by_cases hc : p.cnt = 0
    · rw [if_neg (by simpa using hc), ← ih]
      rw [upd_cons, if_neg (fun h => h.2 hc)]
      cases upd k decP1 ps with
      | none => rfl
      | some qs => show some (live (p :: qs)) = some (live qs); rw [hcons, if_neg (by simpa using hc)]
    · rw [if_pos hc]
      rw [upd_cons, upd_cons]
      by_cases hr : isR k p
      · rw [if_pos hr, if_pos hr, Option.map_some, live_append, live_dec p hc]
      · rw [if_neg hr, if_neg hr, ← ih]
        cases upd k decP1 ps with
        | none => rfl
        | some qs => show some (live (p :: qs)) = some (p :: live qs); rw [hcons, if_pos hc]
/-- one use less of the first that is in use -/
theorem drop_first {ps : List Pc} {p : Pc} {rest : List Pc} (h : live ps = p :: rest) (hc : p.cnt ≠ 0) : (dropS (p.at_ : Int) ps).1 = 0 ∧ live (dropS (p.at_ : Int) ps).2 = decL p ++ rest := by
  have hd := drop_live (k := (p.at_ : Int)) (ps := ps)
  rw [h, upd_cons, if_pos ⟨rfl, hc⟩] at hd
  unfold dropS
  cases hu : upd (p.at_ : Int) decP1 ps with
  | none => rw [hu] at hd; cases hd
  | some qs =>
    rw [hu] at hd
    exact ⟨rfl, Option.some.inj hd⟩
end Go.Proofs.YtgkamdgegfioiaaDoor
