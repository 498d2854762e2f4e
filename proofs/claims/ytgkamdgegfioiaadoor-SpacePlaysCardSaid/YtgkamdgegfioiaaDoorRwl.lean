/- The rows of the reference: one row after another, as a space's pieces have them. No program. -/
import Derived.Test.YtgkamdgegfioiaaDoorSol
namespace Go.Proofs.YtgkamdgegfioiaaDoor
open Go.RowKit
set_option linter.unusedSimpArgs false
set_option linter.unusedVariables false
/-- a row: where its run begins (-1: none), held, and of a first row: how many, uses, tag, old -/
structure Rw where
  run : Int
  held : Bool
  n : Nat
  uses : Nat
  tag : Nat
  old : Bool
def frR : Rw := ⟨-1, false, 0, 0, 0, false⟩
def hdR : Rw := ⟨-1, true, 0, 0, 0, false⟩
def bdR (a : Nat) : Rw := ⟨(a : Int), false, 0, 0, 0, false⟩
def fsR (p : Pc) : Rw := ⟨(p.at_ : Int), false, p.n, p.cnt, p.tag, p.old⟩
/-- row i of a piece -/
def pcR (p : Pc) (i : Nat) : Rw := if p.cnt = 0 then hdR else if i = p.at_ then fsR p else bdR p.at_
/-- row i -/
def rowP : List Pc → Nat → Rw
  | [], _ => frR
  | p :: ps, i => if i < p.at_ then frR else if i < p.fin then pcR p i else rowP ps i
theorem rowP_cons (p : Pc) (ps : List Pc) (i : Nat) : rowP (p :: ps) i = if i < p.at_ then frR else if i < p.fin then pcR p i else rowP ps i := rfl
/-- all rows -/
def rows (r : Nat) (ps : List Pc) : List Rw := (List.range r).map (rowP ps)
theorem rows_len (r : Nat) (ps : List Pc) : (rows r ps).length = r := by unfold rows; simp
theorem rows_at {r : Nat} {ps : List Pc} {i : Nat} (h : i < (rows r ps).length) : (rows r ps)[i] = rowP ps i := by simp only [rows, List.getElem_map, List.getElem_range]
theorem rows_ext {r : Nat} {ps : List Pc} {L : List Rw} (h : L.length = r) (hi : ∀ i (h : i < L.length), L[i] = rowP ps i) : L = rows r ps :=
  List.ext_getElem (by rw [rows_len, h]) (fun i h1 h2 => by rw [rows_at h2]; exact hi i h1)
/-- below the first piece all is free -/
theorem rowP_lt {r : Nat} : ∀ {a : Nat} {ps : List Pc}, Wf r a ps → ∀ i, i < a → rowP ps i = frR
  | _, [], _, _, _ => rfl
  | a, p :: ps, h, i, hi => by
    have := h.1
    unfold rowP
    rw [if_pos (by omega)]
/-- row i, of whatever piece it is -/
theorem rowP_mem {r : Nat} : ∀ {a : Nat} {ps : List Pc}, Wf r a ps → ∀ p ∈ ps, ∀ i, p.at_ ≤ i → i < p.fin → rowP ps i = pcR p i
  | _, [], _, p, hp, _, _, _ => by cases hp
  | a, q :: ps, h, p, hp, i, h1, h2 => by
    rcases List.mem_cons.1 hp with rfl | hp
    · unfold rowP
      rw [if_neg (by omega), if_pos h2]
    · have := (h.2.2.2.2.all p hp).1
      unfold rowP
      unfold Pc.fin at this
      rw [if_neg (by unfold Pc.fin at *; omega), if_neg (by unfold Pc.fin at *; omega)]
      exact rowP_mem h.2.2.2.2 p hp i h1 h2
theorem rowP_or {r : Nat} : ∀ {a : Nat} {ps : List Pc}, Wf r a ps → ∀ i, rowP ps i = frR ∨ ∃ p ∈ ps, p.at_ ≤ i ∧ i < p.fin ∧ rowP ps i = pcR p i
  | _, [], _, _ => .inl rfl
  | a, q :: ps, h, i => by
    by_cases h1 : i < q.at_
    · left
      unfold rowP
      rw [if_pos h1]
    · by_cases h2 : i < q.fin
      · right
        refine ⟨q, List.mem_cons_self .., by omega, h2, ?_⟩
        unfold rowP
        rw [if_neg h1, if_pos h2]
      · have e : rowP (q :: ps) i = rowP ps i := by
          conv => lhs; unfold rowP
          rw [if_neg h1, if_neg h2]
        rw [e]
        rcases rowP_or h.2.2.2.2 i with h3 | ⟨p, hp, h4⟩
        · exact .inl h3
        · exact .inr ⟨p, List.mem_cons_of_mem _ hp, h4⟩
/-- a run begins at row k -/
def begR (L : List Rw) (k : Int) : Bool := match L[k.toNat]? with
  | some x => decide (0 ≤ k) && decide (x.run = k)
  | none => false
theorem findS_of {k : Int} : ∀ {ps : List Pc} {p : Pc}, p ∈ ps → isR k p → ∃ q, findS k ps = some q
  | q :: ps, p, hp, hr => by
    rw [findS_cons]
    by_cases h : isR k q
    · exact ⟨q, by rw [if_pos h]⟩
    · rw [if_neg h]
      rcases List.mem_cons.1 hp with rfl | hp
      · exact absurd hr h
      · exact findS_of hp hr
theorem findS_uniq {r a : Nat} {k : Int} {ps : List Pc} (hw : Wf r a ps) {p : Pc} (hp : p ∈ ps) (hr : isR k p) : findS k ps = some p := by
  obtain ⟨q, hq⟩ := findS_of hp hr
  obtain ⟨h1, h2⟩ := findS_mem hq
  obtain ⟨i, hi, rfl⟩ := List.mem_iff_getElem.1 hp
  obtain ⟨j, hj, rfl⟩ := List.mem_iff_getElem.1 h1
  have e : (ps[i].at_ : Int) = ps[j].at_ := hr.1.trans h2.1.symm
  have hs := hw.sorted
  rcases Nat.lt_trichotomy i j with h | h | h
  · have := hs i j hi hj h; omega
  · subst h; exact hq
  · have := hs j i hj hi h; omega
theorem beg_rows {r : Nat} {ps : List Pc} (hw : Wf r 0 ps) (k : Int) : begR (rows r ps) k = (findS k ps).isSome := by
  cases hf : findS k ps with
  | some p =>
    obtain ⟨hm, hr⟩ := findS_mem hf
    have ha := hw.all p hm
    have hlt : k.toNat < (rows r ps).length := by
      rw [rows_len]
      have h1 := hr.1
      have h2 := ha.2.2.2.2
      have h3 := ha.2.1
      unfold Pc.fin at h2
      omega
    unfold begR
    rw [List.getElem?_eq_getElem hlt]
    show (decide (0 ≤ k) && decide ((rows r ps)[k.toNat].run = k)) = true
    have hk : k.toNat = p.at_ := by have := hr.1; omega
    rw [rows_at, hk, rowP_mem hw p hm p.at_ (Nat.le_refl _) (by have := ha.2.1; unfold Pc.fin; omega)]
    unfold pcR
    rw [if_neg hr.2, if_pos rfl]
    have := hr.1
    have h5 : 0 ≤ k := by omega
    simp [fsR, h5, this]
  | none =>
    unfold begR
    split
    · rename_i x hx
      obtain ⟨hlt, hx2⟩ := List.getElem?_eq_some_iff.1 hx
      rw [rows_at] at hx2
      rcases rowP_or hw k.toNat with h1 | ⟨p, hp, h1, h2, h3⟩
      · rw [← hx2, h1]
        by_cases h0 : 0 ≤ k
        · have : ¬ (-1 = k) := by omega
          simp [frR, this]
        · simp [h0]
      · by_cases h0 : 0 ≤ k
        · have hne : ¬ x.run = k := by
            rw [← hx2, h3]
            unfold pcR
            by_cases hc : p.cnt = 0
            · rw [if_pos hc]; show ¬ (-1 : Int) = k; omega
            · rw [if_neg hc]
              have hnk : ¬ ((p.at_ : Int) = k) := fun e => by
                obtain ⟨q, hq⟩ := findS_of hp ⟨e, hc⟩
                rw [hf] at hq
                cases hq
              split
              · exact hnk
              · exact hnk
          simp [hne]
        · simp [h0]
    · rfl
theorem row_first {r : Nat} {ps : List Pc} (hw : Wf r 0 ps) {k : Int} {p : Pc} (hf : findS k ps = some p) : p.at_ < r ∧ (k.toNat = p.at_ ∧ (p.at_ : Int) = k) ∧ rowP ps p.at_ = fsR p := by
  obtain ⟨hm, hr⟩ := findS_mem hf
  have ha := hw.all p hm
  have h2 := ha.2.2.2.2
  have h3 := ha.2.1
  unfold Pc.fin at h2
  refine ⟨by omega, ⟨by have := hr.1; omega, hr.1⟩, ?_⟩
  rw [rowP_mem hw p hm p.at_ (Nat.le_refl _) (by unfold Pc.fin; omega)]
  unfold pcR
  rw [if_neg hr.2, if_pos rfl]
/-- the rows behind an exchange of the run at row k -/
theorem rowP_upd {r : Nat} {k : Int} {f : Pc → List Pc} : ∀ {a : Nat} {ps qs : List Pc} {p : Pc}, Wf r a ps → findS k ps = some p → upd k f ps = some qs → (f p = [] ∨ ∃ c o, f p = [{ p with cnt := c, old := o }]) → ∀ i, rowP qs i = if p.at_ ≤ i ∧ i < p.fin then (match f p with | [] => frR | q :: _ => pcR q i) else rowP ps i
  | _, [], _, _, _, hf, _, _, _ => by cases hf
  | a, q :: ps, qs, p, hw, hf, hu, hfp, i => by
    rw [findS_cons] at hf
    rw [upd_cons] at hu
    by_cases hr : isR k q
    · rw [if_pos hr] at hf hu
      obtain rfl : p = q := (Option.some.inj hf).symm
      cases hu
      rcases hfp with e | ⟨c, o, e⟩
      · rw [e]
        simp only [List.nil_append]
        by_cases hi : p.at_ ≤ i ∧ i < p.fin
        · rw [if_pos hi, rowP_lt hw.2.2.2.2 i hi.2]
        · rw [if_neg hi]
          by_cases h1 : i < p.at_
          · have h2 := rowP_lt hw.2.2.2.2 i (by unfold Pc.fin; omega)
            rw [h2]
            unfold rowP
            rw [if_pos h1]
          · conv => rhs; unfold rowP
            rw [if_neg h1, if_neg (by omega)]
      · rw [e]
        show (if i < p.at_ then frR else if i < p.fin then pcR { p with cnt := c, old := o } i else rowP ps i) = if p.at_ ≤ i ∧ i < p.fin then pcR { p with cnt := c, old := o } i else rowP (p :: ps) i
        rw [rowP_cons]
        by_cases h1 : i < p.at_
        · rw [if_pos h1, if_neg (by omega), if_pos h1]
        · by_cases h2 : i < p.fin
          · rw [if_neg h1, if_pos h2, if_pos ⟨by omega, h2⟩]
          · rw [if_neg h1, if_neg h2, if_neg (by omega), if_neg h1, if_neg h2]
    · rw [if_neg hr] at hf hu
      rw [Option.map_eq_some_iff] at hu
      obtain ⟨q2, e1, rfl⟩ := hu
      have hm := (hw.2.2.2.2.all p (findS_mem hf).1).1
      have ih := rowP_upd hw.2.2.2.2 hf e1 hfp i
      by_cases h1 : i < q.at_
      · have : ¬ (p.at_ ≤ i ∧ i < p.fin) := by unfold Pc.fin at hm; omega
        rw [if_neg this]
        unfold rowP
        rw [if_pos h1, if_pos h1]
      · by_cases h2 : i < q.fin
        · have : ¬ (p.at_ ≤ i ∧ i < p.fin) := by omega
          rw [if_neg this]
          unfold rowP
          rw [if_neg h1, if_neg h1, if_pos h2, if_pos h2]
        · have e2 : ∀ xs, rowP (q :: xs) i = rowP xs i := fun xs => by
            conv => lhs; unfold rowP
            rw [if_neg h1, if_neg h2]
          rw [e2, e2, ih]
theorem rowP_or2 {r : Nat} : ∀ {a : Nat} {ps : List Pc}, Wf r a ps → ∀ i, (rowP ps i = frR ∧ ∀ p ∈ ps, ¬ (p.at_ ≤ i ∧ i < p.fin)) ∨ ∃ p ∈ ps, p.at_ ≤ i ∧ i < p.fin ∧ rowP ps i = pcR p i
  | _, [], _, _ => .inl ⟨rfl, fun p hp => by cases hp⟩
  | a, q :: ps, h, i => by
    by_cases h1 : i < q.at_
    · left
      refine ⟨by unfold rowP; rw [if_pos h1], fun p hp => ?_⟩
      rcases List.mem_cons.1 hp with rfl | hp
      · omega
      · have := (h.2.2.2.2.all p hp).1
        unfold Pc.fin at this
        omega
    · by_cases h2 : i < q.fin
      · right
        refine ⟨q, List.mem_cons_self .., by omega, h2, ?_⟩
        unfold rowP
        rw [if_neg h1, if_pos h2]
      · have e : rowP (q :: ps) i = rowP ps i := by
          conv => lhs; unfold rowP
          rw [if_neg h1, if_neg h2]
        rw [e]
        rcases rowP_or2 h.2.2.2.2 i with ⟨h3, h4⟩ | ⟨p, hp, h4⟩
        · refine .inl ⟨h3, fun p hp => ?_⟩
          rcases List.mem_cons.1 hp with rfl | hp
          · omega
          · exact h4 p hp
        · exact .inr ⟨p, List.mem_cons_of_mem _ hp, h4⟩
/-- no piece lies there: free -/
theorem rowP_no {r a : Nat} {ps : List Pc} (h : Wf r a ps) {i : Nat} (hn : ∀ p ∈ ps, ¬ (p.at_ ≤ i ∧ i < p.fin)) : rowP ps i = frR := by
  rcases rowP_or2 h i with h1 | ⟨p, hp, h1, h2, _⟩
  · exact h1.1
  · exact absurd ⟨h1, h2⟩ (hn p hp)
theorem rowP_ge {r a : Nat} {ps : List Pc} (h : Wf r a ps) {i : Nat} (hi : r ≤ i) : rowP ps i = frR :=
  rowP_no h (fun p hp => by have := (h.all p hp).2.2.2.2; omega)
theorem rows_grow {r : Nat} {ps : List Pc} (h : Wf r 0 ps) : rows (r + 1) ps = rows r ps ++ [frR] := by
  unfold rows
  rw [List.range_succ, List.map_append, List.map_singleton, rowP_ge h (Nat.le_refl _)]
theorem Wf.more {r r' : Nat} (hr : r ≤ r') : ∀ {a : Nat} {ps : List Pc}, Wf r a ps → Wf r' a ps
  | _, [], h => Nat.le_trans h hr
  | _, p :: ps, h => ⟨h.1, h.2.1, h.2.2.1, h.2.2.2.1, h.2.2.2.2.more hr⟩
/-- the rows behind Turn -/
theorem rowP_turn {r : Nat} {ps : List Pc} (hw : Wf r 0 ps) (i : Nat) : rowP (turnS ps) i = { rowP ps i with held := false, old := (findS (i : Int) ps).isSome } := by
  have hw2 := turnS_wf hw
  rcases rowP_or2 hw i with ⟨h1, h2⟩ | ⟨p, hp, h1, h2, h3⟩
  · rw [h1, rowP_no hw2 (fun q hq => ?_)]
    · have : findS (i : Int) ps = none := by
        cases hf : findS (i : Int) ps with
        | none => rfl
        | some q =>
          obtain ⟨hm, hr⟩ := findS_mem hf
          have := hr.1
          have hn := (hw.all q hm).2.1
          exact absurd ⟨by omega, by unfold Pc.fin; omega⟩ (h2 q hm)
      rw [this]
      rfl
    · unfold turnS at hq
      obtain ⟨p, hp, rfl⟩ := List.mem_map.1 hq
      exact h2 p (List.mem_filter.1 hp).1
  · rw [h3]
    by_cases hc : p.cnt = 0
    · have hno : ∀ q ∈ turnS ps, ¬ (q.at_ ≤ i ∧ i < q.fin) := fun q hq => by
        unfold turnS at hq
        obtain ⟨q2, hq2, rfl⟩ := List.mem_map.1 hq
        obtain ⟨m1, m2⟩ := List.mem_filter.1 hq2
        have hc2 : q2.cnt ≠ 0 := by simpa using m2
        rintro ⟨g1, g2⟩
        have e := rowP_mem hw q2 m1 i g1 g2
        rw [h3] at e
        unfold pcR at e
        rw [if_pos hc, if_neg hc2] at e
        split at e
        · have := congrArg Rw.held e; simp [hdR, fsR] at this
        · have := congrArg Rw.held e; simp [hdR, bdR] at this
      have hf : findS (i : Int) ps = none := by
        cases hf : findS (i : Int) ps with
        | none => rfl
        | some q =>
          obtain ⟨hm, hr⟩ := findS_mem hf
          have a1 := hr.1
          have hn := (hw.all q hm).2.1
          refine absurd ⟨?_, ?_⟩ (hno (oldP q) (List.mem_map.2 ⟨q, List.mem_filter.2 ⟨hm, by simpa using hr.2⟩, rfl⟩))
          · show q.at_ ≤ i; omega
          · show i < q.at_ + q.n; omega
      rw [rowP_no hw2 hno, hf]
      unfold pcR
      rw [if_pos hc]
      rfl
    · have hm : oldP p ∈ turnS ps := List.mem_map.2 ⟨p, List.mem_filter.2 ⟨hp, by simpa using hc⟩, rfl⟩
      rw [rowP_mem hw2 (oldP p) hm i h1 h2]
      unfold pcR
      rw [if_neg hc, if_neg (show ¬ (oldP p).cnt = 0 from hc)]
      by_cases hi : i = p.at_
      · rw [if_pos hi, if_pos (show i = (oldP p).at_ from hi)]
        have hf := findS_uniq hw hp (k := (i : Int)) ⟨by omega, hc⟩
        rw [hf]
        rfl
      · rw [if_neg hi, if_neg (show ¬ i = (oldP p).at_ from hi)]
        have hf : findS (i : Int) ps = none := by
          cases hf : findS (i : Int) ps with
          | none => rfl
          | some q =>
            obtain ⟨hm2, hr⟩ := findS_mem hf
            have a1 := hr.1
            have hn := (hw.all q hm2).2.1
            have e := rowP_mem hw q hm2 i (by omega) (by unfold Pc.fin; omega)
            rw [h3] at e
            unfold pcR at e
            rw [if_neg hc, if_neg hi, if_neg hr.2, if_pos (by omega)] at e
            have := congrArg Rw.run e
            simp only [bdR, fsR] at this
            omega
        rw [hf]
        rfl
/-- what Take of the reference looks for: from row i on, m rows, behind c free ones -/
def usedR (x : Rw) : Bool := decide (0 ≤ x.run) || x.held
def scanP (n : Nat) (f : Nat → Rw) : Nat → Nat → Nat → Option Nat
  | 0, _, _ => none
  | m + 1, i, c => if usedR (f i) then scanP n f m (i + 1) 0 else if c + 1 = n then some (i + 1 - n) else scanP n f m (i + 1) (c + 1)
theorem scanP_succ (n : Nat) (f : Nat → Rw) (m i c : Nat) : scanP n f (m + 1) i c = if usedR (f i) then scanP n f m (i + 1) 0 else if c + 1 = n then some (i + 1 - n) else scanP n f m (i + 1) (c + 1) := rfl
theorem scan_free {n : Nat} {f : Nat → Rw} : ∀ (d m i c : Nat), c ≤ i → (∀ j, i ≤ j → j < i + d → usedR (f j) = false) → c < n → scanP n f (d + m) i c = if n ≤ c + d then some (i - c) else scanP n f m (i + d) (c + d)
  | 0, m, i, c, hci, _, hc => by
    rw [if_neg (by omega), Nat.zero_add]
    rfl
  | d + 1, m, i, c, hci, h, hc => by
    rw [show d + 1 + m = (d + m) + 1 by omega, scanP_succ, if_neg (by rw [h i (Nat.le_refl _) (by omega)]; simp)]
    by_cases h1 : c + 1 = n
    · rw [if_pos h1, if_pos (by omega)]
      congr 1
      omega
    · rw [if_neg h1, scan_free d m (i + 1) (c + 1) (by omega) (fun j h2 h3 => h j (by omega) (by omega)) (by omega)]
      by_cases h2 : n ≤ c + (d + 1)
      · rw [if_pos (by omega), if_pos h2]
        congr 1
        omega
      · rw [if_neg (by omega), if_neg h2, show i + 1 + d = i + (d + 1) by omega, show c + 1 + d = c + (d + 1) by omega]
theorem scan_used {n : Nat} {f : Nat → Rw} : ∀ (d m i c : Nat), 0 < d → (∀ j, i ≤ j → j < i + d → usedR (f j) = true) → scanP n f (d + m) i c = scanP n f m (i + d) 0
  | 0, _, _, _, h0, _ => absurd h0 (by omega)
  | d + 1, m, i, c, _, h => by
    rw [show d + 1 + m = (d + m) + 1 by omega, scanP_succ, if_pos (h i (Nat.le_refl _) (by omega))]
    cases d with
    | zero => rw [Nat.zero_add]
    | succ d =>
      rw [scan_used (d + 1) m (i + 1) 0 (by omega) (fun j h2 h3 => h j (by omega) (by omega))]
      rw [show i + 1 + (d + 1) = i + (d + 1 + 1) by omega]
theorem scan_congr {n : Nat} {f g : Nat → Rw} : ∀ (m i c : Nat), (∀ j, i ≤ j → f j = g j) → scanP n f m i c = scanP n g m i c
  | 0, _, _, _ => rfl
  | m + 1, i, c, h => by
    rw [scanP_succ, scanP_succ, h i (Nat.le_refl _), scan_congr m (i + 1) 0 (fun j hj => h j (by omega)), scan_congr m (i + 1) (c + 1) (fun j hj => h j (by omega))]
theorem used_fr : usedR frR = false := rfl
theorem used_pc (p : Pc) (i : Nat) : usedR (pcR p i) = true := by
  unfold pcR
  split
  · rfl
  · split <;> simp [usedR, fsR, bdR]
theorem scan_rows {r n tag : Nat} (hn : 1 ≤ n) : ∀ {a : Nat} {ps : List Pc}, Wf r a ps → scanP n (rowP ps) (r - a) a 0 = (insF r n tag a ps).map (·.1)
  | a, [], h => by
    have := scan_free (n := n) (f := rowP []) (r - a) 0 a 0 (by omega) (fun _ _ _ => rfl) (by omega)
    rw [Nat.add_zero] at this
    rw [this]
    unfold insF
    have h0 : a ≤ r := h
    by_cases hh : r - a < n
    · rw [if_neg (by omega), if_pos hh]; rfl
    · rw [if_pos (by omega), if_neg hh]; rfl
  | a, p :: ps, h => by
    have hle := h.2.2.2.2.le
    have h1 := h.1
    have h2 := h.2.1
    have hf : p.fin = p.at_ + p.n := rfl
    have e1 := scan_free (n := n) (f := rowP (p :: ps)) (p.at_ - a) (r - p.at_) a 0 (by omega) (fun j hj hj2 => by
      have : rowP (p :: ps) j = frR := by unfold rowP; rw [if_pos (by omega)]
      rw [this]; rfl) (by omega)
    rw [show p.at_ - a + (r - p.at_) = r - a by omega, show a + (p.at_ - a) = p.at_ by omega] at e1
    rw [e1]
    unfold insF
    by_cases hh : p.at_ - a < n
    · rw [if_neg (by omega), if_pos hh]
      have e2 := scan_used (n := n) (f := rowP (p :: ps)) p.n (r - p.fin) p.at_ (0 + (p.at_ - a)) (by omega) (fun j hj hj2 => by
        have : rowP (p :: ps) j = pcR p j := by unfold rowP; rw [if_neg (by omega), if_pos (by omega)]
        rw [this]; exact used_pc p j)
      rw [show p.n + (r - p.fin) = r - p.at_ by omega] at e2
      rw [e2, show p.at_ + p.n = p.fin from rfl, scan_congr (r - p.fin) p.fin 0 (g := rowP ps) (fun j hj => by
        conv => lhs; unfold rowP
        rw [if_neg (by omega), if_neg (by omega)]), scan_rows hn h.2.2.2.2, Option.map_map]
      rfl
    · rw [if_pos (by omega), if_neg hh]
      rfl
/-- the rows behind Take -/
theorem rowP_ins {r n tag : Nat} : ∀ {a : Nat} {ps qs : List Pc} {k : Nat}, Wf r a ps → insF r n tag a ps = some (k, qs) → ∀ i, rowP qs i = if k ≤ i ∧ i < k + n then pcR ⟨k, n, 1, tag, false⟩ i else rowP ps i
  | a, [], qs, k, h, e, i => by
    unfold insF at e
    split at e
    · cases e
    · cases e
      show (if i < a then frR else if i < a + n then pcR ⟨a, n, 1, tag, false⟩ i else frR) = if a ≤ i ∧ i < a + n then pcR ⟨a, n, 1, tag, false⟩ i else frR
      by_cases h1 : i < a
      · rw [if_pos h1, if_neg (by omega)]
      · rw [if_neg h1]
        by_cases h2 : i < a + n
        · rw [if_pos h2, if_pos ⟨by omega, h2⟩]
        · rw [if_neg h2, if_neg (by omega)]
  | a, p :: ps, qs, k, h, e, i => by
    have hf : p.fin = p.at_ + p.n := rfl
    unfold insF at e
    split at e
    · rw [Option.map_eq_some_iff] at e
      obtain ⟨⟨k2, q2⟩, e1, e2⟩ := e
      cases e2
      have ih := rowP_ins h.2.2.2.2 e1 i
      have hk : p.fin ≤ k2 := by
        have hx := insF_fit r n tag ps p.fin 0
        rw [e1] at hx
        have : ∀ (ps : List Pc) (a k : Nat) (qs : List Pc), Wf r a ps → insF r n tag a ps = some (k, qs) → a ≤ k := by
          intro ps
          induction ps with
          | nil =>
            intro a k qs _ e
            unfold insF at e
            split at e
            · cases e
            · cases e; exact Nat.le_refl _
          | cons p ps ih =>
            intro a k qs hw e
            unfold insF at e
            split at e
            · rw [Option.map_eq_some_iff] at e
              obtain ⟨⟨k2, q2⟩, e1, e2⟩ := e
              cases e2
              have a1 := ih p.fin _ _ hw.2.2.2.2 e1
              have a2 := hw.1
              unfold Pc.fin at a1
              omega
            · cases e; exact Nat.le_refl _
        exact this ps p.fin k2 q2 h.2.2.2.2 e1
      by_cases h1 : i < p.at_
      · rw [if_neg (by omega)]
        unfold rowP
        rw [if_pos h1, if_pos h1]
      · by_cases h2 : i < p.fin
        · rw [if_neg (by omega)]
          unfold rowP
          rw [if_neg h1, if_neg h1, if_pos h2, if_pos h2]
        · have e3 : ∀ xs, rowP (p :: xs) i = rowP xs i := fun xs => by
            conv => lhs; unfold rowP
            rw [if_neg h1, if_neg h2]
          rw [e3, e3, ih]
    · rename_i hh
      cases e
      have h1 := h.1
      show (if i < a then frR else if i < a + n then pcR ⟨a, n, 1, tag, false⟩ i else rowP (p :: ps) i) = if a ≤ i ∧ i < a + n then pcR ⟨a, n, 1, tag, false⟩ i else rowP (p :: ps) i
      by_cases h2 : i < a
      · rw [if_pos h2, if_neg (by omega), rowP_cons, if_pos (by omega)]
      · by_cases h3 : i < a + n
        · rw [if_neg h2, if_pos h3, if_pos ⟨by omega, h3⟩]
        · rw [if_neg h2, if_neg h3, if_neg (by omega)]
/-- rows in use, rows held, up to row i -/
def uT (i : Nat) : List Pc → Nat
  | [] => 0
  | p :: ps => (if p.cnt = 0 then 0 else min p.fin i - min p.at_ i) + uT i ps
def hT (i : Nat) : List Pc → Nat
  | [] => 0
  | p :: ps => (if p.cnt = 0 then min p.fin i - min p.at_ i else 0) + hT i ps
theorem uT_zero : ∀ (ps : List Pc), uT 0 ps = 0 ∧ hT 0 ps = 0
  | [] => ⟨rfl, rfl⟩
  | p :: ps => by
    have := uT_zero ps
    unfold uT hT
    rw [this.1, this.2]
    simp
theorem uT_lt {r : Nat} : ∀ {a : Nat} {ps : List Pc}, Wf r a ps → ∀ i, i ≤ a → uT i ps = 0 ∧ hT i ps = 0
  | _, [], _, _, _ => ⟨rfl, rfl⟩
  | a, p :: ps, h, i, hi => by
    have h1 := h.1
    have hf : p.fin = p.at_ + p.n := rfl
    have := uT_lt h.2.2.2.2 i (by omega)
    unfold uT hT
    rw [this.1, this.2, Nat.min_eq_right (by omega), Nat.min_eq_right (by omega)]
    simp
theorem uT_all {r : Nat} : ∀ {a : Nat} {ps : List Pc}, Wf r a ps → uT r ps = usedS ps ∧ hT r ps = heldS ps
  | _, [], _ => ⟨rfl, rfl⟩
  | a, p :: ps, h => by
    have h1 := h.2.2.2.2.le
    have hf : p.fin = p.at_ + p.n := rfl
    have := uT_all h.2.2.2.2
    unfold uT hT usedS heldS
    rw [this.1, this.2, Nat.min_eq_left h1, Nat.min_eq_left (by omega), show p.fin - p.at_ = p.n by omega]
    exact ⟨rfl, rfl⟩
theorem uT_step {r : Nat} : ∀ {a : Nat} {ps : List Pc}, Wf r a ps → ∀ i, uT (i + 1) ps = uT i ps + (if 0 ≤ (rowP ps i).run then 1 else 0) ∧ hT (i + 1) ps = hT i ps + (if 0 ≤ (rowP ps i).run then 0 else if (rowP ps i).held = true then 1 else 0)
  | _, [], _, i => ⟨rfl, rfl⟩
  | a, p :: ps, h, i => by
    have h1 := h.2.1
    have hf : p.fin = p.at_ + p.n := rfl
    by_cases g1 : i < p.at_
    · have a1 := uT_lt h.2.2.2.2 i (by omega)
      have a2 := uT_lt h.2.2.2.2 (i + 1) (by omega)
      have e : rowP (p :: ps) i = frR := by unfold rowP; rw [if_pos g1]
      rw [e]
      unfold uT hT
      rw [a1.1, a1.2, a2.1, a2.2, Nat.min_eq_right (by omega : i + 1 ≤ p.fin), Nat.min_eq_right (by omega : i + 1 ≤ p.at_), Nat.min_eq_right (by omega : i ≤ p.fin), Nat.min_eq_right (by omega : i ≤ p.at_)]
      simp [frR]
    · by_cases g2 : i < p.fin
      · have a1 := uT_lt h.2.2.2.2 i (by omega)
        have a2 := uT_lt h.2.2.2.2 (i + 1) (by omega)
        have e : rowP (p :: ps) i = pcR p i := by unfold rowP; rw [if_neg g1, if_pos g2]
        rw [e]
        unfold uT hT
        rw [a1.1, a1.2, a2.1, a2.2, Nat.min_eq_right (by omega : i + 1 ≤ p.fin), Nat.min_eq_left (by omega : p.at_ ≤ i + 1), Nat.min_eq_right (by omega : i ≤ p.fin), Nat.min_eq_left (by omega : p.at_ ≤ i)]
        unfold pcR
        by_cases hc : p.cnt = 0
        · rw [if_pos hc, if_pos hc, if_pos hc, if_pos hc, if_pos hc]
          simp [hdR]
          omega
        · rw [if_neg hc, if_neg hc, if_neg hc, if_neg hc, if_neg hc]
          have : 0 ≤ (if i = p.at_ then fsR p else bdR p.at_).run := by split <;> simp [fsR, bdR]
          rw [if_pos this, if_pos this]
          omega
      · have e : rowP (p :: ps) i = rowP ps i := by
          conv => lhs; unfold rowP
          rw [if_neg g1, if_neg g2]
        have ih := uT_step h.2.2.2.2 i
        rw [e]
        unfold uT hT
        rw [ih.1, ih.2, Nat.min_eq_left (by omega : p.fin ≤ i + 1), Nat.min_eq_left (by omega : p.at_ ≤ i + 1), Nat.min_eq_left (by omega : p.fin ≤ i), Nat.min_eq_left (by omega : p.at_ ≤ i)]
        omega
/-- the runs that begin ahead of row i -/
def lT (i : Nat) (ps : List Pc) : List Pc := (live ps).filter (fun p => decide (p.at_ < i))
theorem lT_zero (ps : List Pc) : lT 0 ps = [] := by unfold lT; simp
theorem lT_all {r : Nat} {ps : List Pc} (h : Wf r 0 ps) : lT r ps = live ps := by
  unfold lT
  refine List.filter_eq_self.2 (fun p hp => ?_)
  have := (live_wf h).all p hp
  have h2 := this.2.2.2.2
  have h3 := this.2.1
  unfold Pc.fin at h2
  simp
  omega
theorem lT_step {r : Nat} : ∀ {a : Nat} {xs : List Pc}, Wf r a xs → ∀ i, xs.filter (fun p => decide (p.at_ < i + 1)) = xs.filter (fun p => decide (p.at_ < i)) ++ (match xs.find? (fun p => decide (p.at_ = i)) with | some p => [p] | none => [])
  | _, [], _, _ => rfl
  | a, p :: ps, h, i => by
    have h1 := h.2.1
    have hall := h.2.2.2.2.all
    rw [List.filter_cons, List.filter_cons, List.find?_cons]
    by_cases g1 : p.at_ < i
    · have g2 : ¬ p.at_ = i := by omega
      have ih := lT_step h.2.2.2.2 i
      simp only [g1, g2, decide_true, decide_false, if_true, show p.at_ < i + 1 by omega]
      rw [ih]
      rfl
    · have hn1 : ps.filter (fun p => decide (p.at_ < i)) = [] := List.filter_eq_nil_iff.2 (fun q hq => by have := (hall q hq).1; unfold Pc.fin at this; simp; omega)
      have hn2 : ps.filter (fun p => decide (p.at_ < i + 1)) = [] := List.filter_eq_nil_iff.2 (fun q hq => by have := (hall q hq).1; unfold Pc.fin at this; simp; omega)
      by_cases g2 : p.at_ = i
      · simp only [g2, decide_true, if_true, show i < i + 1 by omega, show ¬ i < i by omega, decide_false]
        rw [hn1, hn2]
        simp
      · have hn3 : ps.find? (fun p => decide (p.at_ = i)) = none := List.find?_eq_none.2 (fun q hq => by have := (hall q hq).1; unfold Pc.fin at this; simp; omega)
        simp only [g1, g2, decide_false, show ¬ p.at_ < i + 1 by omega]
        rw [hn1, hn2, hn3]
        simp
theorem find_live {i : Nat} : ∀ (ps : List Pc), (live ps).find? (fun p => decide (p.at_ = i)) = findS (i : Int) ps
  | [] => rfl
  | p :: ps => by
    have ih := find_live (i := i) ps
    rw [findS_cons]
    unfold live at *
    rw [List.filter_cons]
    by_cases hc : p.cnt = 0
    · rw [if_neg (by simpa using hc), ih, if_neg (fun h => h.2 hc)]
    · rw [if_pos (by simpa using hc), List.find?_cons, ih]
      by_cases hi : p.at_ = i
      · rw [if_pos ⟨by omega, hc⟩]
        simp [hi]
      · rw [if_neg (fun h => hi (by have := h.1; omega))]
        simp [hi]
theorem lT_next {r : Nat} {ps : List Pc} (h : Wf r 0 ps) (i : Nat) : lT (i + 1) ps = lT i ps ++ (match findS (i : Int) ps with | some p => [p] | none => []) := by
  unfold lT
  rw [lT_step (live_wf h) i, find_live]
/-- rows told by a function -/
def rowsF (f : Nat → Rw) (r : Nat) : List Rw := (List.range r).map f
theorem rows_F (r : Nat) (ps : List Pc) : rows r ps = rowsF (rowP ps) r := rfl
theorem rowsF_len (f : Nat → Rw) (r : Nat) : (rowsF f r).length = r := by unfold rowsF; simp
theorem rowsF_at {f : Nat → Rw} {r i : Nat} (h : i < (rowsF f r).length) : (rowsF f r)[i] = f i := by simp only [rowsF, List.getElem_map, List.getElem_range]
theorem rowsF_set (f : Nat → Rw) (r i : Nat) (y : Rw) : (rowsF f r).set i y = rowsF (fun j => if j = i then y else f j) r := by
  refine List.ext_getElem (by rw [List.length_set, rowsF_len, rowsF_len]) (fun j h1 h2 => ?_)
  rw [List.getElem_set, rowsF_at h2]
  by_cases h : i = j
  · rw [if_pos h, if_pos h.symm]
  · rw [if_neg h, if_neg (fun e => h e.symm), rowsF_at]
theorem rowsF_ext {f g : Nat → Rw} {r : Nat} (h : ∀ i, i < r → f i = g i) : rowsF f r = rowsF g r := by
  refine List.ext_getElem (by rw [rowsF_len, rowsF_len]) (fun j h1 h2 => ?_)
  rw [rowsF_at, rowsF_at]
  exact h j (by rw [rowsF_len] at h1; exact h1)
theorem beg_F {f : Nat → Rw} {r i : Nat} (h : i < r) : begR (rowsF f r) (i : Int) = decide ((f i).run = (i : Int)) := by
  unfold begR
  rw [Int.toNat_natCast, List.getElem?_eq_getElem (by rw [rowsF_len]; exact h), rowsF_at]
  simp
/-- one use more, or less, but not none -/
theorem rows_first {r : Nat} {k : Int} {f : Pc → List Pc} {ps qs : List Pc} {p : Pc} (hw : Wf r 0 ps) (hf : findS k ps = some p) (hu : upd k f ps = some qs) {c : Nat} (hc : c ≠ 0) (he : f p = [{ p with cnt := c }]) : (rows r ps).set p.at_ { fsR p with uses := c } = rows r qs := by
  have hp := (findS_mem hf).2.2
  have hn := (hw.all p (findS_mem hf).1).2.1
  rw [rows_F, rows_F, rowsF_set]
  refine rowsF_ext (fun i hi => ?_)
  have h1 := rowP_upd hw hf hu (.inr ⟨c, p.old, he⟩) i
  rw [he] at h1
  simp only at h1
  rw [h1]
  by_cases h2 : i = p.at_
  · subst h2
    rw [if_pos rfl, if_pos ⟨Nat.le_refl _, by unfold Pc.fin; omega⟩]
    unfold pcR
    rw [if_neg hc, if_pos rfl]
    rfl
  · rw [if_neg h2]
    by_cases h3 : p.at_ ≤ i ∧ i < p.fin
    · rw [if_pos h3, rowP_mem hw p (findS_mem hf).1 i h3.1 h3.2]
      unfold pcR
      rw [if_neg hp, if_neg h2, if_neg hc, if_neg h2]
    · rw [if_neg h3]
/-- the last use is dropped -/
theorem rows_gone {r : Nat} {k : Int} {ps qs : List Pc} {p : Pc} (hw : Wf r 0 ps) (hf : findS k ps = some p) (hu : upd k decP1 ps = some qs) (hc : p.cnt = 1) {g : Nat → Rw} (hg : ∀ i, g i = if p.at_ ≤ i ∧ i < p.fin then ⟨-1, p.old, 0, 0, 0, false⟩ else rowP ps i) : rowsF g r = rows r qs := by
  rw [rows_F]
  refine rowsF_ext (fun i hi => ?_)
  have hd : decP1 p = [] ∨ ∃ c o, decP1 p = [{ p with cnt := c, old := o }] := by
    unfold decP1
    split
    · exact .inl rfl
    · exact .inr ⟨p.cnt - 1, p.old, rfl⟩
  rw [rowP_upd hw hf hu hd i, hg]
  by_cases h3 : p.at_ ≤ i ∧ i < p.fin
  · rw [if_pos h3, if_pos h3]
    unfold decP1
    by_cases ho : p.old = false
    · rw [if_pos ⟨hc, ho⟩, ho]
      rfl
    · have ho2 : p.old = true := by simpa using ho
      rw [if_neg (fun h => ho h.2), ho2]
      show (⟨-1, true, 0, 0, 0, false⟩ : Rw) = pcR { p with cnt := p.cnt - 1, old := true } i
      unfold pcR
      rw [if_pos (by show p.cnt - 1 = 0; omega)]
      rfl
  · rw [if_neg h3, if_neg h3]
theorem rows_take {r n tag k : Nat} {ps qs : List Pc} (hw : Wf r 0 ps) (he : insF r n tag 0 ps = some (k, qs)) {g : Nat → Rw} (hg : ∀ i, g i = if k ≤ i ∧ i < k + n then (if i = k then fsR ⟨k, n, 1, tag, false⟩ else bdR k) else rowP ps i) : rowsF g r = rows r qs := by
  rw [rows_F]
  refine rowsF_ext (fun i hi => ?_)
  rw [rowP_ins hw he i, hg]
  by_cases h3 : k ≤ i ∧ i < k + n
  · rw [if_pos h3, if_pos h3]
    show _ = (if (1 : Nat) = 0 then hdR else if i = k then fsR ⟨k, n, 1, tag, false⟩ else bdR k)
    rw [if_neg (show ¬ (1 : Nat) = 0 by omega)]
  · rw [if_neg h3, if_neg h3]
end Go.Proofs.YtgkamdgegfioiaaDoor
