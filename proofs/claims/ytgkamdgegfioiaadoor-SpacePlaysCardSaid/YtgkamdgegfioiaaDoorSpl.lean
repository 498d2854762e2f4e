/- A space in plain words: its pieces, where one is taken, what stands for it as bytes. No program. -/
import Derived.Test.YtgkamdgegfioiaaDoorProg
import Derived.Test.YtgkamdgegfioiaaDoorBytes
namespace Go.Proofs.YtgkamdgegfioiaaDoor
open Go.RowKit
set_option linter.unusedSimpArgs false
set_option linter.unusedVariables false
/-- a piece: where it begins, how many rows, how often in use, the tag, whether it is old -/
structure Pc where
  at_ : Nat
  n : Nat
  cnt : Nat
  tag : Nat
  old : Bool
def Pc.fin (p : Pc) : Nat := p.at_ + p.n
/-- sorted, apart, within the rows -/
def Wf (r : Nat) : Nat → List Pc → Prop
  | a, [] => a ≤ r
  | a, p :: ps => a ≤ p.at_ ∧ 1 ≤ p.n ∧ p.cnt ≤ 65535 ∧ p.tag < 18446744073709551616 ∧ Wf r p.fin ps
theorem Wf.le {r : Nat} : ∀ {a : Nat} {ps : List Pc}, Wf r a ps → a ≤ r
  | _, [], h => h
  | a, p :: ps, h => by
    have := h.2.2.2.2.le
    have := h.1
    unfold Pc.fin at *
    omega
theorem Wf.mono {r : Nat} {a b : Nat} {ps : List Pc} (h : Wf r a ps) (hb : b ≤ a) : Wf r b ps := by
  cases ps with
  | nil => exact Nat.le_trans hb h
  | cons p ps => exact ⟨Nat.le_trans hb h.1, h.2⟩
theorem Wf.all {r : Nat} : ∀ {a : Nat} {ps : List Pc}, Wf r a ps → ∀ p ∈ ps, a ≤ p.at_ ∧ 1 ≤ p.n ∧ p.cnt ≤ 65535 ∧ p.tag < 18446744073709551616 ∧ p.fin ≤ r
  | _, [], _, p, hp => by cases hp
  | a, q :: ps, h, p, hp => by
    rcases List.mem_cons.1 hp with rfl | hp
    · exact ⟨h.1, h.2.1, h.2.2.1, h.2.2.2.1, h.2.2.2.2.le⟩
    · obtain ⟨h1, h2⟩ := h.2.2.2.2.all p hp
      refine ⟨?_, h2⟩
      have := h.1
      unfold Pc.fin at h1
      omega
theorem Wf.len {r : Nat} : ∀ {a : Nat} {ps : List Pc}, Wf r a ps → a + ps.length ≤ r
  | _, [], h => h
  | a, p :: ps, h => by
    have h1 := h.2.2.2.2.len
    have h2 := h.1
    have h3 := h.2.1
    unfold Pc.fin at h1
    simp only [List.length_cons]
    omega
/-- the place of the first gap of n rows, from place a, number i on -/
def fit (n : Nat) : Nat → Nat → List Pc → Nat × Nat
  | a, i, [] => (a, i)
  | a, i, p :: ps => if p.at_ - a < n then fit n p.fin (i + 1) ps else (a, i)
/-- Take -/
def insF (r n tag : Nat) : Nat → List Pc → Option (Nat × List Pc)
  | a, [] => if r - a < n then none else some (a, [⟨a, n, 1, tag, false⟩])
  | a, p :: ps => if p.at_ - a < n then (insF r n tag p.fin ps).map (fun x => (x.1, p :: x.2)) else some (a, ⟨a, n, 1, tag, false⟩ :: p :: ps)
theorem fit_len (n : Nat) : ∀ (ps : List Pc) (a i : Nat), i ≤ (fit n a i ps).2 ∧ (fit n a i ps).2 ≤ i + ps.length
  | [], a, i => ⟨Nat.le_refl _, Nat.le_refl _⟩
  | p :: ps, a, i => by
    unfold fit
    split
    · have := fit_len n ps p.fin (i + 1)
      simp only [List.length_cons]
      omega
    · simp only [List.length_cons]; omega
theorem insF_fit (r n tag : Nat) : ∀ (ps : List Pc) (a i : Nat), insF r n tag a ps = if (fit n a i ps).2 = i + ps.length ∧ r - (fit n a i ps).1 < n then none else
    some ((fit n a i ps).1, ps.take ((fit n a i ps).2 - i) ++ ⟨(fit n a i ps).1, n, 1, tag, false⟩ :: ps.drop ((fit n a i ps).2 - i))
  | [], a, i => by simp [insF, fit]
  | p :: ps, a, i => by
    unfold insF fit
    split
    · have ih := insF_fit r n tag ps p.fin (i + 1)
      have hl := fit_len n ps p.fin (i + 1)
      rw [ih]
      generalize fit n p.fin (i + 1) ps = T at *
      have e : i + 1 + ps.length = i + (p :: ps).length := by
        simp only [List.length_cons]
        omega
      rw [e]
      have e2 : T.2 - i = T.2 - (i + 1) + 1 := by omega
      split
      · rfl
      · simp [e2]
    · rw [if_neg]
      · simp
      · rintro ⟨h, _⟩
        simp only [List.length_cons] at h
        omega
theorem insF_wf {r n tag : Nat} (hn : 1 ≤ n) (ht : tag < 18446744073709551616) : ∀ (ps : List Pc) (a k : Nat) (qs : List Pc), Wf r a ps → insF r n tag a ps = some (k, qs) → Wf r a qs ∧ a ≤ k ∧ k + n ≤ r
  | [], a, k, qs, h, e => by
    unfold insF at e
    split at e
    · cases e
    · cases e
      have : a ≤ r := h
      exact ⟨⟨Nat.le_refl _, hn, by show 1 ≤ 65535; omega, ht, by show a + n ≤ r; omega⟩, Nat.le_refl _, by omega⟩
  | p :: ps, a, k, qs, h, e => by
    unfold insF at e
    split at e
    · rw [Option.map_eq_some_iff] at e
      obtain ⟨⟨k2, q2⟩, e1, e2⟩ := e
      cases e2
      have ih := insF_wf hn ht ps p.fin k2 q2 h.2.2.2.2 e1
      refine ⟨⟨h.1, h.2.1, h.2.2.1, h.2.2.2.1, ih.1⟩, ?_, ih.2.2⟩
      have := h.1
      have := ih.2.1
      unfold Pc.fin at *
      omega
    · cases e
      have h1 := h.1
      have h2 := h.2.2.2.2.le
      have h3 := h.2.1
      refine ⟨⟨Nat.le_refl _, hn, by show 1 ≤ 65535; omega, ht, ?_, h.2⟩, Nat.le_refl _, ?_⟩
      · unfold Pc.fin; simp only; omega
      · unfold Pc.fin at h2
        omega
/-- rows in use, rows held -/
def usedS : List Pc → Nat
  | [] => 0
  | p :: ps => (if p.cnt = 0 then 0 else p.n) + usedS ps
def heldS : List Pc → Nat
  | [] => 0
  | p :: ps => (if p.cnt = 0 then p.n else 0) + heldS ps
theorem sums_le {r : Nat} : ∀ {a : Nat} {ps : List Pc}, Wf r a ps → a + usedS ps + heldS ps ≤ r
  | _, [], h => h
  | a, p :: ps, h => by
    have h1 := sums_le h.2.2.2.2
    have h2 := h.1
    unfold Pc.fin at h1
    simp only [usedS, heldS]
    split <;> omega
/-- the pieces that are in use -/
def live (ps : List Pc) : List Pc := ps.filter (fun p => decide (p.cnt ≠ 0))
theorem live_append (a b : List Pc) : live (a ++ b) = live a ++ live b := List.filter_append ..
theorem live_wf {r : Nat} : ∀ {a : Nat} {ps : List Pc}, Wf r a ps → Wf r a (live ps)
  | _, [], h => h
  | a, p :: ps, h => by
    have ih := live_wf h.2.2.2.2
    unfold live
    rw [List.filter_cons]
    split
    · exact ⟨h.1, h.2.1, h.2.2.1, h.2.2.2.1, ih⟩
    · refine ih.mono ?_
      have := h.1
      unfold Pc.fin
      omega
theorem live_used (ps : List Pc) : usedS (live ps) = usedS ps := by
  induction ps with
  | nil => rfl
  | cons p ps ih =>
    unfold live at *
    rw [List.filter_cons]
    split
    · rename_i h
      simp only [usedS, ih]
    · rename_i h
      simp only [decide_eq_true_eq, Classical.not_not] at h
      simp only [usedS, ih, h, if_true, Nat.zero_add]
theorem live_cnt {ps : List Pc} : ∀ p ∈ live ps, p.cnt ≠ 0 := fun p hp => by
  have := (List.mem_filter.1 hp).2
  simpa using this
/-- little endian -/
def le : List UInt8 → Nat
  | [] => 0
  | b :: r => b.toNat + 256 * le r
def leB : Nat → Nat → List UInt8
  | 0, _ => []
  | k + 1, n => UInt8.ofNat n :: leB k (n / 256)
theorem leB_len : ∀ (k n : Nat), (leB k n).length = k
  | 0, _ => rfl
  | k + 1, n => by simp [leB, leB_len k]
theorem le_lt : ∀ (l : List UInt8), le l < 256 ^ l.length
  | [] => by simp [le]
  | b :: r => by
    have h1 := le_lt r
    have h2 := b.toNat_lt
    simp only [le, List.length_cons, Nat.pow_succ]
    omega
theorem le_leB : ∀ (k n : Nat), n < 256 ^ k → le (leB k n) = n
  | 0, n, h => by
    simp at h
    subst h
    rfl
  | k + 1, n, h => by
    have h1 : n / 256 < 256 ^ k := by
      rw [Nat.div_lt_iff_lt_mul (by omega)]
      rwa [Nat.pow_succ] at h
    have ih := le_leB k (n / 256) h1
    simp only [leB, le, ih, UInt8.toNat_ofNat']
    omega
/-- a piece as bytes -/
def pcB (p : Pc) : List UInt8 := leB 4 p.at_ ++ leB 4 p.n ++ leB 2 p.cnt ++ leB 8 p.tag
theorem pcB_len (p : Pc) : (pcB p).length = 18 := by simp [pcB, leB_len]
def bytesS (r : Nat) (ps : List Pc) : List UInt8 := leB 4 r ++ (live ps).flatMap pcB
def decP (c : List UInt8) : Pc := ⟨le (c.take 4), le ((c.drop 4).take 4), le ((c.drop 8).take 2), le (c.drop 10), true⟩
theorem decP_pcB (p : Pc) (h1 : p.at_ < 4294967296) (h2 : p.n < 4294967296) (h3 : p.cnt < 65536) (h4 : p.tag < 18446744073709551616) : decP (pcB p) = ⟨p.at_, p.n, p.cnt, p.tag, true⟩ := by
  have e0 : pcB p = leB 4 p.at_ ++ (leB 4 p.n ++ (leB 2 p.cnt ++ leB 8 p.tag)) := by simp [pcB]
  have d1 : (pcB p).take 4 = leB 4 p.at_ := by rw [e0]; exact List.take_left' (leB_len 4 _)
  have d2 : (pcB p).drop 4 = leB 4 p.n ++ (leB 2 p.cnt ++ leB 8 p.tag) := by rw [e0]; exact List.drop_left' (leB_len 4 _)
  have d3 : (pcB p).drop 8 = leB 2 p.cnt ++ leB 8 p.tag := by
    rw [show 8 = 4 + 4 from rfl, ← List.drop_drop, d2]; exact List.drop_left' (leB_len 4 _)
  have d4 : (pcB p).drop 10 = leB 8 p.tag := by
    rw [show 10 = 8 + 2 from rfl, ← List.drop_drop, d3]; exact List.drop_left' (leB_len 2 _)
  unfold decP
  rw [d1, d2, d3, d4, List.take_left' (leB_len 4 _), List.take_left' (leB_len 2 _), le_leB 4 _ (by simpa using h1), le_leB 4 _ (by simpa using h2), le_leB 2 _ (by simpa using h3), le_leB 8 _ (by simpa using h4)]
/-- what Load makes of k pieces as bytes -/
def loadF (r : Nat) : Nat → Nat → List UInt8 → Option (List Pc)
  | _, 0, _ => some []
  | a, k + 1, bs => if (decP (bs.take 18)).at_ < a ∨ (decP (bs.take 18)).n < 1 ∨ (decP (bs.take 18)).cnt = 0 ∨ r < (decP (bs.take 18)).fin then none
    else (loadF r (decP (bs.take 18)).fin k (bs.drop 18)).map (fun l => decP (bs.take 18) :: l)
def loadS (b : List UInt8) : Option (Nat × List Pc) :=
  if b.length < 4 ∨ (b.length - 4) % 18 ≠ 0 ∨ 1073741824 < le (b.take 4) then none else (loadF (le (b.take 4)) 0 ((b.length - 4) / 18) (b.drop 4)).map (fun l => (le (b.take 4), l))
theorem decP_bounds {c : List UInt8} (h : c.length = 18) : (decP c).at_ < 4294967296 ∧ (decP c).n < 4294967296 ∧ (decP c).cnt < 65536 ∧ (decP c).tag < 18446744073709551616 ∧ (decP c).old = true := by
  have h1 := le_lt (c.take 4)
  have h2 := le_lt ((c.drop 4).take 4)
  have h3 := le_lt ((c.drop 8).take 2)
  have h4 := le_lt (c.drop 10)
  simp only [List.length_take, List.length_drop, h] at h1 h2 h3 h4
  exact ⟨h1, h2, h3, h4, rfl⟩
theorem loadF_wf {r : Nat} : ∀ (k a : Nat) (bs : List UInt8) (l : List Pc), bs.length = 18 * k → a ≤ r → loadF r a k bs = some l → Wf r a l ∧ (∀ p ∈ l, p.cnt ≠ 0 ∧ p.old = true)
  | 0, a, bs, l, _, ha, e => by
    cases e
    exact ⟨ha, fun p hp => by cases hp⟩
  | k + 1, a, bs, l, hl, ha, e => by
    unfold loadF at e
    split at e
    · cases e
    · rename_i hc
      obtain ⟨b1, b2, b3, b4, b5⟩ := decP_bounds (c := bs.take 18) (by rw [List.length_take]; omega)
      generalize decP (bs.take 18) = p at *
      rw [Option.map_eq_some_iff] at e
      obtain ⟨l2, e1, rfl⟩ := e
      obtain ⟨h1, h2⟩ := loadF_wf k p.fin (bs.drop 18) l2 (by rw [List.length_drop]; omega) (by omega) e1
      refine ⟨⟨by omega, by omega, by omega, b4, h1⟩, fun q hq => ?_⟩
      rcases List.mem_cons.1 hq with rfl | hq
      · exact ⟨by omega, b5⟩
      · exact h2 q hq
theorem loadS_wf {b : List UInt8} {r : Nat} {l : List Pc} (e : loadS b = some (r, l)) : Wf r 0 l ∧ r ≤ 1073741824 ∧ (∀ p ∈ l, p.cnt ≠ 0 ∧ p.old = true) := by
  unfold loadS at e
  split at e
  · cases e
  · rename_i hc
    rw [Option.map_eq_some_iff] at e
    obtain ⟨l2, e1, e2⟩ := e
    cases e2
    obtain ⟨h1, h2⟩ := loadF_wf _ 0 _ _ (by rw [List.length_drop]; omega) (Nat.zero_le _) e1
    exact ⟨h1, by omega, h2⟩
/-- made old -/
def oldP (p : Pc) : Pc := { p with old := true }
theorem loadF_bytes {r : Nat} (hr : r ≤ 1073741824) : ∀ (ps : List Pc) (a : Nat) , Wf r a ps → (∀ p ∈ ps, p.cnt ≠ 0) → loadF r a ps.length (ps.flatMap pcB) = some (ps.map oldP)
  | [], _, _, _ => rfl
  | p :: ps, a, h, hc => by
    have hb := h.2.2.2.2.le
    have h3 := h.2.2.1
    have h4 := h.2.2.2.1
    have h5 := h.2.1
    have h6 := hc p (List.mem_cons_self ..)
    have hd : decP (pcB p) = oldP p := decP_pcB p (by unfold Pc.fin at hb; omega) (by unfold Pc.fin at hb; omega) (by omega) h4
    have ht : (pcB p ++ ps.flatMap pcB).take 18 = pcB p := List.take_left' (pcB_len p)
    have hdr : (pcB p ++ ps.flatMap pcB).drop 18 = ps.flatMap pcB := List.drop_left' (pcB_len p)
    rw [List.flatMap_cons, List.length_cons]
    unfold loadF
    rw [ht, hdr, hd, if_neg]
    · have ih := loadF_bytes hr ps p.fin h.2.2.2.2 (fun q hq => hc q (List.mem_cons_of_mem _ hq))
      rw [show (oldP p).fin = p.fin from rfl, ih]
      rfl
    · have h1 := h.1
      show ¬ (p.at_ < a ∨ p.n < 1 ∨ p.cnt = 0 ∨ r < p.fin)
      omega
theorem flat_len : ∀ (ps : List Pc), (ps.flatMap pcB).length = 18 * ps.length
  | [] => rfl
  | p :: ps => by rw [List.flatMap_cons, List.length_append, pcB_len, flat_len ps, List.length_cons]; omega
theorem bytesS_len (r : Nat) (ps : List Pc) : (bytesS r ps).length = 4 + 18 * (live ps).length := by unfold bytesS; rw [List.length_append, leB_len, flat_len]
theorem loadS_bytes {r : Nat} {ps : List Pc} (h : Wf r 0 ps) (hr : r ≤ 1073741824) : loadS (bytesS r ps) = some (r, (live ps).map oldP) := by
  have hl := bytesS_len r ps
  have ht : (bytesS r ps).take 4 = leB 4 r := by unfold bytesS; exact List.take_left' (leB_len 4 _)
  have hd : (bytesS r ps).drop 4 = (live ps).flatMap pcB := by unfold bytesS; exact List.drop_left' (leB_len 4 _)
  unfold loadS
  rw [ht, hd, hl, le_leB 4 r (by simp; omega), if_neg (by omega), show (4 + 18 * (live ps).length - 4) / 18 = (live ps).length by omega, loadF_bytes hr _ 0 (live_wf h) live_cnt]
  rfl
end Go.Proofs.YtgkamdgegfioiaaDoor
