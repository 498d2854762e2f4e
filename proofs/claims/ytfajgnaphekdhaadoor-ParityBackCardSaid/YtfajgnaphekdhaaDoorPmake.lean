/- The walk of parity.Make and plain.ParityMake. -/
import Derived.Test.YtfajgnaphekdhaaDoorPsums
import Derived.Test.YtfajgnaphekdhaaDoorPlost
import Derived.Laws.Cover3
namespace Go.Proofs.YtfajgnaphekdhaaDoor
open Go.RowKit
set_option linter.unusedSimpArgs false
set_option linter.unusedVariables false
section
variable {P : Program} (w : World)
theorem run_first (t e : TypeId) (i : TypeInfo) (ht : P.underlying t = some (.slice e)) (hi : P.info? e = some i) (hs : i.size = 1) (A : Option Addr) (len cap n : Nat) (z : Int) (hz : z = n) (h : n ≤ cap) :
    (Instr.sliceAt t (.slice A len cap) none (some (.int .i64 z)) (some (.int .i64 z))).run P w = .ok (.slice A n n) w := by
  subst hz
  have b1 : (0 : Int) ≤ n ∧ (n : Int) ≤ (cap : Int) := by omega
  have hadd : ∀ a : Addr, a.add 0 = a := fun a => rfl
  cases A <;> simp [Instr.sliceAt, Instr.slice, run_underlying ht, Instr.sliceBounds, Instr.sliceBound, asIntOf, b1, sizeOf, typeInfo, hi, hs, h, hadd]
end
theorem lostL_nil : ∀ (ls : List (List UInt8)) (i : Nat), lostL i ls = [] ↔ ∀ b ∈ ls, b.length ≠ 0
  | [], i => by simp [lostL]
  | b :: r, i => by
    simp only [lostL]
    split
    · rename_i h
      constructor
      · intro e; simp at e
      · intro e; exact absurd h (e b (by simp))
    · rename_i h
      rw [lostL_nil r (i + 1)]
      constructor
      · intro e x hx
        rcases List.mem_cons.1 hx with rfl | hx
        · exact h
        · exact e x hx
      · intro e x hx
        exact e x (by simp [hx])
theorem szL_all : ∀ (ls : List (List UInt8)) (n m : Nat), szL n ls = some m → n ≤ m ∧ (∀ b ∈ ls, b.length ≤ m) ∧ (0 < n → n = m)
  | [], n, m, h => by
    simp only [szL, Option.some.injEq] at h
    exact ⟨by omega, by simp, fun _ => h⟩
  | b :: r, n, m, h => by
    simp only [szL] at h
    split at h
    · cases h
    · rename_i hc
      obtain ⟨h1, h2, h3⟩ := szL_all r _ _ h
      refine ⟨by omega, fun x hx => ?_, fun hn => by have := h3 (by omega); omega⟩
      rcases List.mem_cons.1 hx with rfl | hx
      · omega
      · exact h2 x hx
/-- what Make answers: the error's number, and the pieces -/
def makeR (ls : List (List UInt8)) (lv : Int) : Int × List (List UInt8) :=
  if lv < 0 ∨ 2 < lv then (5, []) else if (sizedR ls ls.length).2 = false ∨ lostL 0 ls ≠ [] then (10, [])
  else (0, [pAcc (sizedR ls ls.length).1.toNat ls.reverse, qAcc (sizedR ls ls.length).1.toNat ls.reverse].take lv.toNat)
theorem pAcc_len (n : Nat) (xs : List (List UInt8)) (h : ∀ b ∈ xs, b.length ≤ n) : (pAcc n xs).length = n := by
  have gen : ∀ (xs : List (List UInt8)) (L : List UInt8), L.length = n → (∀ b ∈ xs, b.length ≤ n) → (xs.foldl xorL L).length = n := by
    intro xs
    induction xs with
    | nil => intro L hL _; exact hL
    | cons b r ih =>
      intro L hL hb
      exact ih _ (by rw [xorL_len _ _ (by rw [hL]; exact hb b (by simp)), hL]) (fun x hx => hb x (by simp [hx]))
  exact gen xs _ (by simp) h
theorem qAcc_len (n : Nat) (xs : List (List UInt8)) (h : ∀ b ∈ xs, b.length ≤ n) : (qAcc n xs).length = n := by
  have gen : ∀ (xs : List (List UInt8)) (L : List UInt8), L.length = n → (∀ b ∈ xs, b.length ≤ n) → (xs.foldl (fun L b => xorL (mapD L) b) L).length = n := by
    intro xs
    induction xs with
    | nil => intro L hL _; exact hL
    | cons b r ih =>
      intro L hL hb
      have hm : (mapD L).length = n := by simp [mapD, hL]
      exact ih _ (by rw [xorL_len _ _ (by rw [hm]; exact hb b (by simp)), hm]) (fun x hx => hb x (by simp [hx]))
  exact gen xs _ (by simp) h
/-- reads as the lists, whatever becomes of what lies ahead of block B -/
def RdLB (B : Nat) (w : World) (A : Option Addr) (ls : List (List UInt8)) : Prop := ∀ w' : World, (∀ k, B ≤ k → k < w.heap.size → w'.heap[k]? = w.heap[k]?) → RdL w' A ls
theorem RdLB.rd {B : Nat} {w : World} {A : Option Addr} {ls : List (List UInt8)} (h : RdLB B w A ls) : RdL w A ls := h w fun _ _ _ => rfl
theorem RdLB.below {B : Nat} {w w2 : World} {A : Option Addr} {ls : List (List UInt8)} (h : RdLB B w A ls) (hb : Below w.heap.size w w2) : RdLB B w2 A ls := fun w' hk =>
  h w' fun k h1 h2 => (hk k h1 (Nat.lt_of_lt_of_le h2 hb.size)).trans (hb.block k h2)
theorem two_rd {w : World} {B b gp gq n : Nat} {Pp Qq : List UInt8} (hb : w.heap[b]? = some (.cells #[.slice (some ⟨gp, 0, none⟩) n n, .slice (some ⟨gq, 0, none⟩) n n] 33 (0, 0)))
    (hp : w.heap[gp]? = some (.cells (bArr Pp) 5 (0, 0))) (hq : w.heap[gq]? = some (.cells (bArr Qq) 5 (0, 0))) (lp : Pp.length = n) (lq : Qq.length = n) (m : Nat) (hm : m ≤ 2) (h1 : B ≤ b) (h2 : B ≤ gp) (h3 : B ≤ gq) :
    RdLB B w (some ⟨b, 0, none⟩) (List.take m [Pp, Qq]) := by
  intro w' hk
  have hb2 := (hk b h1 (Array.getElem?_eq_some_iff.1 hb).1).trans hb
  have hp2 := (hk gp h2 (Array.getElem?_eq_some_iff.1 hp).1).trans hp
  have hq2 := (hk gq h3 (Array.getElem?_eq_some_iff.1 hq).1).trans hq
  intro j hj
  have hj2 : j < 2 := by simp at hj; omega
  rcases (show j = 0 ∨ j = 1 by omega) with rfl | rfl
  · refine ⟨_, some ⟨gp, 0, none⟩, n, rfl, ?_, ?_, ?_⟩
    · rw [addr_lit, cell_of_row _ _ _ _ _ _ hb2]
      simp [lp]
    · simpa using Rd.block hp2 ⟨[], by simp⟩
    · simp [lp]
  · refine ⟨_, some ⟨gq, 0, none⟩, n, rfl, ?_, ?_, ?_⟩
    · rw [addr_lit, cell_of_row _ _ _ _ _ _ hb2]
      simp [lq]
    · simpa using Rd.block hq2 ⟨[], by simp⟩
    · simp [lq]
def MkPost (w : World) (R : Int × List (List UInt8)) (e : Ending) (W' : World) : Prop := ∃ A' c', e = .returned (.tuple #[.slice A' R.2.length c', errV R.1]) ∧ RdLB w.heap.size W' A' R.2 ∧ Below w.heap.size w W'
theorem RdL.nil (w : World) (A : Option Addr) : RdL w A [] := fun j hj => by simp at hj
theorem RdLB.nil (B : Nat) (w : World) (A : Option Addr) : RdLB B w A [] := fun _ _ => RdL.nil _ _
set_option maxHeartbeats 1000000 in
set_option maxRecDepth 100000 in
theorem make_calls (A : Option Addr) (c : Nat) (ls : List (List UInt8)) (lv : Int) (w : World) (hr : RdL w A ls) (hA : 0 < ls.length → ∃ b off, A = some ⟨b, off, none⟩) (hl : ls.length ≤ 1000) (hs : ∀ b ∈ ls, b.length ≤ 140737488355328) :
    Calls Tryd.prog 20 #[.slice A ls.length c, .int .i64 lv] w fun e W' => MkPost w (makeR ls lv) e W' := by
  obtain ⟨iS, hiS, hszS⟩ := infoS
  unfold makeR
  by_cases hlv : lv < 0 ∨ 2 < lv
  · rw [if_pos hlv]
    go_enter Tryd.func20, Tryd.ntmps20
    rcases hlv with h | h
    · go_wp2_with fail
      go_ret2
      exact ⟨none, 0, rfl, RdLB.nil _ _ _, Below.refl _ _⟩
    · have h2 : ¬ lv < 0 := by omega
      go_wp2_with fail
      go_ret2
      exact ⟨none, 0, rfl, RdLB.nil _ _ _, Below.refl _ _⟩
  · rw [if_neg hlv]
    have h1 : ¬ lv < 0 := by omega
    have h2 : ¬ 2 < lv := by omega
    have HS := Lib.hid (sized_calls A c ls (ls.length : Int) w hr hs hl)
    have HL := Lib.hid (fun W hr => lost_calls A c ls W hr hl)
    have Hr := Lib.hid hr
    have HA := Lib.hid hA
    cases hok : (sizedR ls (ls.length : Int)).2
    · rw [if_pos (.inl rfl)]
      rw [hok] at HS
      generalize (sizedR ls (ls.length : Int)).1 = z at *
      clear hr hA hlv hok
      go_enter Tryd.func20, Tryd.ntmps20
      go_wp2_with fail
      refine (HS.out).mono ?_
      rintro e W1 ⟨rfl, b1⟩
      have Hb1 := Lib.hid b1
      clear b1
      go_wp2_with fail
      go_ret2
      exact ⟨none, 0, rfl, RdLB.nil _ _ _, Hb1.out⟩
    · by_cases hlo : lostL 0 ls = []
      · rw [if_neg (by rintro (h | h); cases h; exact h hlo)]
        obtain ⟨n, hn, hok2⟩ : ∃ n : Nat, (sizedR ls (ls.length : Int)).1 = (n : Int) ∧ szL 0 ls = some n ∧ szOk n (ls.length : Int) = true := by
          unfold sizedR at hok ⊢
          cases h : szL 0 ls with
          | none => rw [h] at hok; cases hok
          | some n => rw [h] at hok; exact ⟨n, rfl, rfl, hok⟩
        obtain ⟨k1, k2, k3, k4⟩ := szOk_true hok2.2
        have hall := (szL_all ls 0 n hok2.1).2.1
        obtain ⟨b0, off, rfl⟩ := hA (by omega)
        have HM := Lib.hid (fun W hr => sums_calls b0 off c ls n W hr k1 k2 hl (by omega) hall)
        rw [hn, Int.toNat_natCast]
        rw [hok, hn] at HS
        obtain ⟨m, hm⟩ : ∃ m : Nat, lv = (m : Int) := ⟨lv.toNat, by omega⟩
        subst hm
        rw [Int.toNat_natCast]
        have hm2 : m ≤ 2 := by omega
        rw [hlo] at HL
        clear hr hA hlv hok hn hok2 hlo
        generalize hP : pAcc n ls.reverse = Pp at *
        generalize hQ : qAcc n ls.reverse = Qq at *
        have HPl := Lib.hid (show Pp.length = n by rw [← hP]; exact pAcc_len n _ (fun b hb => hall b (List.mem_reverse.1 hb)))
        have HQl := Lib.hid (show Qq.length = n by rw [← hQ]; exact qAcc_len n _ (fun b hb => hall b (List.mem_reverse.1 hb)))
        clear hP hQ hall
        have hrf := fun W A => run_first (P := Tryd.prog) W 23 33 iS Tryd.underlying23 hiS hszS A 2 2 m (m : Int) rfl hm2
        go_enter Tryd.func20, Tryd.ntmps20
        go_wp2_with fail
        refine (HS.out).mono ?_
        rintro e W1 ⟨rfl, b1⟩
        have Hb1 := Lib.hid b1
        clear b1
        go_wp2_with fail
        refine (HL.out W1 (Hr.out.below Hb1.out)).mono ?_
        rintro e W2 ⟨v, rfl, ho, b2⟩
        have hv := ho.2.2 rfl
        subst hv
        have Hb2 := Lib.hid (Hb1.out.trans (b2.mono Hb1.out.size))
        clear b2 ho
        go_wp2_with fail
        refine (HM.out W2 (Hr.out.below Hb2.out)).mono ?_
        rintro e W3 ⟨gp, gq, rfl, hcp, hcq, hgp, hgq, hne, b3⟩
        have Hb3 := Lib.hid (Hb2.out.trans (b3.mono Hb2.out.size))
        have hcp0 := Lib.hid hcp
        have hcq0 := Lib.hid hcq
        have HR := Lib.hid (two_rd (B := w.heap.size) (w := W3.alloc (.cells #[.slice (some ⟨gp, 0, none⟩) n n, .slice (some ⟨gq, 0, none⟩) n n] 33)) (heap_alloc_new W3 _) ((Below.heap_alloc _ _ _ (Array.getElem?_eq_some_iff.1 hcp).1).trans hcp) ((Below.heap_alloc _ _ _ (Array.getElem?_eq_some_iff.1 hcq).1).trans hcq) HPl.out HQl.out m hm2 Hb3.out.size (Nat.le_trans Hb2.out.size hgp) (Nat.le_trans Hb2.out.size hgq))
        clear hcp hcq b3 hgp hgq
        have Hb4 := Lib.hid (Hb3.out.alloc Hb3.out.size (.cells #[.slice (some ⟨gp, 0, none⟩) n n, .slice (some ⟨gq, 0, none⟩) n n] 33))
        have hml : (List.take m [Pp, Qq]).length = m := by simp; omega
        go_wp2_with fail
        go_ret2
        exact ⟨_, m, by show _ = Ending.returned (.tuple #[.slice _ (List.take m [Pp, Qq]).length m, errV 0]); rw [hml]; rfl, HR.out, Hb4.out⟩
      · rw [if_pos (.inr hlo)]
        rw [hok] at HS
        generalize (sizedR ls (ls.length : Int)).1 = z at *
        generalize lostL 0 ls = lo at *
        clear hr hA hlv hok
        go_enter Tryd.func20, Tryd.ntmps20
        go_wp2_with fail
        refine (HS.out).mono ?_
        rintro e W1 ⟨rfl, b1⟩
        have Hb1 := Lib.hid b1
        clear b1
        go_wp2_with fail
        refine (HL.out W1 (Hr.out.below Hb1.out)).mono ?_
        rintro e W2 ⟨v, rfl, ho, b2⟩
        have Hb2 := Lib.hid (Hb1.out.trans (b2.mono Hb1.out.size))
        obtain ⟨g, n, cp, rfl⟩ : ∃ g n cp, v = .slice (some ⟨g, 0, none⟩) n cp := by
          rcases ho.1.2 with ⟨hv, _⟩ | ⟨g, cp, cur, hv, _⟩
          · exact absurd (ho.2.1 hv) hlo
          · exact ⟨g, _, cp, hv⟩
        clear b2 ho
        go_wp2_with fail
        go_ret2
        exact ⟨none, 0, rfl, RdLB.nil _ _ _, Hb2.out⟩
theorem parityMake_calls (A : Option Addr) (c : Nat) (ls : List (List UInt8)) (lv : Int) (w : World) (hr : RdL w A ls) (hA : 0 < ls.length → ∃ b off, A = some ⟨b, off, none⟩) (hl : ls.length ≤ 1000) (hs : ∀ b ∈ ls, b.length ≤ 140737488355328) (hg : ErrH w) :
    Calls Tryd.prog 8 #[.slice A ls.length c, .int .i64 lv] w fun e W' => ∃ A' c', e = .returned (.tuple #[.slice A' (makeR ls lv).2.length c', .int .i64 (makeR ls lv).1]) ∧ RdLB w.heap.size W' A' (makeR ls lv).2 ∧ Below w.heap.size w W' := by
  have hq := Lib.hid (make_calls A c ls lv w hr hA hl hs)
  generalize makeR ls lv = R at *
  have Hg := Lib.hid hg
  clear hr hA hg
  go_enter Tryd.func8, Tryd.ntmps8
  go_wp2_with fail
  refine (hq.out).mono ?_
  rintro e W1 ⟨A', c', rfl, hr', hb⟩
  have Hr' := Lib.hid hr'
  have Hb := Lib.hid hb
  clear hr' hb hq
  go_wp2_with fail
  refine (number_calls R.1 W1 (Hg.out.below Hg.out.lt Hb.out)).mono ?_
  rintro e W2 ⟨rfl, hb2⟩
  have Hb2 := Lib.hid hb2
  clear hb2
  go_wp2_with fail
  go_ret2
  exact ⟨_, _, rfl, Hr'.out.below Hb2.out, Hb.out.trans (Hb2.out.mono Hb.out.size)⟩
end Go.Proofs.YtfajgnaphekdhaaDoor
