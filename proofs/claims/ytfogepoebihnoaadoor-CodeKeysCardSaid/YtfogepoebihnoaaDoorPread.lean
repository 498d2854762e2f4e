/- Walks of reader.number, reader.text, code.Parts, plain.CodeParts. -/
import Derived.Test.YtfogepoebihnoaaDoorPmem
import Derived.Test.YtfogepoebihnoaaDoorKeyr
import Derived.Test.YtfogepoebihnoaaDoorIdx
import Derived.Test.YtfogepoebihnoaaDoorTake
import Derived.Test.YtfogepoebihnoaaDoorSwell
import Derived.Laws.Rows
import Derived.BigQuiet
import Derived.RegionTactic
import Derived.BigRegion
namespace Go.Proofs.YtfogepoebihnoaaDoor
open Go.RowKit
set_option linter.unusedSimpArgs false
set_option linter.unusedVariables false
/-- a reader's cell (block R) holds what is left; all else below w's end is as in w -/
structure Rdr (w : World) (R : Nat) (W : World) (g o : Nat) (rest : List UInt8) (cap : Nat) : Prop where
  row : W.heap[R]? = some (.cells #[.slice (some ⟨g, o, none⟩) rest.length cap] 56 (0, 0))
  room : rest.length ≤ cap
  rd : Rd w (some ⟨g, o, none⟩) rest
  below : Below w.heap.size w W
  hi : w.heap.size ≤ R
  blen : rest.length ≤ 140737488355328
theorem Rdr.cell {w : World} {R : Nat} {W : World} {g o : Nat} {rest : List UInt8} {cap : Nat} (h : Rdr w R W g o rest cap) : W.cell? ⟨R, 0, none⟩ = some (.slice (some ⟨g, o, none⟩) rest.length cap) := by
  rw [cell_of_row _ _ _ _ _ _ h.row]; rfl
theorem Rdr.frozen {w : World} {R : Nat} {W : World} {g o : Nat} {rest : List UInt8} {cap : Nat} (h : Rdr w R W g o rest cap) : W.frozen? ⟨R, 0, none⟩ = false := frozen_of_row _ _ _ _ _ h.row
theorem Rdr.lt {w : World} {R : Nat} {W : World} {g o : Nat} {rest : List UInt8} {cap : Nat} (h : Rdr w R W g o rest cap) : R < W.heap.size := (Array.getElem?_eq_some_iff.1 h.row).1
theorem Rdr.rdAt {w : World} {R : Nat} {W : World} {g o : Nat} {rest : List UInt8} {cap : Nat} (h : Rdr w R W g o rest cap) : Rd W (some ⟨g, o, none⟩) rest := h.rd.below h.below
theorem Rdr.later {w : World} {R : Nat} {W W' : World} {g o : Nat} {rest : List UInt8} {cap : Nat} (h : Rdr w R W g o rest cap) (hb : Below W.heap.size W W') : Rdr w R W' g o rest cap where
  row := by rw [hb.block _ h.lt]; exact h.row
  room := h.room
  rd := h.rd
  below := h.below.trans (hb.mono h.below.size)
  hi := h.hi
  blen := h.blen
theorem Rdr.adv {w : World} {R : Nat} {W : World} {g o : Nat} {rest : List UInt8} {cap : Nat} (h : Rdr w R W g o rest cap) (n : Nat) (hn : n ≤ rest.length) :
    ∃ o', Rdr w R (W.setCell ⟨R, 0, none⟩ (.slice (advA (some ⟨g, o, none⟩) n cap) (rest.length - n) (cap - n))) g o' (rest.drop n) (cap - n) ∧ advA (some ⟨g, o, none⟩) n cap = some ⟨g, o', none⟩ := by
  have hadv : ∃ o', advA (some ⟨g, o, none⟩) n cap = some ⟨g, o', none⟩ := by
    unfold advA
    split
    · exact ⟨o, rfl⟩
    · refine ⟨o + n, ?_⟩
      show some _ = some _
      congr 1
      unfold Addr.add
      split <;> simp_all
  obtain ⟨o', ho⟩ := hadv
  refine ⟨o', ⟨?_, ?_, ?_, h.below.setCell h.hi _, h.hi, ?_⟩, ho⟩
  · rw [heap_setCell_same _ _ _ _ _ _ h.row, ho]; simp
  · have := h.room; simp; omega
  · rw [← ho]; exact h.rd.adv n cap hn h.room
  · have := h.blen; simp; omega
theorem grown_set (W : World) (R : Nat) (v : Value) : W.grownBy (W.setCell ⟨R, 0, none⟩ v) (some R) :=
  ⟨rfl, rfl, rfl, by simp, fun k hk hne => Below.heap_setCell _ _ _ _ (by intro e; exact hne (by rw [e]))⟩
theorem grown_trans {W W1 W2 : World} {row : Option Nat} (h1 : W.grownBy W1 row) (h2 : W1.grownBy W2 row) : W.grownBy W2 row :=
  ⟨h2.os.trans h1.os, h2.tape.trans h1.tape, h2.output.trans h1.output, Nat.le_trans h1.size h2.size, fun k hk hne => (h2.block k (Nat.lt_of_lt_of_le hk h1.size) hne).trans (h1.block k hk hne)⟩
theorem grown_below {W W' : World} {row : Option Nat} (h : Below W.heap.size W W') : W.grownBy W' row :=
  ⟨h.os, h.tape, h.output, h.size, fun k hk _ => h.block k hk⟩
theorem results_ct {P : Program} {fn : Func} {p u : Tmp} {ty : TypeId} (h : fn.results = #[.cell p ty, .tmp u]) (tmps : Array Value) (w : World) (g : Nat) (t : TypeId) (cs : Array Value) (fr : Nat × Nat) (d : TypeDesc)
    (hp : tmps.getD p undef = .pointer (some ⟨g, 0, none⟩)) (hg : w.heap[g]? = some (.cells cs t fr))
    (hu : P.underlying ty = some d) (hd : (match d with | .struct _ | .array _ _ => true | _ => false) = true) (hi : (P.info? ty).map (·.size) = some cs.size) :
    (results fn tmps).run P w = .ok (.tuple #[.agg cs, tmps.getD u undef]) w := by
  have hp' : tmps[p]?.getD undef = .pointer (some ⟨g, 0, none⟩) := by simpa using hp
  simp [results, h, hp', asAddr, run_loadVar_row w g t ty cs fr d hg hu hd hi]
theorem Rdr.setRow {w : World} {R : Nat} {W : World} {g o : Nat} {rest : List UInt8} {cap : Nat} (h : Rdr w R W g o rest cap) {k : Nat} (hk : k ≠ R) (hk2 : w.heap.size ≤ k) (C : Array Value) : Rdr w R (W.setRow k C) g o rest cap where
  row := by rw [setRow_other W k R C (fun e => hk e.symm)]; exact h.row
  room := h.room
  rd := h.rd
  below := below_setRow h.below hk2 C
  hi := h.hi
  blen := h.blen
theorem grown_setRow {W W' : World} {row : Option Nat} (h : W.grownBy W' row) {k : Nat} (hk : W.heap.size ≤ k) (C : Array Value) : W.grownBy (W'.setRow k C) row :=
  ⟨h.os, h.tape, h.output, by simpa using h.size, fun i hi hne => (setRow_other W' k i C (by omega)).trans (h.block i hi hne)⟩
theorem addr_addn (g o j : Nat) : (⟨g, o, none⟩ : Addr).add j = ⟨g, o + j, none⟩ := by unfold Addr.add; split <;> simp_all
theorem one3 (k n : Int) (s : ByteArray) : (#[Value.int .i64 k, .int .u64 n, .string s] : Array Value).all (·.oneCell') = true := by simp [Value.oneCell']
set_option maxHeartbeats 1000000 in
set_option maxRecDepth 100000 in
theorem number_read (w : World) (R : Nat) (W : World) (g o : Nat) (rest : List UInt8) (cap n : Nat) (z : Int) (hz : z = n) (hR : Rdr w R W g o rest cap) (hn : n ≤ 16) (hbad : 8 < n ∨ rest.length < n ∨ (0 < n ∧ rest.getD 0 0 = 0)) :
    Calls Tryd.prog 34 #[.pointer (some ⟨R, 0, none⟩), .int .i64 z] W fun e W' => e = .returned (.tuple #[.agg #[.int .i64 0, .int .u64 0, .string ⟨#[]⟩], .bool false]) ∧ W.grownBy W' (some R) ∧ Below w.heap.size w W' := by
  subst hz
  by_cases hs : rest.length < n
  · have hq := Lib.hid (fun (W' : World) (hW : Rdr w R W' g o rest cap) => take_short R (some ⟨g, o, none⟩) rest.length cap (n : Int) W' hW.cell (by omega))
    have HR := Lib.hid hR
    have hlt := hR.lt
    clear hR hbad
    have h0 : ¬ (n : Int) ≤ 0 := by omega
    go_enter Tryd.func34, Tryd.ntmps34
    go_wp2_with fail
    refine (hq.out _ (HR.out.later ((Below.refl _ _).alloc (Nat.le_refl _) _))).mono ?_
    rintro e w' ⟨rfl, rfl⟩
    have HB := Lib.hid (HR.out.below.alloc HR.out.below.size (.cells #[.int .i64 0, .int .u64 0, .string ⟨#[]⟩] 51))
    by_cases h8 : 8 < n
    · go_wp2_with fail
      refine bodyPost_ret (results_ct rfl _ _ W.heap.size 51 #[.int .i64 0, .int .u64 0, .string ⟨#[]⟩] _ _ rfl (heap_alloc_new W _) Tryd.underlying51 rfl (by kernel_rfl)) rfl ?_
      exact ⟨rfl, grown_below ((Below.refl W.heap.size W).alloc (Nat.le_refl _) _), HB.out⟩
    · go_wp2_with fail
      refine bodyPost_ret (results_ct rfl _ _ W.heap.size 51 #[.int .i64 0, .int .u64 0, .string ⟨#[]⟩] _ _ rfl (heap_alloc_new W _) Tryd.underlying51 rfl (by kernel_rfl)) rfl ?_
      exact ⟨rfl, grown_below ((Below.refl W.heap.size W).alloc (Nat.le_refl _) _), HB.out⟩
  · have HR1 := Lib.hid (hR.later ((Below.refl _ _).alloc (Nat.le_refl _) (.cells #[.int .i64 0, .int .u64 0, .string ⟨#[]⟩] 51)))
    have hq := Lib.hid (take_long R (some ⟨g, o, none⟩) rest.length cap n (n : Int) _ HR1.out.cell HR1.out.frozen rfl (by omega) hR.room (by have := hR.blen; omega))
    obtain ⟨o', hR2, ho'⟩ := HR1.out.adv n (by omega)
    have HR2 := Lib.hid hR2
    have hres := Below.heap_setCell (W.alloc (.cells #[.int .i64 0, .int .u64 0, .string ⟨#[]⟩] 51)) ⟨R, 0, none⟩ (.slice (advA (some ⟨g, o, none⟩) n cap) (rest.length - n) (cap - n)) W.heap.size (by have := hR.lt; simp; omega)
    rw [heap_alloc_new] at hres
    have hlt := hR.lt
    have HG := Lib.hid (grown_trans (grown_below ((Below.refl W.heap.size W).alloc (Nat.le_refl _) (.cells #[.int .i64 0, .int .u64 0, .string ⟨#[]⟩] 51))) (grown_set (W.alloc (.cells #[.int .i64 0, .int .u64 0, .string ⟨#[]⟩] 51)) R (.slice (advA (some ⟨g, o, none⟩) n cap) (rest.length - n) (cap - n))))
    have hrd : ∀ j (hj : j < rest.length), ((W.alloc (.cells #[.int .i64 0, .int .u64 0, .string ⟨#[]⟩] 51)).setCell ⟨R, 0, none⟩ (.slice (advA (some ⟨g, o, none⟩) n cap) (rest.length - n) (cap - n))).cell? ((⟨g, o, none⟩ : Addr).add j) = some (.int .u8 (rest[j].toNat : Int)) := fun j hj => by
      obtain ⟨ad, he, hc⟩ := (hR.rd.below hR2.below) j hj
      cases he
      exact hc
    clear hR HR1 hR2
    generalize hW2 : ((W.alloc (.cells #[.int .i64 0, .int .u64 0, .string ⟨#[]⟩] 51)).setCell ⟨R, 0, none⟩ (.slice (advA (some ⟨g, o, none⟩) n cap) (rest.length - n) (cap - n))) = W2 at *
    by_cases h8 : 8 < n
    · go_enter Tryd.func34, Tryd.ntmps34
      go_wp2_with fail
      refine (hq.out).mono ?_
      rintro e w' ⟨rfl, rfl⟩
      simp only [hW2]
      clear hq hW2
      go_wp2_with (refine wpList_store_row rfl 51 (.tmp 4) (.tmp 31) rfl W.heap.size #[.int .i64 0, .int .u64 0, .string ⟨#[]⟩] rfl rfl _ _ hres (by kernel_rfl) rfl (one3 _ _ _) ?_)
      refine bodyPost_ret (results_ct rfl _ _ W.heap.size 51 #[.int .i64 0, .int .u64 0, .string ⟨#[]⟩] _ _ rfl (setRow_heap _ _ _ _ _ _ hres) Tryd.underlying51 rfl (by kernel_rfl)) rfl ?_
      have hfin := below_setRow HR2.out.below (show w.heap.size ≤ W.heap.size by have := HR2.out.hi; omega) #[.int .i64 0, .int .u64 0, .string ⟨#[]⟩]
      exact ⟨rfl, grown_setRow HG.out (Nat.le_refl _) _, hfin⟩
    · have hb0 : 0 < n ∧ rest.getD 0 0 = 0 := by
        rcases hbad with h | h | h
        · omega
        · omega
        · exact h
      have h00 := hrd 0 (by omega)
      have hz0 : rest[0] = 0 := by simpa [List.getD, show 0 < rest.length by omega] using hb0.2
      rw [hz0] at h00
      have h01 : (W2.cell? ⟨g, o, none⟩) = some (.int .u8 0) := h00
      have hn0 : 0 < (n : Int) := by omega
      clear hbad hz0 h00 hrd
      go_enter Tryd.func34, Tryd.ntmps34
      go_wp2_with fail
      refine (hq.out).mono ?_
      rintro e w' ⟨rfl, rfl⟩
      simp only [hW2]
      clear hq hW2
      go_wp2_with (refine wpList_store_row rfl 51 (.tmp 4) (.tmp 31) rfl W.heap.size #[.int .i64 0, .int .u64 0, .string ⟨#[]⟩] rfl rfl _ _ hres (by kernel_rfl) rfl (one3 _ _ _) ?_)
      refine bodyPost_ret (results_ct rfl _ _ W.heap.size 51 #[.int .i64 0, .int .u64 0, .string ⟨#[]⟩] _ _ rfl (setRow_heap _ _ _ _ _ _ hres) Tryd.underlying51 rfl (by kernel_rfl)) rfl ?_
      have hfin := below_setRow HR2.out.below (show w.heap.size ≤ W.heap.size by have := HR2.out.hi; omega) #[.int .i64 0, .int .u64 0, .string ⟨#[]⟩]
      exact ⟨rfl, grown_setRow HG.out (Nat.le_refl _) _, hfin⟩
/-- the cells of a part -/
abbrev cellsPt (p : PartD) : Array Value := #[.int .i64 p.kind, .int .u64 (p.num : Int), .string ⟨p.text.toArray⟩]
set_option maxHeartbeats 2000000 in
set_option maxRecDepth 100000 in
theorem number_good (w : World) (R : Nat) (W : World) (g o : Nat) (rest : List UInt8) (cap n : Nat) (z : Int) (hz : z = n) (hR : Rdr w R W g o rest cap) (h8 : n ≤ 8) (hs : n ≤ rest.length) (h0 : 0 < n → rest.getD 0 0 ≠ 0) :
    Calls Tryd.prog 34 #[.pointer (some ⟨R, 0, none⟩), .int .i64 z] W fun e W' => e = .returned (.tuple #[.agg (cellsPt ⟨1, numOf (rest.take n), []⟩), .bool true]) ∧ W.grownBy W' (some R) ∧ ∃ o', Rdr w R W' g o' (rest.drop n) (cap - n) := by
  subst hz
  have HR1 := Lib.hid (hR.later ((Below.refl _ _).alloc (Nat.le_refl _) (.cells #[.int .i64 0, .int .u64 0, .string ⟨#[]⟩] 51)))
  have hq := Lib.hid (take_long R (some ⟨g, o, none⟩) rest.length cap n (n : Int) _ HR1.out.cell HR1.out.frozen rfl (by omega) hR.room (by have := hR.blen; omega))
  obtain ⟨o', hR2, ho'⟩ := HR1.out.adv n (by omega)
  have HR2 := Lib.hid hR2
  have hres := Below.heap_setCell (W.alloc (.cells #[.int .i64 0, .int .u64 0, .string ⟨#[]⟩] 51)) ⟨R, 0, none⟩ (.slice (advA (some ⟨g, o, none⟩) n cap) (rest.length - n) (cap - n)) W.heap.size (by have := hR.lt; simp; omega)
  rw [heap_alloc_new] at hres
  have hlt := hR.lt
  have HG := Lib.hid (grown_trans (grown_below ((Below.refl W.heap.size W).alloc (Nat.le_refl _) (.cells #[.int .i64 0, .int .u64 0, .string ⟨#[]⟩] 51))) (grown_set (W.alloc (.cells #[.int .i64 0, .int .u64 0, .string ⟨#[]⟩] 51)) R (.slice (advA (some ⟨g, o, none⟩) n cap) (rest.length - n) (cap - n))))
  have hszr : W.heap.size < ((W.alloc (.cells #[.int .i64 0, .int .u64 0, .string ⟨#[]⟩] 51)).setCell ⟨R, 0, none⟩ (.slice (advA (some ⟨g, o, none⟩) n cap) (rest.length - n) (cap - n))).heap.size := by simp
  have HRd := Lib.hid (hR.rd.below hR2.below)
  clear hR HR1 hR2
  generalize hW2 : ((W.alloc (.cells #[.int .i64 0, .int .u64 0, .string ⟨#[]⟩] 51)).setCell ⟨R, 0, none⟩ (.slice (advA (some ⟨g, o, none⟩) n cap) (rest.length - n) (cap - n))) = W2 at *
  have hhead : 0 < n → ∃ c : Int, W2.cell? ⟨g, o, none⟩ = some (.int .u8 c) ∧ ¬ c = 0 := fun hn => by
    obtain ⟨ad, he, hc⟩ := HRd.out 0 (by omega)
    cases he
    refine ⟨_, hc, ?_⟩
    have := h0 hn
    simp [List.getD, show 0 < rest.length by omega] at this
    intro e
    exact this (UInt8.toNat_inj.1 (by simpa using e))
  by_cases hn : 0 < n
  · obtain ⟨c, hc, hc0⟩ := hhead hn
    clear hhead h0
    have hn0 : 0 < (n : Int) := by omega
    have hc1 : (c == 0) = false := by simpa using hc0
    go_enter Tryd.func34, Tryd.ntmps34
    go_wp2_with fail
    refine (hq.out).mono ?_
    rintro e w' ⟨rfl, rfl⟩
    simp only [hW2]
    clear hq hW2
    go_wp2_with fail
    go_loopw [35] (fun i wr => ∃ j : Nat, j ≤ n ∧ i = .int .i64 j ∧ wr = w'.alloc (.cells #[.int .i64 1, .int .u64 ((numOf (rest.take j) : Nat) : Int), .string ⟨#[]⟩] 51)) (fun i _ => n - (intOf i).toNat)
    case atStart => exact ⟨0, by omega, rfl, rfl⟩
    case round =>
      obtain ⟨j, hj, rfl, rfl⟩ := hrel
      by_cases hjn : j < n
      · have hcj : ∀ o2, (w'.alloc o2).cell? ⟨g, o + j, none⟩ = some (.int .u8 (rest[j].toNat : Int)) := fun o2 => by
          obtain ⟨ad, he, hcj⟩ := (HRd.out.alloc o2) j (by omega)
          cases he
          rw [addr_addn] at hcj
          exact hcj
        have hst : numOf (rest.take (j + 1)) = numOf (rest.take j) * 256 + rest[j].toNat := by
          rw [List.take_succ_eq_append_getElem (by omega), numOf_snoc]
        have hnl : numOf (rest.take j) < 256 ^ j := by
          have h := numOf_lt (rest.take j)
          rwa [show (rest.take j).length = j by simp; omega] at h
        have hnl2 : 256 ^ j ≤ 256 ^ 7 := Nat.pow_le_pow_right (by omega) (by omega)
        have hnl3 : numOf (rest.take j) < 72057594037927936 := by omega
        have hbl := rest[j].toNat_lt
        clear hnl hnl2
        have Hst := Lib.hid hst
        clear hst
        generalize numOf (rest.take j) = N at *
        generalize rest[j].toNat = b at *
        have hor : bits .or .u64 ((N : Int) * 256) (b : Int) = ((N * 256 + b : Nat) : Int) := by
          have h := u64_or_nat (N * 256) b (by omega) (by omega)
          rw [show N * 256 ||| b = N * 256 + b by rw [Nat.mul_comm N 256]; exact (Nat.two_pow_add_eq_or_of_lt (i := 8) (by omega) N).symm] at h
          rw [← h]
          rfl
        have Hor := Lib.hid hor
        clear hor
        go_wp2_with fail
        refine ⟨⟨j + 1, by omega, by go_num, ?_⟩, by simp [intOf]; omega⟩
        rw [Hor.out, Hst.out]
      · obtain rfl : j = n := by omega
        generalize hN : numOf (rest.take j) = N at *
        have HN := Lib.hid hN
        clear hN
        have hres2 : (w'.alloc (.cells #[.int .i64 1, .int .u64 (N : Int), .string ⟨#[]⟩] 51)).heap[W.heap.size]? = some (.cells #[.int .i64 0, .int .u64 0, .string ⟨#[]⟩] 51 (0, 0)) := by
          rw [Below.heap_alloc w' _ _ hszr]; exact hres
        have hfin1 := grown_setRow (grown_trans HG.out (grown_below ((Below.refl w'.heap.size w').alloc (Nat.le_refl _) (.cells #[.int .i64 1, .int .u64 (N : Int), .string ⟨#[]⟩] 51)))) (Nat.le_refl _) #[.int .i64 1, .int .u64 (N : Int), .string ⟨#[]⟩]
        have hfin2 := (HR2.out.later ((Below.refl w'.heap.size w').alloc (Nat.le_refl _) (.cells #[.int .i64 1, .int .u64 (N : Int), .string ⟨#[]⟩] 51))).setRow (k := W.heap.size) (by omega) (by have := HR2.out.hi; omega) #[.int .i64 1, .int .u64 (N : Int), .string ⟨#[]⟩]
        have Hfin := Lib.hid (And.intro hfin1 hfin2)
        clear hfin1 hfin2
        go_wp2_with (refine wpList_store_row rfl 51 (.tmp 4) (.tmp 47) rfl W.heap.size #[.int .i64 1, .int .u64 (N : Int), .string ⟨#[]⟩] rfl rfl _ _ hres2 (by kernel_rfl) rfl (one3 _ _ _) ?_)
        refine bodyPost_ret (results_ct rfl _ _ W.heap.size 51 #[.int .i64 1, .int .u64 (N : Int), .string ⟨#[]⟩] _ _ rfl (setRow_heap _ _ _ _ _ _ hres2) Tryd.underlying51 rfl (by kernel_rfl)) rfl ?_
        exact ⟨by show Ending.returned (.tuple #[.agg (cellsPt ⟨1, N, []⟩), .bool true]) = _; rw [HN.out], Hfin.out.1, o', Hfin.out.2⟩
  · clear hhead h0
    have hn0 : ¬ 0 < (n : Int) := by omega
    go_enter Tryd.func34, Tryd.ntmps34
    go_wp2_with fail
    refine (hq.out).mono ?_
    rintro e w' ⟨rfl, rfl⟩
    simp only [hW2]
    clear hq hW2
    go_wp2_with fail
    go_loopw [35] (fun i wr => ∃ j : Nat, j ≤ n ∧ i = .int .i64 j ∧ wr = w'.alloc (.cells #[.int .i64 1, .int .u64 ((numOf (rest.take j) : Nat) : Int), .string ⟨#[]⟩] 51)) (fun i _ => n - (intOf i).toNat)
    case atStart => exact ⟨0, by omega, rfl, rfl⟩
    case round =>
      obtain ⟨j, hj, rfl, rfl⟩ := hrel
      by_cases hjn : j < n
      · exfalso; omega
      · obtain rfl : j = n := by omega
        generalize hN : numOf (rest.take j) = N at *
        have HN := Lib.hid hN
        clear hN
        have hres2 : (w'.alloc (.cells #[.int .i64 1, .int .u64 (N : Int), .string ⟨#[]⟩] 51)).heap[W.heap.size]? = some (.cells #[.int .i64 0, .int .u64 0, .string ⟨#[]⟩] 51 (0, 0)) := by
          rw [Below.heap_alloc w' _ _ hszr]; exact hres
        have hfin1 := grown_setRow (grown_trans HG.out (grown_below ((Below.refl w'.heap.size w').alloc (Nat.le_refl _) (.cells #[.int .i64 1, .int .u64 (N : Int), .string ⟨#[]⟩] 51)))) (Nat.le_refl _) #[.int .i64 1, .int .u64 (N : Int), .string ⟨#[]⟩]
        have hfin2 := (HR2.out.later ((Below.refl w'.heap.size w').alloc (Nat.le_refl _) (.cells #[.int .i64 1, .int .u64 (N : Int), .string ⟨#[]⟩] 51))).setRow (k := W.heap.size) (by omega) (by have := HR2.out.hi; omega) #[.int .i64 1, .int .u64 (N : Int), .string ⟨#[]⟩]
        have Hfin := Lib.hid (And.intro hfin1 hfin2)
        clear hfin1 hfin2
        go_wp2_with (refine wpList_store_row rfl 51 (.tmp 4) (.tmp 47) rfl W.heap.size #[.int .i64 1, .int .u64 (N : Int), .string ⟨#[]⟩] rfl rfl _ _ hres2 (by kernel_rfl) rfl (one3 _ _ _) ?_)
        refine bodyPost_ret (results_ct rfl _ _ W.heap.size 51 #[.int .i64 1, .int .u64 (N : Int), .string ⟨#[]⟩] _ _ rfl (setRow_heap _ _ _ _ _ _ hres2) Tryd.underlying51 rfl (by kernel_rfl)) rfl ?_
        exact ⟨by show Ending.returned (.tuple #[.agg (cellsPt ⟨1, N, []⟩), .bool true]) = _; rw [HN.out], Hfin.out.1, o', Hfin.out.2⟩
end Go.Proofs.YtfogepoebihnoaaDoor
