/- The walks of all and alike. -/
import Derived.Test.YtfajgnaphekdhaaDoorPiec
import Derived.Deep.RegionWith
namespace Go.Proofs.YtfajgnaphekdhaaDoor
open Go.RowKit
set_option linter.unusedSimpArgs false
set_option linter.unusedVariables false
/-- all as it was, but for the blocks S -/
structure Turned (W W' : World) (S : List Nat) : Prop where
  os : W'.os = W.os
  tape : W'.tape = W.tape
  output : W'.output = W.output
  size : W'.heap.size = W.heap.size
  block : ∀ g, g ∉ S → W'.heap[g]? = W.heap[g]?
theorem Turned.refl (W : World) : Turned W W [] := ⟨rfl, rfl, rfl, rfl, fun _ _ => rfl⟩
theorem Turned.drew {W W' : World} {S : List Nat} (h : Turned W W' S) : Turned W W'.drew S := ⟨h.os, h.tape, h.output, h.size, h.block⟩
theorem Turned.set {W W' : World} {S : List Nat} {g : Nat} (h : Turned W W' S) (C' : Array Value) : Turned W (W'.setRow g C') (S ++ [g]) := by
  refine ⟨h.os, h.tape, h.output, ?_, fun k hk => ?_⟩
  · rw [size_setRow]; exact h.size
  · rw [setRow_other _ _ _ _ (by intro e; subst e; exact hk (by simp)), h.block k (fun e => hk (by simp [e]))]
theorem Turned.below {W W' : World} {S : List Nat} (h : Turned W W' S) {B : Nat} {w : World} (hb : Below B w W) (hS : ∀ g ∈ S, B ≤ g) : Below B w W' :=
  ⟨h.os.trans hb.os, h.tape.trans hb.tape, h.output.trans hb.output, by rw [h.size]; exact hb.size, fun k hk => (h.block k (fun e => by have := hS k e; omega)).trans (hb.block k hk)⟩
theorem cell_block {w w' : World} {a : Addr} (h : w'.heap[a.block]? = w.heap[a.block]?) : w'.cell? a = w.cell? a := World.cell?_of_block h
theorem owns_form {w : World} {B n : Nat} {v : Value} {vals : List Value} (h : w.ownsRow B 33 1 v n vals) : ∃ A c, v = .slice A n c ∧ ∀ j (hj : j < vals.length), ∃ ad, A = some ad ∧ w.cell? (ad.add j) = some vals[j] ∧ v.ownBlock = some ad.block := by
  rcases h.2 with ⟨rfl, hn⟩ | ⟨g, cap, cur, rfl, hb, hg, hc, hm, hs, ht⟩
  · subst hn
    have := h.1
    exact ⟨none, 0, rfl, fun j hj => by omega⟩
  · exact ⟨some ⟨g, 0, none⟩, cap, rfl, fun j hj => ⟨_, rfl, h.cells (g := g) rfl j vals[j] (by simp [hj]), rfl⟩⟩
/-- what is read of both slices at j, the blocks of the lent ones ahead of j turned -/
theorem PcV.at_ {w W wr : World} {va vb : Value} {ls : List (List UInt8)} {xa xb : List Value} (h : PcV w W va vb ls ls xa xb) {k : Nat} (ht : Turned W wr ((xb.take k).map blk)) (hk : k < ls.length) :
    ∃ aa ab Aa Ab ca cb ga gb cap, va = .slice (some aa) ls.length ca ∧ vb = .slice (some ab) ls.length cb ∧ wr.cell? (aa.add k) = some (.slice (some ⟨ga, 0, none⟩) ls[k].length cap) ∧ Rd wr (some ⟨ga, 0, none⟩) ls[k] ∧
      wr.cell? (ab.add k) = some (.slice (some ⟨gb, 0, none⟩) ls[k].length (ls[k].length + 9)) ∧ wr.heap[gb]? = some (.cells (bArr (lentL ls[k] 9)) 5 (0, 0)) ∧ (xb.take (k + 1)).map blk = (xb.take k).map blk ++ [gb] ∧ Aa = some aa ∧ Ab = some ab := by
  have l1 := h.lenA
  have l2 := h.lenB
  have hka : k < xa.length := by omega
  have hkb : k < xb.length := by omega
  have hS : ∀ g ∈ (xb.take k).map blk, ∃ cur fr, W.heap[g]? = some (.cells cur 5 fr) := fun g hg => by
    obtain ⟨y, hy, rfl⟩ := List.mem_map.1 hg
    obtain ⟨j, hj, rfl⟩ := List.getElem_of_mem (List.mem_of_mem_take hy)
    exact (h.elB j hj (by omega)).row
  have nS : ∀ {v : Value} {n : Nat} {vals : List Value} {B : Nat}, W.ownsRow B 33 1 v n vals → ∀ g, v.ownBlock = some g → g ∉ (xb.take k).map blk := fun ho g hg e => not_row ho (hS g e) hg.symm
  obtain ⟨Aa, ca, ea, fa⟩ := owns_form h.ownA
  obtain ⟨Ab, cb, eb, fb⟩ := owns_form h.ownB
  obtain ⟨aa, rfl, ha1, ha2⟩ := fa k hka
  obtain ⟨ab, rfl, hb1, hb2⟩ := fb k hkb
  have ba : (aa.add k).block = aa.block := by unfold Addr.add; split <;> rfl
  have bb : (ab.add k).block = ab.block := by unfold Addr.add; split <;> rfl
  have ea1 := h.elA k hka hk
  have eb1 := h.elB k hkb hk
  have hna : blk xa[k] ∉ (xb.take k).map blk := fun e => by
    obtain ⟨y, hy, e⟩ := List.mem_map.1 e
    exact h.ab _ (List.getElem_mem hka) y (List.mem_of_mem_take hy) e.symm
  have hst : (xb.take (k + 1)) = xb.take k ++ [xb[k]] := by rw [List.take_add_one, List.getElem?_eq_getElem hkb]; rfl
  have hnb : blk xb[k] ∉ (xb.take k).map blk := fun e => by
    have hnd := h.nd
    rw [← List.take_append_drop (k + 1) xb, hst, List.map_append, List.map_append, List.nodup_append] at hnd
    have := (List.nodup_append.1 hnd.1).2.2 _ e (blk xb[k]) (by simp)
    exact this rfl
  have ea2 := ea1.at_ (ht.block _ hna)
  have eb2 := eb1.at_ (ht.block _ hnb)
  obtain ⟨ga, cap, cur, fr, e1, e2, e3, e4⟩ := ea2
  obtain ⟨gb, e5, e6⟩ := eb2
  refine ⟨aa, ab, some aa, some ab, ca, cb, ga, gb, cap, ea, eb, ?_, e3, ?_, e6, ?_, rfl, rfl⟩
  · rw [cell_block (ht.block _ (by rw [ba]; exact nS h.ownA _ ha2)), ha1, e1]
  · rw [cell_block (ht.block _ (by rw [bb]; exact nS h.ownB _ hb2)), hb1, e5]
  · rw [hst, List.map_append, e5]; rfl
theorem PcV.forms {w W : World} {va vb : Value} {la lb : List (List UInt8)} {xa xb : List Value} (h : PcV w W va vb la lb xa xb) : (∃ A c, va = .slice A la.length c) ∧ ∃ A c, vb = .slice A lb.length c := by
  obtain ⟨Aa, ca, ea, _⟩ := owns_form h.ownA
  obtain ⟨Ab, cb, eb, _⟩ := owns_form h.ownB
  exact ⟨⟨_, _, ea⟩, _, _, eb⟩
set_option maxHeartbeats 1000000 in
set_option maxRecDepth 100000 in
theorem all_calls {w W : World} {va vb : Value} {ls : List (List UInt8)} {xa xb : List Value} (h : PcV w W va vb ls ls xa xb) (hs : ∀ b ∈ ls, b.length ≤ 140737488351232) (hl : ls.length ≤ 1000) :
    Calls Tryd.prog 9 #[vb, va] W fun e W' => e = .returned (.bool true) ∧ Turned W W' (xb.map blk) := by
  obtain ⟨iS, hiS, hsz⟩ := infoS
  obtain ⟨⟨Aa, ca, ea⟩, Ab, cb, eb⟩ := h.forms
  subst ea eb
  have HH := Lib.hid h
  have Hs := Lib.hid hs
  have HX := Lib.hid h.lenB
  have hq0 := Lib.hid (show Turned W W ((xb.take 0).map blk) from Turned.refl W)
  clear h hs
  go_enter Tryd.func9, Tryd.ntmps9
  go_wp2_with fail
  go_loopw [5, 6] (fun o i wr => ∃ k : Nat, k ≤ ls.length ∧ o = .bool true ∧ i = .int .i64 k ∧ Hid (Turned W wr ((xb.take k).map blk))) (fun _ i _ => ls.length - (intOf i).toNat)
  case atStart => exact ⟨0, by omega, rfl, rfl, hq0⟩
  case round =>
    rename World => wr
    obtain ⟨k, hk, rfl, rfl, H⟩ := hrel
    by_cases hlt : k < ls.length
    · obtain ⟨aa, ab, Aa', Ab', ca', cb', ga, gb, cap, e1, e2, c1, r1, c2, r2, e3, e4, e5⟩ := HH.out.at_ H.out hlt
      cases e1
      cases e2
      have hbk := Lib.hid (fun (wq : World) (hh : wq.heap = wr.heap) => back_calls gb ls[k] (some ⟨ga, 0, none⟩) cap ls[k] wq (by rw [hh]; exact r2) (Hs.out _ (List.getElem_mem hlt)) rfl (r1.keep (fun a v hc => by simpa [World.cell?, hh] using hc)))
      have hself : (ls[k] == ls[k]) = true := by simp
      rw [hself] at hbk
      have HT := Lib.hid (H.out.set (g := gb) (bArr (List.replicate (ls[k].length + 9) 78)))
      rw [← e3] at HT
      clear r1 r2 e3 e4 e5 H hself
      generalize ls[k].length = m at *
      go_wp2_with fail
      go_region_with (go_at_call 22; (first | refine (hbk.out wr.drew rfl).mono ?_ | refine (hbk.out wr rfl).mono ?_); rintro e w' ⟨rfl, rfl⟩)
      all_goals
        go_wp2_with fail
        exact ⟨⟨k + 1, by omega, rfl, by go_num, by first | exact HT | exact Lib.hid HT.out.drew⟩, by simp [intOf]; omega⟩
    · obtain rfl : k = ls.length := by omega
      have hT := H.out
      rw [← HX.out, List.take_length] at hT
      have HT := Lib.hid hT
      clear hT H
      go_wp2_with fail
      go_ret
      exact ⟨rfl, HT.out⟩
end Go.Proofs.YtfajgnaphekdhaaDoor
