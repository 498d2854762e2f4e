/- The walk of code.Swell: it answers what the plain function tells. Conditions: the slice that comes in reads as the bytes; most is at most 2^20. -/
import Derived.Test.YtfogepoebihnoaaDoorTake
import Derived.Test.YtfogepoebihnoaaDoorSwp
import Derived.Test.YtfogepoebihnoaaDoorTell
import Derived.BigQuiet
import Derived.RegionTactic
import Derived.BigRegion
namespace Go.Proofs.YtfogepoebihnoaaDoor
open Go.RowKit
set_option linter.unusedSimpArgs false
set_option linter.unusedVariables false
theorem OwnB.mono {w : World} {B B' : Nat} {e : TypeId} {v : Value} {bs : List UInt8} (h : OwnB w B e v bs) (hB : B' ≤ B) : OwnB w B' e v bs := by
  refine ⟨h.1, ?_⟩
  rcases h.2 with h2 | ⟨g, cap, cur, hv, hg, rest⟩
  · exact .inl h2
  · exact .inr ⟨g, cap, cur, hv, by omega, rest⟩
/-- how many are left in the slice of a cell -/
def cellLen (w : World) (R : Nat) : Nat := match w.cell? ⟨R, 0, none⟩ with | some (.slice _ n _) => n | _ => 0
theorem cellLen_of {w : World} {R : Nat} {A : Option Addr} {n c : Nat} (h : w.cell? ⟨R, 0, none⟩ = some (.slice A n c)) : cellLen w R = n := by simp [cellLen, h]
/-- the state amid a round: the reader's cell (block w.heap.size) holds rest, v holds out -/
structure Mid (w : World) (v : Value) (wr : World) (rest out : List UInt8) (A : Option Addr) (cap : Nat) : Prop where
  own : OwnB wr (w.heap.size + 1) 5 v out
  row : wr.heap[w.heap.size]? = some (.cells #[.slice A rest.length cap] 56 (0, 0))
  room : rest.length ≤ cap
  rd : Rd w A rest
  below : Below w.heap.size w wr
  blen : rest.length ≤ 140737488355328
theorem Mid.cell {w : World} {v : Value} {wr : World} {rest out : List UInt8} {A : Option Addr} {cap : Nat} (h : Mid w v wr rest out A cap) : wr.cell? ⟨w.heap.size, 0, none⟩ = some (.slice A rest.length cap) := by
  rw [cell_of_row _ _ _ _ _ _ h.row]; rfl
theorem Mid.frozen {w : World} {v : Value} {wr : World} {rest out : List UInt8} {A : Option Addr} {cap : Nat} (h : Mid w v wr rest out A cap) : wr.frozen? ⟨w.heap.size, 0, none⟩ = false := frozen_of_row _ _ _ _ _ h.row
theorem Mid.adv {w : World} {v : Value} {wr : World} {rest out : List UInt8} {A : Option Addr} {cap : Nat} (h : Mid w v wr rest out A cap) (n : Nat) (hn : n ≤ rest.length) :
    Mid w v (wr.setCell ⟨w.heap.size, 0, none⟩ (.slice (advA A n cap) (rest.length - n) (cap - n))) (rest.drop n) out (advA A n cap) (cap - n) where
  own := h.own.setBelow (by simp) _
  row := by rw [heap_setCell_same _ _ _ _ _ _ h.row]; simp
  room := by have := h.room; simp; omega
  rd := h.rd.adv n cap hn h.room
  below := h.below.setCell (Nat.le_refl _) _
  blen := by have := h.blen; simp; omega
theorem Mid.grown {w : World} {v : Value} {wr : World} {rest out : List UInt8} {A : Option Addr} {cap : Nat} (h : Mid w v wr rest out A cap) {w' : World} {v' : Value} {out' : List UInt8}
    (ho : OwnB w' (w.heap.size + 1) 5 v' out') (hb : Below (w.heap.size + 1) wr w') : Mid w v' w' rest out' A cap where
  own := ho
  row := by rw [hb.block _ (Nat.lt_succ_self _)]; exact h.row
  room := h.room
  rd := h.rd
  below := h.below.trans ((hb.mono (Nat.le_succ _)))
  blen := h.blen
theorem Mid.lt {w : World} {v : Value} {wr : World} {rest out : List UInt8} {A : Option Addr} {cap : Nat} (h : Mid w v wr rest out A cap) : w.heap.size + 1 ≤ wr.heap.size :=
  (Array.getElem?_eq_some_iff.1 h.row).1
theorem Mid.rdAt {w : World} {v : Value} {wr : World} {rest out : List UInt8} {A : Option Addr} {cap : Nat} (h : Mid w v wr rest out A cap) : Rd wr A rest := h.rd.below h.below
structure SwRel (w : World) (m : Int) (T : Int × List UInt8) (v : Value) (wr : World) (rest out : List UInt8) (A : Option Addr) (cap k : Nat) : Prop where
  mid : Mid w v wr rest out A cap
  sw : sw m (k + 1) rest out = T
  fuel : rest.length ≤ k
  len : (out.length : Int) ≤ m
set_option maxHeartbeats 4000000 in
set_option maxRecDepth 100000 in
theorem swell_pos (A : Option Addr) (cap : Nat) (bs : List UInt8) (m : Int) (w : World) (hn : bs.length ≤ 140737488355328) (hc : bs.length ≤ cap) (hr : Rd w A bs) (h0 : 0 ≤ m) (h1 : m ≤ 1048576) :
    Calls Tryd.prog 21 #[.slice A bs.length cap, .int .i64 m] w fun e w' => ∃ v, e = .returned (.tuple #[v, errV (sw m (bs.length + 1) bs []).1]) ∧ OwnB w' w.heap.size 5 v (sw m (bs.length + 1) bs []).2 ∧ Below w.heap.size w w' := by
  obtain ⟨i5, hi, hz0, hz1, hz2⟩ := info_parts info5
  generalize hT : sw m (bs.length + 1) bs [] = T
  have hrel0 : SwRel w m T (.slice none 0 0) (w.alloc (.cells #[.slice A bs.length cap] 56)) bs [] A cap bs.length :=
    ⟨⟨OwnB.nil _ _ _, heap_alloc_new w _, hc, hr, (Below.refl _ _).alloc (Nat.le_refl _) _, hn⟩, hT, by omega, by simp; omega⟩
  have Hrel0 := Lib.hid hrel0
  have hm0 : ¬ m < 0 := by omega
  clear hT hr hrel0
  go_enter Tryd.func21, Tryd.ntmps21
  go_wp2_with fail
  go_loopw [7] (fun v wr => ∃ (rest out : List UInt8) (A : Option Addr) (cap k : Nat), Hid (SwRel w m T v wr rest out A cap k)) (fun _ wr => cellLen wr w.heap.size)
  case atStart => exact ⟨bs, [], A, cap, bs.length, Hrel0⟩
  case round =>
    clear Hrel0 hc hn
    obtain ⟨rest, out, A1, cap1, k, H⟩ := hrel
    have hcell := H.out.mid.cell
    cases rest with
    | nil =>
      simp only [List.length_nil] at hcell
      go_wp2_with fail
      go_ret2
      have hT : T = (0, out) := H.out.sw.symm
      subst hT
      exact ⟨_, rfl, H.out.mid.own.mono (Nat.le_succ _), H.out.mid.below⟩
    | cons t r =>
      obtain ⟨a, ha, hct⟩ := H.out.mid.rdAt 0 (by simp)
      subst ha
      have Hk := H.out.fuel
      obtain ⟨k, rfl⟩ : ∃ j, k = j + 1 := ⟨k - 1, by simp at Hk; omega⟩
      simp only [List.length_cons] at hcell
      have hmeas := cellLen_of hcell
      have hm1 := Lib.hid (H.out.mid.adv 1 (by simp))
      have hcb : (wr.setCell ⟨w.heap.size, 0, none⟩ (.slice (advA (some a) 1 cap1) (r.length + 1 - 1) (cap1 - 1))).cell? a = some (.int .u8 (t.toNat : Int)) := by
        obtain ⟨a', ha', h⟩ := (H.out.mid.rd.below hm1.out.below) 0 (by simp)
        cases ha'
        exact h
      have ht0 := t.toNat_lt
      have hl := H.out.mid.blen
      have hrm := H.out.mid.room
      simp only [List.length_cons] at hl hrm
      have hfz := H.out.mid.frozen
      have htk := take_long w.heap.size (some a) (r.length + 1) cap1 1 1 wr hcell hfz rfl (by omega) hrm (by omega)
      have Htk := Lib.hid htk
      clear htk hct
      simp only [List.drop_succ_cons, List.drop_zero, Nat.add_sub_cancel, List.length_cons] at hm1 hcb Htk
      go_wp2_with fail
      refine (Htk.out).mono ?_
      rintro e w' ⟨rfl, rfl⟩
      generalize (wr.setCell ⟨w.heap.size, 0, none⟩ (.slice (advA (some a) 1 cap1) r.length (cap1 - 1))) = W1 at *
      clear Htk
      have hA : ∀ j (hj : j < r.length), ∃ ad, advA (some a) 1 cap1 = some ad ∧ W1.cell? (ad.add j) = some (.int .u8 (r[j].toNat : Int)) := fun j hj => hm1.out.rdAt j hj
      have HA := Lib.hid hA
      clear hA
      generalize hA2 : advA (some a) 1 cap1 = A2 at *
      generalize hc2 : cap1 - 1 = cap2 at *
      have hlen := H.out.len
      have Hsw := Lib.hid H.out.sw
      have hcell2 := hm1.out.cell
      have hfz2 := hm1.out.frozen
      have hl2 : r.length ≤ 140737488355328 := hm1.out.blen
      have hk2 : r.length ≤ k := by simp at Hk; omega
      have Hmeas := Lib.hid hmeas
      clear hcell hmeas hfz H Hk hl hrm hA2 hc2
      have hrm2 := hm1.out.room
      by_cases ht : t.toNat < 128
      · by_cases hsh : r.length < t.toNat + 1
        · have hT : (7, []) = T := by rw [← Hsw.out, sw_lit_short _ _ _ _ _ ht hsh]
          subst hT
          have hq := Lib.hid (take_short w.heap.size A2 r.length cap2 ((t.toNat : Int) + 1) W1 hcell2 (by omega))
          have heq := fun W => Lib.run_eql_slice_nil (P := Tryd.prog) W 22 5 none 0 0 0 0 Tryd.underlying22
          go_wp2_with fail
          refine (hq.out).mono ?_
          rintro e w' ⟨rfl, rfl⟩
          go_wp2_with fail
          go_ret2
          exact ⟨_, rfl, OwnB.nil _ _ _, hm1.out.below⟩
        · obtain ⟨ad, hA2, _⟩ := HA.out 0 (by omega)
          subst hA2
          have hq := Lib.hid (take_long w.heap.size (some ad) r.length cap2 (t.toNat + 1) ((t.toNat : Int) + 1) W1 hcell2 hfz2 (by omega) (by omega) hrm2 (by omega))
          have heq := fun W => Lib.run_eql_slice_nil (P := Tryd.prog) W 22 5 (some ad) (t.toNat + 1) (t.toNat + 1) 0 0 Tryd.underlying22
          simp only [Option.isNone_some] at heq
          have hm2 := Lib.hid (hm1.out.adv (t.toNat + 1) (by omega))
          obtain ⟨v3, W3, ha1, ha2, ha3, _⟩ := own_append (P := Tryd.prog) _ 22 22 5 i5 Tryd.underlying22 hi hz0 hz1 hz2 (w.heap.size + 1) _ out hm2.out.own hm2.out.lt (some ad) (t.toNat + 1) (r.take (t.toNat + 1)) ((hm1.out.rd.take _).below hm2.out.below) (by simp; omega)
          have htl : (r.take (t.toNat + 1)).length = t.toNat + 1 := by simp; omega
          rw [htl] at ha1
          have hm3 := Lib.hid (hm2.out.grown ha2 ha3)
          obtain ⟨out2, ho2⟩ : ∃ o, out ++ r.take (t.toNat + 1) = o := ⟨_, rfl⟩
          have hol : out2.length = out.length + (t.toNat + 1) := by rw [← ho2, List.length_append, htl]
          have hob : out2.length ≤ 2000000 := by omega
          have Hol := Lib.hid hol
          clear hol
          have hsw1 := sw_lit_long m (k + 1) t r out ht hsh
          have hsw2 := sw_lit_go m (k + 1) t r out ht hsh
          rw [ho2] at hm3 hsw1 hsw2
          have Hsw1 := Lib.hid hsw1
          have Hsw2 := Lib.hid hsw2
          have Ha1 := Lib.hid ha1
          have hm4 : Hid (∃ A4 cap4, Mid w v3 W3 (r.drop (t.toNat + 1)) out2 A4 cap4) := Lib.hid ⟨_, _, hm3.out⟩
          obtain ⟨Ao, co, hv3, _⟩ := hm3.out.own.form
          subst hv3
          clear ha1 ha2 ha3 hm2 hm3 hsw1 hsw2 htl ho2
          go_wp2_with fail
          refine (hq.out).mono ?_
          rintro e w' ⟨rfl, rfl⟩
          generalize (W1.setCell ⟨w.heap.size, 0, none⟩ (.slice (advA (some ad) (t.toNat + 1) cap2) (r.length - (t.toNat + 1)) (cap2 - (t.toNat + 1)))) = W2 at *
          clear hq
          by_cases hlong : m < (out2.length : Int)
          · have hT : (6, []) = T := by rw [← Hsw.out, Hsw1.out (by omega)]
            subst hT
            go_wp2_with (at_builtin; go_must (refine wpList_append_run rfl (.tmp 33) (.tmp 34) 22 22 rfl rfl rfl Ha1.out ?_))
            go_ret2
            obtain ⟨A4, cap4, hm5⟩ := hm4.out
            exact ⟨_, rfl, OwnB.nil _ _ _, hm5.below⟩
          · go_wp2_with (at_builtin; go_must (refine wpList_append_run rfl (.tmp 33) (.tmp 34) 22 22 rfl rfl rfl Ha1.out ?_))
            obtain ⟨A4, cap4, hm5⟩ := hm4.out
            refine ⟨⟨r.drop (t.toNat + 1), out2, A4, cap4, k, Lib.hid ⟨hm5, ?_, ?_, ?_⟩⟩, ?_⟩
            · rw [← Hsw2.out (by omega)]; exact Hsw.out
            · simp; omega
            · omega
            · rw [cellLen_of hm5.cell, Hmeas.out]; simp; omega
      · by_cases hsh : r.length < 2
        · have hT : (7, []) = T := by rw [← Hsw.out, sw_cp_short _ _ _ _ _ ht hsh]
          subst hT
          have hq := Lib.hid (take_short w.heap.size A2 r.length cap2 2 W1 hcell2 (by omega))
          have heq := fun W => Lib.run_eql_slice_nil (P := Tryd.prog) W 22 5 none 0 0 0 0 Tryd.underlying22
          go_wp2_with fail
          refine (hq.out).mono ?_
          rintro e w' ⟨rfl, rfl⟩
          go_wp2_with fail
          go_region
          go_wp2_with fail
          go_ret2
          exact ⟨_, rfl, OwnB.nil _ _ _, hm1.out.below.drew⟩
        · obtain ⟨ad, hA2, hc0⟩ := HA.out 0 (by omega)
          obtain ⟨ad', hA3, hc1⟩ := HA.out 1 (by omega)
          subst hA2
          cases hA3
          have hd : dist r = r[0].toNat + 256 * r[1].toNat + 1 := by simp [dist, List.getD, show 0 < r.length by omega, show 1 < r.length by omega]
          have hx0l := r[0].toNat_lt
          have hx1l := r[1].toNat_lt
          generalize hg0 : r[0].toNat = x0 at *
          generalize hg1 : r[1].toNat = x1 at *
          have hq := Lib.hid (take_long w.heap.size (some ad) r.length cap2 2 2 W1 hcell2 hfz2 (by omega) (by omega) hrm2 (by omega))
          have heq := fun W => Lib.run_eql_slice_nil (P := Tryd.prog) W 22 5 (some ad) 2 2 0 0 Tryd.underlying22
          simp only [Option.isNone_some] at heq
          have hm2 := Lib.hid (hm1.out.adv 2 (by omega))
          obtain ⟨Ao, co, hv, hro, _, hco, _⟩ := hm1.out.own.form
          subst hv
          have hc2 : (W1.setCell ⟨w.heap.size, 0, none⟩ (.slice (advA (some ad) 2 cap2) (r.length - 2) (cap2 - 2))).cell? ad = some (.int .u8 (x0 : Int)) := by
            obtain ⟨ad', ha', h⟩ := (hm1.out.rd.below hm2.out.below) 0 (by omega)
            cases ha'
            rw [← hg0]
            exact h
          have hc3 : (W1.setCell ⟨w.heap.size, 0, none⟩ (.slice (advA (some ad) 2 cap2) (r.length - 2) (cap2 - 2))).cell? ⟨ad.block, ad.off + 1, none⟩ = some (.int .u8 (x1 : Int)) := by
            obtain ⟨ad', ha', h⟩ := (hm1.out.rd.below hm2.out.below) 1 (by omega)
            cases ha'
            rw [← hg1]
            exact h
          have hm3 : Hid (∃ A4 cap4, Mid w (.slice Ao out.length co) (W1.setCell ⟨w.heap.size, 0, none⟩ (.slice (advA (some ad) 2 cap2) (r.length - 2) (cap2 - 2))) (r.drop 2) out A4 cap4) := Lib.hid ⟨_, _, hm2.out⟩
          clear hm2 hc0 hc1 hro hg0 hg1
          have hob : out.length ≤ 2000000 := by omega
          by_cases hfar : out.length < x0 + 256 * x1 + 1
          · have hT : (7, []) = T := by rw [← Hsw.out, sw_cp_far _ _ _ _ _ ht hsh (by omega)]
            subst hT
            go_wp2_with fail
            refine (hq.out).mono ?_
            rintro e w' ⟨rfl, rfl⟩
            generalize (W1.setCell ⟨w.heap.size, 0, none⟩ (.slice (advA (some ad) 2 cap2) (r.length - 2) (cap2 - 2))) = W2 at *
            clear hq
            go_wp2_with fail
            go_region
            go_wp2_with fail
            go_ret2
            obtain ⟨A4, cap4, hm5⟩ := hm3.out
            exact ⟨_, rfl, OwnB.nil _ _ _, hm5.below.drew⟩
          · have hsw1 := sw_cp_long m (k + 1) t r out ht hsh (by omega)
            have hsw2 := sw_cp_go m (k + 1) t r out ht hsh (by omega)
            rw [hd] at hsw1 hsw2
            obtain ⟨d, hdd⟩ : ∃ d, x0 + 256 * x1 + 1 = d := ⟨_, rfl⟩
            rw [hdd] at hsw1 hsw2 hfar
            have Hsw1 := Lib.hid hsw1
            have Hsw2 := Lib.hid hsw2
            have hdi : (x0 : Int) + (x1 : Int) * 256 + 1 = (d : Int) := by omega
            clear hsw1 hsw2 hd
            go_wp2_with fail
            refine (hq.out).mono ?_
            rintro e w' ⟨rfl, rfl⟩
            generalize (W1.setCell ⟨w.heap.size, 0, none⟩ (.slice (advA (some ad) 2 cap2) (r.length - 2) (cap2 - 2))) = W2 at *
            clear hq
            go_wp2_with fail
            go_region
            go_wp2_with fail
            go_region
            go_wp2_with fail
            obtain ⟨A4, cap4, hm4⟩ := hm3.out
            have Hm4 := Lib.hid hm4
            clear hm4 hm3 hc2 hc3
            clear hcell2 hfz2 hcb HA hm1
            obtain ⟨wo, hwo⟩ : ∃ c, cellLen wr w.heap.size = c := ⟨_, rfl⟩
            rw [hwo] at Hmeas
            have Hwo := Lib.hid hwo
            clear hwo
            go_loopw [7, 69] (fun v i w3 => ∃ j : Nat, j ≤ t.toNat - 125 ∧ i = .int .i64 j ∧ Hid (Mid w v w3 (r.drop 2) (cpyN out d j) A4 cap4)) (fun _ i _ => t.toNat - 125 - (intOf i).toNat)
            case atStart => exact ⟨0, by omega, rfl, Lib.hid (Hm4.out.grown (Hm4.out.own.drew).drew (((Below.refl _ _).drew).drew))⟩
            case round =>
              obtain ⟨j, hj, rfl, H⟩ := hrel
              obtain ⟨A5, c5, hv, hr5, hc5, _, _⟩ := H.out.own.form
              subst hv
              have hl5 : (cpyN out d j).length = out.length + j := cpyN_len _ _ _
              have hstep : cpyN out d (j + 1) = cpyN out d j ++ [(cpyN out d j).getD ((cpyN out d j).length - d) 0] := rfl
              have Hstep := Lib.hid hstep
              clear hstep
              by_cases hlt : j < t.toNat - 125
              · have hl6 : (cpyN out d j).length ≤ 3000000 := by omega
                have hl7 : d ≤ (cpyN out d j).length := by omega
                have hd0 : 0 < d := by omega
                generalize cpyN out d j = L at *
                clear hl5
                obtain ⟨n, hn⟩ : ∃ n, L.length - d = n := ⟨_, rfl⟩
                have hni : (L.length : Int) - (d : Int) = (n : Int) := by omega
                have hnl : n < L.length := by omega
                rw [hn] at Hstep
                obtain ⟨ad5, h5, hcl⟩ := hr5 n hnl
                subst h5
                have hgd : L.getD n 0 = L[n] := by simp [List.getD, hnl]
                rw [hgd] at Hstep
                generalize L[n] = b at *
                have hb1 := Lib.hid (run_one (P := Tryd.prog) wr 22 5 i5 Tryd.underlying22 hi hz0 hz1 (b.toNat : Int))
                have hbl := b.toNat_lt
                simp only [vb] at hcl
                obtain ⟨v3, W3, ha1, ha2, ha3, _⟩ := own_append (P := Tryd.prog) (wr.alloc (.cells #[.int .u8 (b.toNat : Int)] 5)) 22 22 5 i5 Tryd.underlying22 hi hz0 hz1 hz2 (w.heap.size + 1) _ L (H.out.own.alloc _) (by have := H.out.lt; simp; omega) (some ⟨wr.heap.size, 0, none⟩) 1 [b] (one_rd wr b _) (by simp; omega)
                rw [← Hstep.out] at ha2
                have Ha1 := Lib.hid ha1
                have hm3 := Lib.hid (H.out.grown ha2 (((Below.refl _ _).alloc H.out.lt _).trans ha3))
                clear ha1 ha2 ha3 hr5
                go_wp2_with (at_builtin; go_must (refine wpList_append_run rfl (.tmp 71) (.tmp 79) 22 22 rfl rfl rfl Ha1.out ?_))
                exact ⟨⟨j + 1, by omega, by go_num, hm3⟩, by simp [intOf]; omega⟩
              · obtain rfl : j = t.toNat - 125 := by omega
                have hob : (cpyN out d (t.toNat - 125)).length ≤ 3000000 := by omega
                clear hl5
                generalize cpyN out d (t.toNat - 125) = out2 at *
                by_cases hlong : m < (out2.length : Int)
                · have hT : (6, []) = T := by rw [← Hsw.out, Hsw1.out (by omega)]
                  subst hT
                  go_wp2_with fail
                  go_ret2
                  exact ⟨_, rfl, OwnB.nil _ _ _, H.out.below⟩
                · go_wp2_with fail
                  refine ⟨⟨r.drop 2, out2, A4, cap4, k, Lib.hid ⟨H.out, ?_, ?_, ?_⟩⟩, ?_⟩
                  · rw [← Hsw2.out (by omega)]; exact Hsw.out
                  · simp; omega
                  · omega
                  · rw [cellLen_of H.out.cell, Hwo.out, Hmeas.out]; simp; omega
theorem swell_neg (A : Option Addr) (n cap : Nat) (m : Int) (w : World) (h0 : m < 0) :
    Calls Tryd.prog 21 #[.slice A n cap, .int .i64 m] w fun e w' => e = .returned (.tuple #[.slice none 0 0, errV 5]) ∧ w = w' := by
  go_enter Tryd.func21, Tryd.ntmps21
  go_wp2_with fail
  go_ret2
  exact ⟨rfl, rfl⟩
theorem swell_calls (A : Option Addr) (cap : Nat) (bs : List UInt8) (m : Int) (w : World) (hn : bs.length ≤ 140737488355328) (hc : bs.length ≤ cap) (hr : Rd w A bs) (h1 : m ≤ 1048576) :
    Calls Tryd.prog 21 #[.slice A bs.length cap, .int .i64 m] w fun e w' => ∃ v, e = .returned (.tuple #[v, errV (swell bs m).1]) ∧ OwnB w' w.heap.size 5 v (swell bs m).2 ∧ Below w.heap.size w w' := by
  unfold swell
  split
  · rename_i h
    refine (swell_neg A bs.length cap m w h).mono ?_
    rintro e w' ⟨rfl, rfl⟩
    exact ⟨_, rfl, OwnB.nil _ _ _, Below.refl _ _⟩
  · exact swell_pos A cap bs m w hn hc hr (by omega) h1
end Go.Proofs.YtfogepoebihnoaaDoor
