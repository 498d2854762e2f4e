/- The walk of bedrockref.Swell. Conditions: the slice that comes in reads as the bytes; most is at most 2^20. -/
import Derived.Test.YtfogepoebihnoaaDoorSwell
namespace Go.Proofs.YtfogepoebihnoaaDoor
open Go.RowKit
set_option linter.unusedSimpArgs false
set_option linter.unusedVariables false
structure Ref (w : World) (v : Value) (wr : World) (out : List UInt8) : Prop where
  own : OwnB wr w.heap.size 5 v out
  below : Below w.heap.size w wr
structure RefRel (w : World) (m : Int) (T : Int × List UInt8) (v : Value) (wr : World) (rest out : List UInt8) (k : Nat) : Prop where
  mid : Ref w v wr out
  sw : sw m (k + 1) rest out = T
  fuel : rest.length ≤ k
  len : (out.length : Int) ≤ m
theorem Ref.push {w : World} {v : Value} {wr : World} {out : List UInt8} (h : Ref w v wr out) (b : UInt8) (hl : out.length ≤ 3000000) :
    ∃ v' W', (Builtin.append_ #[22, 22] 22 #[v, .slice (some ⟨wr.heap.size, 0, none⟩) 1 1]).run Tryd.prog (wr.alloc (.cells #[.int .u8 (b.toNat : Int)] 5)) = .ok v' W' ∧ Ref w v' W' (out ++ [b]) := by
  obtain ⟨i5, hi, hz0, hz1, hz2⟩ := info_parts info5
  obtain ⟨v3, W3, ha1, ha2, ha3, _⟩ := own_append (P := Tryd.prog) (wr.alloc (.cells #[.int .u8 (b.toNat : Int)] 5)) 22 22 5 i5 Tryd.underlying22 hi hz0 hz1 hz2 w.heap.size _ out (h.own.alloc _) (by have := h.below.size; simp; omega) (some ⟨wr.heap.size, 0, none⟩) 1 [b] (one_rd wr b _) (by simp; omega)
  exact ⟨v3, W3, ha1, ha2, h.below.trans (((Below.refl _ _).alloc h.below.size _).trans ha3)⟩
set_option maxHeartbeats 4000000 in
set_option maxRecDepth 100000 in
theorem refSwell_pos (A : Option Addr) (cap : Nat) (bs : List UInt8) (m : Int) (w : World) (hn : bs.length ≤ 140737488355328) (hr : Rd w A bs) (h0 : 0 ≤ m) (h1 : m ≤ 1048576) :
    Calls Tryd.prog 11 #[.slice A bs.length cap, .int .i64 m] w fun e w' => ∃ v, e = .returned (.tuple #[v, .int .i64 (sw m (bs.length + 1) bs []).1]) ∧ OwnB w' w.heap.size 5 v (sw m (bs.length + 1) bs []).2 ∧ Below w.heap.size w w' := by
  obtain ⟨i5, hi, hz0, hz1, hz2⟩ := info_parts info5
  generalize hT : sw m (bs.length + 1) bs [] = T
  have hrel0 : RefRel w m T (.slice none 0 0) w (bs.drop 0) [] bs.length :=
    ⟨⟨OwnB.nil _ _ _, Below.refl _ _⟩, hT, by simp, by simp; omega⟩
  have Hrel0 := Lib.hid hrel0
  have Hr := Lib.hid hr
  have hm0 : ¬ m < 0 := by omega
  clear hT hr hrel0
  go_enter Tryd.func11, Tryd.ntmps11
  go_wp2_with fail
  go_loopw [6, 7] (fun v z wr => ∃ (i : Nat) (out : List UInt8) (k : Nat), i ≤ bs.length ∧ z = .int .i64 i ∧ Hid (RefRel w m T v wr (bs.drop i) out k)) (fun _ z _ => bs.length - (intOf z).toNat)
  case atStart => exact ⟨0, [], bs.length, by omega, rfl, Hrel0⟩
  case round =>
    clear Hrel0
    obtain ⟨i, out, k, hi, rfl, H⟩ := hrel
    by_cases hlt : i < bs.length
    · obtain ⟨a, ha, hct⟩ := (Hr.out.below (w' := wr) H.out.mid.below) i hlt
      subst ha
      have hdr : bs.drop i = bs[i] :: bs.drop (i + 1) := List.drop_eq_getElem_cons hlt
      rw [hdr] at H
      have Hk := H.out.fuel
      obtain ⟨k, rfl⟩ : ∃ j, k = j + 1 := ⟨k - 1, by simp at Hk; omega⟩
      simp only [vb] at hct
      generalize ht : bs[i] = t at *
      have ht0 := t.toNat_lt
      have Hsw := Lib.hid H.out.sw
      have hlen := H.out.len
      have hk2 : (bs.drop (i + 1)).length ≤ k := by simp at Hk; simp; omega
      have Hm := Lib.hid H.out.mid
      have hrl : (bs.drop (i + 1)).length = bs.length - (i + 1) := by simp
      clear H Hk hdr ht
      obtain ⟨i1, hi1⟩ : ∃ i1, i + 1 = i1 := ⟨_, rfl⟩
      rw [hi1] at Hsw hk2 hrl
      have hii : (i : Int) + 1 = (i1 : Int) := by omega
      clear hi1
      obtain ⟨Ao, co, hv, hro, hao, hco, _⟩ := Hm.out.own.form
      subst hv
      have hob : out.length ≤ 2000000 := by omega
      clear hro
      by_cases ht : t.toNat < 128
      · by_cases hsh : bs.length < i1 + t.toNat + 1
        · have hT : (7, []) = T := by rw [← Hsw.out, sw_lit_short _ _ _ _ _ ht (by omega)]
          subst hT
          go_wp2_with fail
          go_ret2
          exact ⟨_, rfl, OwnB.nil _ _ _, Hm.out.below⟩
        · go_wp2_with fail
          have hsw1 := sw_lit_long m (k + 1) t _ out ht (by omega : ¬ (bs.drop i1).length < t.toNat + 1)
          have hsw2 := sw_lit_go m (k + 1) t _ out ht (by omega : ¬ (bs.drop i1).length < t.toNat + 1)
          rw [List.drop_drop] at hsw2
          have Hsw1 := Lib.hid hsw1
          have Hsw2 := Lib.hid hsw2
          clear hsw1 hsw2 hct
          go_loopw [6, 7, 9] (fun v z y w2 => ∃ j : Nat, j ≤ t.toNat + 1 ∧ z = .int .i64 ((i1 : Int) + j) ∧ y = .int .i64 j ∧ Hid (Ref w v w2 (out ++ (bs.drop i1).take j))) (fun _ _ y _ => t.toNat + 1 - (intOf y).toNat)
          case atStart => exact ⟨0, by omega, by simp, rfl, by simpa using Hm⟩
          case round =>
            obtain ⟨j, hj, rfl, rfl, H⟩ := hrel
            obtain ⟨n, hn'⟩ : ∃ n, n = i1 + j := ⟨_, rfl⟩
            have hni : (i1 : Int) + (j : Int) = (n : Int) := by omega
            by_cases hjt : j < t.toNat + 1
            · have hnl : n < bs.length := by omega
              obtain ⟨a', ha', hcl⟩ := (Hr.out.below (w' := wr) H.out.below) n hnl
              cases ha'
              simp only [vb] at hcl
              have hstep : out ++ (bs.drop i1).take (j + 1) = (out ++ (bs.drop i1).take j) ++ [bs[n]] := by
                have hjl : j < (bs.drop i1).length := by omega
                rw [List.append_assoc, List.take_succ_eq_append_getElem hjl]
                subst hn'
                simp
              have hl2 : (out ++ (bs.drop i1).take j).length ≤ 3000000 := by simp; omega
              obtain ⟨A2, c2, hv, _, hl3, _, _⟩ := H.out.own.form
              subst hv
              obtain ⟨v3, W3, ha1, hm3⟩ := H.out.push bs[n] hl2
              rw [← hstep] at hm3
              have Hm3 := Lib.hid hm3
              have Ha1 := Lib.hid ha1
              clear ha1 hm3 hstep
              have hbl := bs[n].toNat_lt
              generalize bs[n] = b at *
              generalize hL : (out ++ (bs.drop i1).take j).length = L at *
              clear hL
              have Hn := Lib.hid hn'
              clear hn'
              go_wp2_with (at_builtin; go_must (refine wpList_append_run rfl (.tmp 39) (.tmp 44) 22 22 rfl rfl rfl Ha1.out ?_))
              exact ⟨⟨v3, .int .i64 ((i1 : Int) + ((j + 1 : Nat) : Int)), .int .i64 ((j + 1 : Nat) : Int), ⟨j + 1, by omega, rfl, rfl, Hm3⟩, rfl, by congr 1; omega, by go_num⟩, by simp [intOf]; omega⟩
            · obtain rfl : j = t.toNat + 1 := by omega
              have hol : (out ++ (bs.drop i1).take (t.toNat + 1)).length ≤ 3000000 := by simp; omega
              generalize out ++ (bs.drop i1).take (t.toNat + 1) = out2 at *
              have hob : out2.length ≤ 3000000 := by omega
              have Hn := Lib.hid hn'
              have hnl := Nat.le_of_eq hn'
              clear hn'
              by_cases hlong : m < (out2.length : Int)
              · have hT : (6, []) = T := by rw [← Hsw.out, Hsw1.out (by omega)]
                subst hT
                obtain ⟨A2, c2, hv, _⟩ := H.out.own.form
                subst hv
                go_wp2_with fail
                go_ret2
                exact ⟨_, rfl, OwnB.nil _ _ _, H.out.below⟩
              · obtain ⟨A2, c2, hv, _⟩ := H.out.own.form
                subst hv
                go_wp2_with fail
                refine ⟨⟨n, out2, k, by have := Hn.out; omega, by congr 1 <;> omega, Lib.hid ⟨H.out, ?_, ?_, ?_⟩⟩, by have := Hn.out; simp [intOf] <;> omega⟩
                · have hn' := Hn.out
                  subst hn'
                  rw [← Hsw.out, Hsw2.out (by omega)]
                · have := Hn.out; simp <;> omega
                · omega
      · by_cases hsh : bs.length < i1 + 2
        · have hT : (7, []) = T := by rw [← Hsw.out, sw_cp_short _ _ _ _ _ ht (by omega)]
          subst hT
          go_wp2_with fail
          go_ret2
          exact ⟨_, rfl, OwnB.nil _ _ _, Hm.out.below⟩
        · obtain ⟨a1, ha1, hc1⟩ := (Hr.out.below (w' := wr) Hm.out.below) (i1) (by omega)
          cases ha1
          obtain ⟨a1, ha1, hc2⟩ := (Hr.out.below (w' := wr) Hm.out.below) (i1 + 1) (by omega)
          cases ha1
          have hd : dist (bs.drop i1) = bs[i1].toNat + 256 * bs[i1 + 1].toNat + 1 := by simp [dist, List.getD, show i1 < bs.length by omega, show i1 + 1 < bs.length by omega]
          have hx0l := bs[i1].toNat_lt
          have hx1l := bs[i1 + 1].toNat_lt
          simp only [vb] at hc1 hc2
          have hc3 : wr.cell? ⟨a.block, a.off + (i1 + 1), none⟩ = some (.int .u8 (bs[i1 + 1].toNat : Int)) := by rw [← hc2]; simp [Addr.add]
          generalize bs[i1].toNat = x0 at *
          generalize bs[i1 + 1].toNat = x1 at *
          have hsh2 : ¬ (bs.drop i1).length < 2 := by omega
          have hsw0 := sw_cp_far m (k + 1) t _ out ht hsh2
          have hsw1 := sw_cp_long m (k + 1) t _ out ht hsh2
          have hsw2 := sw_cp_go m (k + 1) t _ out ht hsh2
          rw [hd] at hsw0 hsw1 hsw2
          rw [List.drop_drop] at hsw2
          obtain ⟨d, hdd⟩ : ∃ d, x0 + 256 * x1 + 1 = d := ⟨_, rfl⟩
          rw [hdd] at hsw0 hsw1 hsw2
          have Hsw0 := Lib.hid hsw0
          have Hsw1 := Lib.hid hsw1
          have Hsw2 := Lib.hid hsw2
          have hdi : (x0 : Int) + 256 * (x1 : Int) + 1 = (d : Int) := by omega
          clear hsw0 hsw1 hsw2 hd
          by_cases hfar : out.length < d
          · have hT : (7, []) = T := by rw [← Hsw.out, Hsw0.out (by omega)]
            subst hT
            go_wp2_with fail
            go_region
            go_wp2_with fail
            go_ret2
            exact ⟨_, rfl, OwnB.nil _ _ _, Hm.out.below.drew⟩
          · go_wp2_with fail
            go_region
            go_wp2_with fail
            clear hc1 hc2 hc3 hct
            go_loopw [6, 11] (fun v y w2 => ∃ j : Nat, j ≤ t.toNat - 125 ∧ y = .int .i64 j ∧ Hid (Ref w v w2 (cpyN out d j))) (fun _ y _ => t.toNat - 125 - (intOf y).toNat)
            case atStart => exact ⟨0, by omega, rfl, Lib.hid ⟨Hm.out.own.drew, Hm.out.below.drew⟩⟩
            case round =>
              obtain ⟨j, hj, rfl, H⟩ := hrel
              obtain ⟨A5, c5, hv, hr5, hc5, _, _⟩ := H.out.own.form
              subst hv
              have hl5 : (cpyN out d j).length = out.length + j := cpyN_len _ _ _
              have hstep : cpyN out d (j + 1) = cpyN out d j ++ [(cpyN out d j).getD ((cpyN out d j).length - d) 0] := rfl
              have Hstep := Lib.hid hstep
              clear hstep
              by_cases hlt : j < t.toNat - 125
              · have hl6 : (cpyN out d j).length ≤ 3000000 := by omega
                have hl7 : d ≤ (cpyN out d j).length := by omega
                have hd0 : 0 < d := by omega
                generalize cpyN out d j = L at *
                clear hl5
                obtain ⟨n, hn⟩ : ∃ n, L.length - d = n := ⟨_, rfl⟩
                have hni : (L.length : Int) - (d : Int) = (n : Int) := by omega
                have hnl : n < L.length := by omega
                rw [hn] at Hstep
                obtain ⟨ad5, h5, hcl⟩ := hr5 n hnl
                subst h5
                have hgd : L.getD n 0 = L[n] := by simp [List.getD, hnl]
                rw [hgd] at Hstep
                have hbl := L[n].toNat_lt
                obtain ⟨v3, W3, ha1, hm3⟩ := H.out.push L[n] hl6
                rw [← Hstep.out] at hm3
                have Hm3 := Lib.hid hm3
                have Ha1 := Lib.hid ha1
                simp only [vb] at hcl
                clear ha1 hm3 hr5
                generalize L[n] = b at *
                go_wp2_with (at_builtin; go_must (refine wpList_append_run rfl (.tmp 79) (.tmp 87) 22 22 rfl rfl rfl Ha1.out ?_))
                exact ⟨⟨j + 1, by omega, by go_num, Hm3⟩, by simp [intOf]; omega⟩
              · obtain rfl : j = t.toNat - 125 := by omega
                have hob : (cpyN out d (t.toNat - 125)).length ≤ 3000000 := by omega
                clear hl5
                generalize cpyN out d (t.toNat - 125) = out2 at *
                by_cases hlong : m < (out2.length : Int)
                · have hT : (6, []) = T := by rw [← Hsw.out, Hsw1.out (by omega) (by omega)]
                  subst hT
                  go_wp2_with fail
                  go_ret2
                  exact ⟨_, rfl, OwnB.nil _ _ _, H.out.below⟩
                · go_wp2_with fail
                  refine ⟨⟨i1 + 2, out2, k, by omega, by congr 1, Lib.hid ⟨H.out, ?_, ?_, ?_⟩⟩, by simp [intOf]; omega⟩
                  · rw [← Hsw2.out (by omega) (by omega)]; exact Hsw.out
                  · simp; omega
                  · omega
    · obtain rfl : i = bs.length := by omega
      have hT : T = (0, out) := by rw [← H.out.sw, List.drop_length]; rfl
      subst hT
      go_wp2_with fail
      go_ret2
      exact ⟨_, rfl, H.out.mid.own, H.out.mid.below⟩
theorem refSwell_neg (A : Option Addr) (n cap : Nat) (m : Int) (w : World) (h0 : m < 0) :
    Calls Tryd.prog 11 #[.slice A n cap, .int .i64 m] w fun e w' => e = .returned (.tuple #[.slice none 0 0, .int .i64 5]) ∧ w = w' := by
  go_enter Tryd.func11, Tryd.ntmps11
  go_wp2_with fail
  go_ret2
  exact ⟨rfl, rfl⟩
theorem refSwell_calls (A : Option Addr) (cap : Nat) (bs : List UInt8) (m : Int) (w : World) (hn : bs.length ≤ 140737488355328) (hr : Rd w A bs) (h1 : m ≤ 1048576) :
    Calls Tryd.prog 11 #[.slice A bs.length cap, .int .i64 m] w fun e w' => ∃ v, e = .returned (.tuple #[v, .int .i64 (swell bs m).1]) ∧ OwnB w' w.heap.size 5 v (swell bs m).2 ∧ Below w.heap.size w w' := by
  unfold swell
  split
  · rename_i h
    refine (refSwell_neg A bs.length cap m w h).mono ?_
    rintro e w' ⟨rfl, rfl⟩
    exact ⟨_, rfl, OwnB.nil _ _ _, Below.refl _ _⟩
  · exact refSwell_pos A cap bs m w hn hr (by omega) h1
end Go.Proofs.YtfogepoebihnoaaDoor
