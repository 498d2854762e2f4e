/- The walk of the law SpaceReads: it returns true and leaves what was there. Condition: the library's variable errors.errorType holds its handle; the text has at most 2^47 bytes, as the row asks. -/
import Derived.Test.YtgkamdgegfioiaaDoorSrp
import Derived.Test.YtgkamdgegfioiaaDoorPick
namespace Go.Proofs.YtgkamdgegfioiaaDoor
open Go.RowKit Go.Shelf
set_option linter.unusedSimpArgs false
set_option linter.unusedVariables false
set_option maxHeartbeats 8000000 in
set_option maxRecDepth 100000 in
theorem spaceReads_calls (xs : List UInt8) (m h : Int) (w : World) (hg : ErrH w) (hx : xs.length ≤ 140737488351232) (m1 : -9223372036854775808 ≤ m) (m2 : m ≤ 9223372036854775807) (h1 : -9223372036854775808 ≤ h) (h2 : h ≤ 9223372036854775807) :
    Calls Tryd.prog 3 #[.string ⟨xs.toArray⟩, .int .i64 m, .int .i64 h] w fun e w' => e = .returned (.bool true) ∧ Below w.heap.size w w' := by
  obtain ⟨W1, hW1⟩ : ∃ W1, convW w xs 5 = W1 := ⟨_, rfl⟩
  obtain ⟨N, hN⟩ : ∃ N, xs.length = N := ⟨_, rfl⟩
  obtain ⟨c0, hc0⟩ : ∃ c0, xs.length + spare w xs 5 = c0 := ⟨_, rfl⟩
  obtain ⟨H, hH⟩ : ∃ H, w.heap.size = H := ⟨_, rfl⟩
  have hc1 := run_bytes_of (P := Tryd.prog) w 9 22 5 xs Tryd.underlying9 Tryd.underlying22 Tryd.underlying5
  rw [hW1, hc0, hN, hH] at hc1
  have hb1 : Below w.heap.size w W1 := by rw [← hW1]; exact convW_below w (Below.refl _ _) (Nat.le_refl _) xs 5
  have hsz1 : W1.heap.size = w.heap.size + 1 := by rw [← hW1]; exact convW_size w xs 5
  have hr1 : Rd W1 (some ⟨H, 0, none⟩) xs := by rw [← hW1, ← hH]; exact convW_rd w xs 5
  have hN0 : N ≤ c0 := by omega
  have hg1 : ErrH W1 := hg.below hg.lt hb1
  rw [hN] at hx
  have HA := Lib.hid (And.intro hb1 (And.intro hsz1 (And.intro hr1 (And.intro hg1 (And.intro hN (And.intro hg hH))))))
  have hpk := Lib.hid (pick_calls h 3 W1 h1 h2 (by omega) (by omega))
  have hp3 : 0 ≤ h % 3 ∧ h % 3 < 3 := by omega
  obtain ⟨p3, hp3e⟩ : ∃ p3, h % 3 = p3 := ⟨_, rfl⟩
  rw [hp3e] at hpk hp3
  clear hp3e hb1 hsz1 hr1 hg1 hg hN hc0 hH hW1
  go_enter Tryd.func3, Tryd.ntmps3
  go_upto_region 2 with fail
  go_cut [24] from 15 (fun t wc => t = .bool (decide (0 < N) && decide (0 < p3)) ∧ wc = W1)
  case first =>
    by_cases hn : 0 < N
    · have hni : (0 : Int) < (N : Int) := by omega
      go_wp2_with fail
      refine (hpk.out).mono ?_
      rintro e w' ⟨rfl, rfl⟩
      go_wp2_with fail
      go_meet
      case rel => exact ⟨by simp [hn], rfl⟩
    · have hni : ¬ (0 : Int) < (N : Int) := by omega
      go_wp2_with fail
      go_meet
      case rel => exact ⟨by simp [hn], rfl⟩
  case rest =>
    obtain ⟨rfl, rfl⟩ := hcut
    clear hpk hc1
    generalize wc = V1 at *
    obtain ⟨b, hb⟩ : ∃ b, (decide (0 < N) && decide (0 < p3)) = b := ⟨_, rfl⟩
    rw [hb]
    go_upto_if 24 with fail
    go_cut [7] from 8 (fun t we => Hid (SrI w t we))
    case first =>
      cases b with
      | false =>
        have HR := Lib.hid (show SrI w (.slice (some ⟨H, 0, none⟩) N c0) V1 from ⟨_, xs, c0, by rw [HA.out.2.2.2.2.1], by rw [HA.out.2.2.2.2.1]; exact hN0, fun _ => ⟨_, rfl⟩, HA.out.2.2.1, by rw [HA.out.2.2.2.2.1]; exact hx, HA.out.1⟩)
        go_wp2_with fail
        go_meet
        case rel => exact HR
      | true =>
        have hp3p : 0 < N ∧ 0 < p3 := by simpa using hb
        have hpm := pick_calls m 100 V1 m1 m2 (by omega) (by omega)
        obtain ⟨nn, hnn⟩ : ∃ nn : Nat, m % 100 = (nn : Int) := ⟨(m % 100).toNat, by omega⟩
        have hn100 : nn < 100 := by omega
        rw [hnn] at hpm
        have hpm := Lib.hid hpm
        have hq := Lib.hid (spaceNew_calls nn V1 (by omega))
        clear hb hnn
        go_wp2_with fail
        refine (hpm.out).mono ?_
        rintro e w' ⟨rfl, hw'⟩
        subst hw'
        go_wp2_with fail
        refine (hq.out).mono ?_
        rintro e W2 ⟨R, rfl, hs, hb2⟩
        obtain ⟨b8, hb8⟩ : ∃ b8, W2.heap.size = b8 := ⟨_, rfl⟩
        obtain ⟨W3, hW3⟩ : ∃ W3, W2.alloc (.cells #[.pointer (some ⟨R, 0, none⟩)] 26) = W3 := ⟨_, rfl⟩
        have hs3 : Sp W3 V1.heap.size R (.slice none 0 0) nn [] := by rw [← hW3]; exact hs.below ((Below.refl _ _).alloc (Nat.le_refl _) _)
        have hx3 : Bx W3 b8 26 #[.pointer (some ⟨R, 0, none⟩)] := by rw [← hW3, ← hb8]; exact Bx.new _ _ _
        have hb3 : Below V1.heap.size V1 W3 := by rw [← hW3]; exact hb2.alloc hb2.size _
        have h0 := Lib.hid (show Sp W3 V1.heap.size R (.slice none 0 0) nn [] ∧ Bx W3 b8 26 #[.pointer (some ⟨R, 0, none⟩)] ∧ Below V1.heap.size V1 W3 from ⟨hs3, hx3, hb3⟩)
        have H8 := Lib.hid (show V1.heap.size ≤ b8 from by rw [← hb8]; exact hb2.size)
        clear hs3 hx3 hb3 hs hb2 hpm hq
        go_wp2_with fail
        try rw [hW3]
        try rw [hb8]
        clear hW3 hb8
        go_wp2_with fail
        go_loopw [10] (fun t wr => ∃ (i : Nat) (v : Value) (qs : List Pc), t = .int .i64 (i : Int) ∧ i ≤ N ∧ Hid (Sp wr V1.heap.size R v nn qs ∧ Bx wr b8 26 #[.pointer (some ⟨R, 0, none⟩)] ∧ Below V1.heap.size V1 wr)) (fun t _ => N - (intOf t).toNat)
        case atStart => exact ⟨0, _, _, rfl, by omega, h0⟩
        case round =>
          clear h0
          rename World => wr
          obtain ⟨i, v, qs, rfl, hi, G⟩ := hrel
          obtain ⟨hs, hx8, hbv⟩ := G.out
          have e8 : wr.cell? ⟨b8, 0, none⟩ = some (.pointer (some ⟨R, 0, none⟩)) := hx8.cell 0
          by_cases hlt : i < N
          · have hlti : (i : Int) < (N : Int) := by omega
            have d8 : wr.drew.cell? ⟨b8, 0, none⟩ = some (.pointer (some ⟨R, 0, none⟩)) := e8
            have hix : i < xs.length := by rw [HA.out.2.2.2.2.1]; exact hlt
            obtain ⟨ad, ea, hcell⟩ := (HA.out.2.2.1.below hbv) i hix
            cases ea
            obtain ⟨x, hxx⟩ : ∃ x : Nat, (xs[i]).toNat = x := ⟨_, rfl⟩
            have hx256 : x < 256 := by rw [← hxx]; exact (xs[i]).toNat_lt
            have hcell' : wr.cell? ((⟨H, 0, none⟩ : Addr).add i) = some (.int .u8 (x : Int)) := by rw [← hxx]; exact hcell
            have q0 : wr.cell? ⟨H, i, none⟩ = some (.int .u8 (x : Int)) := by rw [← hcell', addr_add0]
            have q1 : wr.drew.cell? ⟨H, i, none⟩ = some (.int .u8 (x : Int)) := q0
            have hT := pTake_calls wr.drew V1.heap.size R v nn qs (1 + x % 8) x (hs.below (Below.refl _ _).drew) hbv.size (by omega) (by omega) (by omega) (HA.out.2.2.2.1.below HA.out.2.2.2.1.lt hbv.drew) HA.out.2.2.2.1.lt
            rw [show ((1 + x % 8 : Nat) : Int) = 1 + (x : Int) % 8 from by omega] at hT
            have HT := Lib.hid (show Calls Tryd.prog 8 #[.agg #[.pointer (some ⟨R, 0, none⟩)], .int .i64 (1 + (x : Int) % 8), .int .u64 (x : Int)] wr.drew fun e w' => (∃ k c : Int, e = .returned (.tuple #[.int .i64 k, .int .i64 c])) ∧ Hid (∃ v' qs', Sp w' V1.heap.size R v' nn qs' ∧ Bx w' b8 26 #[.pointer (some ⟨R, 0, none⟩)] ∧ Below V1.heap.size V1 w') from hT.mono (fun e w' hp => by
              unfold PTakePost at hp
              have hxd : Bx wr.drew b8 26 #[.pointer (some ⟨R, 0, none⟩)] := hx8
              cases ho : insF nn (1 + x % 8) x 0 qs with
              | none =>
                rw [ho] at hp
                obtain ⟨rfl, hb⟩ := hp
                exact ⟨⟨_, _, rfl⟩, v, qs, (hs.below (Below.refl _ _).drew).below hb, hxd.below hb hxd.lt, hbv.drew.trans (hb.mono hbv.size)⟩
              | some kq =>
                obtain ⟨k, qs'⟩ := kq
                rw [ho] at hp
                obtain ⟨rfl, v', hsp, hcg, -⟩ := hp
                refine ⟨⟨_, _, rfl⟩, v', qs', hsp, (hcg.block b8 hxd.lt (fun e => ?_)).trans hxd, hbv.drew.trans (Chg.below (Below.refl _ _) hcg (fun k e => ?_) hbv.size)⟩
                · rcases e with e | e
                  · exact bx_ne hx8 hs.row (by decide) e
                  · obtain ⟨_, _, C, hC⟩ := hs.own.row b8 e
                    exact bx_ne hx8 hC (by decide) rfl
                · rcases e with e | e
                  · rw [e]; exact hs.hR
                  · exact (hs.own.row k e).1))
            have hHlt : H < V1.heap.size := by
              have a1 := HA.out.2.1
              have a2 := HA.out.2.2.2.2.2.2
              omega
            have hcellV : V1.cell? ⟨H, i, none⟩ = some (.int .u8 (x : Int)) := by
              obtain ⟨ad, ea, hcl⟩ := HA.out.2.2.1 i hix
              cases ea
              rw [addr_add0] at hcl
              rw [hcl, ← hxx]
              rfl
            have hwt : ((x : Int)).tmod 8 = (x : Int) % 8 := Int.tmod_eq_emod_of_nonneg (by omega)
            have hwa : IntKind.i64.wrap (1 + IntKind.i64.wrap (((x : Int)).tmod 8)) = 1 + (x : Int) % 8 := by
              obtain ⟨q, hq⟩ : ∃ q : Int, (x : Int) % 8 = q := ⟨_, rfl⟩
              have hq8 : 0 ≤ q ∧ q < 8 := by omega
              have a1 : IntKind.i64.wrap q = q := by
                rw [IntKind.wrap_i64, Int.emod_eq_of_lt (by omega) (by omega)]
                omega
              rw [hwt, hq, a1, IntKind.wrap_i64, Int.emod_eq_of_lt (by omega) (by omega)]
              omega
            have hwb : IntKind.u64.wrap (x : Int) = (x : Int) := by
              rw [IntKind.wrap_u64, Int.emod_eq_of_lt (by omega) (by omega)]
            have Hw := Lib.hid (And.intro hwa hwb)
            clear hT hcell hcell' hxx hix G hs hx8 hbv hwt hwa hwb
            go_upto_region 9 with fail
            refine wp_region_held (S := fun X => X.cell? ⟨b8, 0, none⟩ = some (.pointer (some ⟨R, 0, none⟩)) ∧ X.cell? ⟨H, i, none⟩ = some (.int .u8 (x : Int))) (by kernel_rfl) (show wpAnyH _ _ _ _ _ _ _ _ wr.drew from ?_)
            have hHeld : (fun X => X.cell? ⟨b8, 0, none⟩ = some (.pointer (some ⟨R, 0, none⟩)) ∧ X.cell? ⟨H, i, none⟩ = some (.int .u8 (x : Int))) wr.drew := ⟨d8, q1⟩
            refine wpAnyH_take (i := 0) (v := ?_) rfl (by kernel_rfl) (by kernel_rfl) (by kernel_rfl) (fun _ _ _ h => h) (Or.inl ⟨by kernel_rfl, ?_⟩) (by assumption) ?_
            rotate_left
            · rintro w ⟨z0, z1⟩; go_simp; (try with_reducible rfl)
            try simp only [Act.put, List.setIfInBounds_toArray, List.set_cons_zero, List.set_cons_succ]
            refine wpAnyH_take (i := 1) (v := ?_) rfl (by kernel_rfl) (by kernel_rfl) (by kernel_rfl) (fun _ _ _ h => h) (Or.inl ⟨by kernel_rfl, ?_⟩) (by assumption) ?_
            rotate_left
            · rintro w ⟨z0, z1⟩; go_simp; (try with_reducible rfl)
            try simp only [Act.put, List.setIfInBounds_toArray, List.set_cons_zero, List.set_cons_succ]
            refine wpAnyH_take (i := 2) (v := ?_) rfl (by kernel_rfl) (by kernel_rfl) (by kernel_rfl) (fun _ _ _ h => h) (Or.inl ⟨by kernel_rfl, ?_⟩) (by assumption) ?_
            rotate_left
            · rintro w ⟨z0, z1⟩; go_simp; (try with_reducible rfl)
            try simp only [Act.put, List.setIfInBounds_toArray, List.set_cons_zero, List.set_cons_succ]
            refine wpAnyH_take (i := 3) (v := ?_) rfl (by kernel_rfl) (by kernel_rfl) (by kernel_rfl) (fun _ _ _ h => h) (Or.inl ⟨by kernel_rfl, ?_⟩) (by assumption) ?_
            rotate_left
            · rintro w ⟨z0, z1⟩; go_simp; (try with_reducible rfl)
            try simp only [Act.put, List.setIfInBounds_toArray, List.set_cons_zero, List.set_cons_succ]
            refine wpAnyH_take (i := 4) (v := ?_) rfl (by kernel_rfl) (by kernel_rfl) (by kernel_rfl) (fun _ _ _ h => h) (Or.inl ⟨by kernel_rfl, ?_⟩) (by assumption) ?_
            rotate_left
            · rintro w ⟨z0, z1⟩; go_simp; (try with_reducible rfl)
            try simp only [Act.put, List.setIfInBounds_toArray, List.set_cons_zero, List.set_cons_succ]
            refine wpAnyH_take (i := 5) (v := ?_) rfl (by kernel_rfl) (by kernel_rfl) (by kernel_rfl) (fun _ _ _ h => h) (Or.inl ⟨by kernel_rfl, ?_⟩) (by assumption) ?_
            rotate_left
            · rintro w ⟨z0, z1⟩; go_simp; (try with_reducible rfl)
            try simp only [Act.put, List.setIfInBounds_toArray, List.set_cons_zero, List.set_cons_succ]
            refine wpAnyH_take (i := 6) (v := ?_) rfl (by kernel_rfl) (by kernel_rfl) (by kernel_rfl) (fun _ _ _ h => h) (Or.inl ⟨by kernel_rfl, ?_⟩) (by assumption) ?_
            rotate_left
            · rintro w ⟨z0, z1⟩; go_simp; (try with_reducible rfl)
            try simp only [Act.put, List.setIfInBounds_toArray, List.set_cons_zero, List.set_cons_succ]
            refine wpAnyH_take (i := 7) (v := ?_) rfl (by kernel_rfl) (by kernel_rfl) (by kernel_rfl) (fun _ _ _ h => h) (Or.inl ⟨by kernel_rfl, ?_⟩) (by assumption) ?_
            rotate_left
            · rintro w ⟨z0, z1⟩; go_simp; (try with_reducible rfl)
            try simp only [Act.put, List.setIfInBounds_toArray, List.set_cons_zero, List.set_cons_succ]
            refine wpAnyH_take (i := 8) (v := ?_) rfl (by kernel_rfl) (by kernel_rfl) (by kernel_rfl) (fun _ _ _ h => h) (Or.inl ⟨by kernel_rfl, ?_⟩) (by assumption) ?_
            rotate_left
            · rintro w ⟨z0, z1⟩; go_simp; (try with_reducible rfl)
            try simp only [Act.put, List.setIfInBounds_toArray, List.set_cons_zero, List.set_cons_succ]
            refine wpAnyH_take (i := 9) (v := ?_) rfl (by kernel_rfl) (by kernel_rfl) (by kernel_rfl) (fun _ _ _ h => h) (Or.inl ⟨by kernel_rfl, ?_⟩) (by assumption) ?_
            rotate_left
            · rintro w ⟨z0, z1⟩; go_simp; (try with_reducible rfl)
            try simp only [Act.put, List.setIfInBounds_toArray, List.set_cons_zero, List.set_cons_succ]
            refine wpAnyH_take (i := 10) (v := ?_) rfl (by kernel_rfl) (by kernel_rfl) (by kernel_rfl) (fun _ _ _ h => h) (Or.inl ⟨by kernel_rfl, ?_⟩) (by assumption) ?_
            rotate_left
            · rintro w ⟨z0, z1⟩; go_simp; (try with_reducible rfl)
            try simp only [Act.put, List.setIfInBounds_toArray, List.set_cons_zero, List.set_cons_succ]
            refine wpAnyH_take (i := 11) (v := ?_) rfl (by kernel_rfl) (by kernel_rfl) (by kernel_rfl) (fun _ _ _ h => h) (Or.inl ⟨by kernel_rfl, ?_⟩) (by assumption) ?_
            rotate_left
            · rintro w ⟨z0, z1⟩; go_simp; (try with_reducible rfl)
            try simp only [Act.put, List.setIfInBounds_toArray, List.set_cons_zero, List.set_cons_succ]
            refine wpAnyH_take (i := 12) (v := ?_) rfl (by kernel_rfl) (by kernel_rfl) (by kernel_rfl) (fun _ _ _ h => h) (Or.inl ⟨by kernel_rfl, ?_⟩) (by assumption) ?_
            rotate_left
            · rintro w ⟨z0, z1⟩; go_simp; (try with_reducible rfl)
            try simp only [Act.put, List.setIfInBounds_toArray, List.set_cons_zero, List.set_cons_succ]
            refine wpAnyH_ready (rs := [13]) (by kernel_rfl) (by simp) ?_
            refine AllReadyH.cons rfl (fun K hK => ?_) AllReadyH.nil
            go_simp
            rw [Hw.out.1, Hw.out.2]
            refine (HT.out).mono ?_
            rintro e w' ⟨⟨k, c, rfl⟩, HTT⟩
            obtain ⟨v', qs', HG⟩ := HTT.out
            refine hK.out _ _ ⟨HG.2.1.cell 0, (HG.2.2.cell (p := ⟨H, i, none⟩) hHlt).trans hcellV⟩ (fun hHeld2 => ?_)
            clear hK K
            try simp only [Act.put, List.setIfInBounds_toArray, List.set_cons_zero, List.set_cons_succ]
            refine wpAnyH_done (by kernel_rfl) ?_ _
            have HG' := Lib.hid HG
            clear HG hHeld hHeld2
            go_wp2_with fail
            exact ⟨⟨i + 1, v', qs', by go_num, by omega, HG'⟩, by simp [intOf]; omega⟩
          · obtain rfl : i = N := by omega
            have hB := Lib.hid (pBytes_calls wr V1.heap.size R nn v qs hs)
            have hlen := bytesS_len nn qs
            have hlv := (live_wf hs.wf).len
            have Hbv := Lib.hid hbv
            clear G hs hx8 hbv
            obtain ⟨L, hL⟩ : ∃ L, (bytesS nn qs).length = L := ⟨_, rfl⟩
            rw [hL] at hlen
            have hL4 : 4 ≤ L := by omega
            have hLm : L ≤ 1000000 := by omega
            clear hlen hlv
            go_wp2_with fail
            refine (hB.out).mono ?_
            rintro e W5 ⟨vv, rfl, ho, hb5⟩
            have hpk2 := pick_calls m L W5 m1 m2 (by omega) (by omega)
            have hk0 : 0 ≤ m % (L : Int) := Int.emod_nonneg _ (by omega)
            have hk1 : m % (L : Int) < (L : Int) := Int.emod_lt_of_pos _ (by omega)
            obtain ⟨k, hk⟩ : ∃ k : Nat, m % (L : Int) = (k : Int) := ⟨(m % (L : Int)).toNat, by omega⟩
            rw [hk] at hpk2 hk1
            have hkL : k < L := by omega
            obtain ⟨y, hy⟩ : ∃ y : UInt8, IntKind.u8.wrap h = (y.toNat : Int) := ⟨UInt8.ofNat (h % 256).toNat, by
              rw [IntKind.wrap_u8, show (UInt8.ofNat (h % 256).toNat).toNat = (h % 256).toNat % 256 from by simp]
              omega⟩
            obtain ⟨g, cc, rfl, hcc, hcm, hBg, hfr, ⟨u, hu⟩, hrd⟩ := own_hit ho (by omega) k (by omega) y
            rw [hL] at hcc ⊢
            have HR := Lib.hid (show SrI w (.slice (some ⟨g, 0, none⟩) L cc) (W5.setCell ⟨g, k, none⟩ (.int .u8 (y.toNat : Int))) from
              ⟨_, (bytesS nn qs).set k y, cc, by rw [List.length_set, hL], by rw [List.length_set, hL]; exact hcc, fun _ => ⟨g, rfl⟩, hrd, by rw [List.length_set, hL]; omega,
                (HA.out.1.trans ((Hbv.out.trans (hb5.mono Hbv.out.size)).mono HA.out.1.size)).setCell (by have := HA.out.1.size; have := Hbv.out.size; show w.heap.size ≤ g; omega) _⟩)
            have hpk2 := Lib.hid hpk2
            have hL0 : ((L : Int) == 0) = false := by simp only [beq_eq_false_iff_ne]; omega
            have hL1 : ¬ (L : Int) = 0 := by omega
            have hkl : (k : Int) < (L : Int) := by omega
            unfold maxLen at hcm
            clear hB ho hb5 hrd hk hk0
            go_wp2_with fail
            refine (hpk2.out).mono ?_
            rintro e w' ⟨rfl, hw'⟩
            subst hw'
            go_wp2_with fail
            go_meet
            case rel => exact HR
    case rest =>
      obtain ⟨A, bs, c, rfl, hc, hA, hr, hl, hb2⟩ := hcut.out
      have hgd : ErrH wc := HA.out.2.2.2.2.2.1.below HA.out.2.2.2.2.2.1.lt hb2
      have hq := pLoad_calls wc A c bs hA hc hr hl hgd
      obtain ⟨L, hL⟩ : ∃ L, bs.length = L := ⟨_, rfl⟩
      rw [hL] at hq ⊢
      unfold PLoadPost at hq
      obtain ⟨o, ho⟩ : ∃ o, loadS bs = o := ⟨_, rfl⟩
      rw [ho] at hq
      have Hb2 := Lib.hid hb2
      have Ho := Lib.hid ho
      clear hA hr hL hb2 hgd ho hcut
      cases o with
      | none =>
        have Hq := Lib.hid hq
        clear hq
        go_wp2_with fail
        refine (Hq.out).mono ?_
        rintro e W2 ⟨rfl, hb3⟩
        have Hb3 := Lib.hid (Hb2.out.trans (hb3.mono Hb2.out.size))
        clear hb3 Hq
        go_wp2_with fail
        go_ret
        exact ⟨rfl, Hb3.out.alloc Hb3.out.size _⟩
      | some rp =>
        obtain ⟨r, ps⟩ := rp
        have Hq := Lib.hid hq
        clear hq
        go_wp2_with fail
        refine (Hq.out).mono ?_
        rintro e W2 ⟨R, v, rfl, hs, hb3⟩
        obtain ⟨hwf, hr30, hcn⟩ := loadS_wf Ho.out
        have hh0 := heldS_zero ps (fun p hp => (hcn p hp).1)
        have hsum := sums_le hwf
        rw [hh0] at hsum
        obtain ⟨W3, hW3⟩ : ∃ W3, W2.alloc (.cells #[.pointer (some ⟨R, 0, none⟩)] 26) = W3 := ⟨_, rfl⟩
        have hs3 : Sp W3 wc.heap.size R v r ps := by rw [← hW3]; exact hs.below ((Below.refl _ _).alloc (Nat.le_refl _) _)
        have hx3 : Bx W3 W2.heap.size 26 #[.pointer (some ⟨R, 0, none⟩)] := by rw [← hW3]; exact Bx.new _ _ _
        have hb3' := Hb2.out.trans (hb3.mono Hb2.out.size)
        have Hb3 := Lib.hid (show Below w.heap.size w W3 from by rw [← hW3]; exact hb3'.alloc hb3'.size _)
        have hq2 := pRows_calls W3 wc.heap.size R v r ps hs3
        rw [hh0] at hq2
        obtain ⟨u, hu⟩ : ∃ u, usedS ps = u := ⟨_, rfl⟩
        rw [hu] at hq2 hsum
        obtain ⟨f, hf⟩ : ∃ f, r - u - 0 = f := ⟨_, rfl⟩
        rw [hf] at hq2
        rw [show ((0 : Nat) : Int) = 0 from rfl] at hq2
        have hq2 := Lib.hid hq2
        have hs1 : (u : Int) + (0 : Int) + (f : Int) = (r : Int) := by omega
        have hs2 : (u : Int) + (f : Int) = (r : Int) := by omega
        have hu2 : u ≤ r := by omega
        have hf2 : f ≤ r := by omega
        obtain ⟨b11, hb11⟩ : ∃ b11, W2.heap.size = b11 := ⟨_, rfl⟩
        rw [hb11] at hx3
        have e3 : W3.cell? ⟨b11, 0, none⟩ = some (.pointer (some ⟨R, 0, none⟩)) := hx3.cell 0
        have HS3 := Lib.hid (And.intro hs3 hx3)
        clear hs hb3 hwf hcn hh0 hsum hs3 hx3 hb3' hu hf Hq
        go_wp2_with fail
        try rw [hW3]
        try rw [hb11]
        clear hW3 hb11
        go_wp2_with fail
        refine (hq2.out).mono ?_
        rintro e W4 ⟨rfl, hb4⟩
        have Hb4 := Lib.hid hb4
        have e4 : (W4.alloc (.cells #[.int .i64 (u : Int), .int .i64 0, .int .i64 (f : Int)] 36)).cell? ⟨b11, 0, none⟩ = some (.pointer (some ⟨R, 0, none⟩)) := ((HS3.out.2.below hb4 HS3.out.2.lt).alloc _).cell 0
        have hb5 := hb4.alloc hb4.size (.cells #[.int .i64 (u : Int), .int .i64 0, .int .i64 (f : Int)] 36)
        have hq5 := Lib.hid (sound_calls _ wc.heap.size R r v ps (HS3.out.1.below hb5))
        have Hb5 := Lib.hid (Hb3.out.trans (hb5.mono Hb3.out.size))
        have hr0 : (0 : Int) ≤ (r : Int) := by omega
        have hr3 : (r : Int) ≤ 1073741824 := by omega
        clear hb4 hq2 e3 hb5
        go_wp2_with fail
        refine (hq5.out).mono ?_
        rintro e W6 ⟨rfl, hb6⟩
        have Hb6 := Lib.hid (Hb5.out.trans (hb6.mono Hb5.out.size))
        clear hb6 hq5
        go_wp2_with fail
        go_ret
        exact ⟨rfl, Hb6.out⟩
theorem spaceReads_walk (a0 : ByteArray) (a1 a2 : Int) (w : World) (w0 : a0.size ≤ 140737488351232) (w1 : (Lit.int .i64 a1).wf = true) (w2 : (Lit.int .i64 a2).wf = true) (hL : w.cell? ⟨0, 0, none⟩ = some (.iface 139 (.agg #[.pointer (some ⟨1, 62, none⟩)]))) :
    Calls Tryd.prog 3 #[.string a0, .int .i64 a1, .int .i64 a2] w fun e w' => e = .returned (.bool true) ∧ Below w.heap.size w w' := by
  obtain ⟨⟨xs⟩⟩ := a0
  have h1 : -9223372036854775808 ≤ a1 ∧ a1 ≤ 9223372036854775807 := by
    have := w1
    simp [Lit.wf, IntKind.min, IntKind.max, IntKind.signed, IntKind.bits] at this
    exact this
  have h2 : -9223372036854775808 ≤ a2 ∧ a2 ≤ 9223372036854775807 := by
    have := w2
    simp [Lit.wf, IntKind.min, IntKind.max, IntKind.signed, IntKind.bits] at this
    exact this
  exact spaceReads_calls xs a1 a2 w hL w0 h1.1 h1.2 h2.1 h2.2
end Go.Proofs.YtgkamdgegfioiaaDoor
