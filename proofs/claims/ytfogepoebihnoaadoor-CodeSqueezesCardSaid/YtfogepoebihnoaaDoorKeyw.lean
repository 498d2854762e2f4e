/- The walks of code.addNumber, code.addText and code.Key. -/
import Derived.Test.YtfogepoebihnoaaDoorOwn
import Derived.Test.YtfogepoebihnoaaDoorTake
import Derived.Test.YtfogepoebihnoaaDoorKeyp
import Derived.Test.YtfogepoebihnoaaDoorTell
namespace Go.Proofs.YtfogepoebihnoaaDoor
open Go.RowKit
set_option linter.unusedSimpArgs false
set_option linter.unusedVariables false
theorem own_push {w : World} {B : Nat} {v : Value} {out : List UInt8} (h : OwnB w B 5 v out) (hB : B ≤ w.heap.size) (b : UInt8) (hl : out.length ≤ 3000000) :
    ∃ v' W', (Builtin.append_ #[22, 22] 22 #[v, .slice (some ⟨w.heap.size, 0, none⟩) 1 1]).run Tryd.prog (w.alloc (.cells #[.int .u8 (b.toNat : Int)] 5)) = .ok v' W' ∧ OwnB W' B 5 v' (out ++ [b]) ∧ Below B w W' := by
  obtain ⟨i5, hi, hz0, hz1, hz2⟩ := info_parts info5
  obtain ⟨v3, W3, ha1, ha2, ha3, _⟩ := own_append (P := Tryd.prog) (w.alloc (.cells #[.int .u8 (b.toNat : Int)] 5)) 22 22 5 i5 Tryd.underlying22 hi hz0 hz1 hz2 B _ out (h.alloc _) (by simp; omega) (some ⟨w.heap.size, 0, none⟩) 1 [b] (one_rd w b _) (by simp; omega)
  exact ⟨v3, W3, ha1, ha2, ((Below.refl _ _).alloc hB _).trans ha3⟩
theorem own_push2 {w : World} {B : Nat} {v : Value} {out : List UInt8} (h : OwnB w B 5 v out) (hB : B ≤ w.heap.size) (b c : UInt8) (hl : out.length ≤ 3000000) :
    ∃ v' W', (Builtin.append_ #[22, 22] 22 #[v, .slice (some ⟨w.heap.size, 0, none⟩) 2 2]).run Tryd.prog (w.alloc (.cells #[.int .u8 (b.toNat : Int), .int .u8 (c.toNat : Int)] 5)) = .ok v' W' ∧ OwnB W' B 5 v' (out ++ [b, c]) ∧ Below B w W' := by
  obtain ⟨i5, hi, hz0, hz1, hz2⟩ := info_parts info5
  obtain ⟨v3, W3, ha1, ha2, ha3, _⟩ := own_append (P := Tryd.prog) (w.alloc (.cells #[.int .u8 (b.toNat : Int), .int .u8 (c.toNat : Int)] 5)) 22 22 5 i5 Tryd.underlying22 hi hz0 hz1 hz2 B _ out (h.alloc _) (by simp; omega) (some ⟨w.heap.size, 0, none⟩) 2 [b, c] (Rd.block (L := [b, c]) (fr := (0, 0)) (heap_alloc_new w _) ⟨[], rfl⟩) (by simp; omega)
  exact ⟨v3, W3, ha1, ha2, ((Below.refl _ _).alloc hB _).trans ha3⟩
set_option maxRecDepth 100000 in
theorem addNumber_calls (v : Value) (out : List UInt8) (n B : Nat) (w : World) (ho : OwnB w B 5 v out) (hB : B ≤ w.heap.size) (hn : n < 256 ^ 8) (hl : out.length ≤ 1000000) :
    Calls Tryd.prog 28 #[v, .int .u64 (n : Int)] w fun e w' => ∃ v', e = .returned v' ∧ OwnB w' B 5 v' (out ++ numB n) ∧ Below B w w' := by
  obtain ⟨i5, hi, hz0, hz1, hz2⟩ := info_parts info5
  have hn8 : (n : Int) ≤ 18446744073709551615 := by omega
  have hnb := nb_le 8 n hn
  have Ho := Lib.hid ho
  clear ho
  go_enter Tryd.func28, Tryd.ntmps28
  go_wp2_with fail
  go_loop [5, 6] (fun s x => ∃ k m : Nat, s = .int .i64 k ∧ x = .int .u64 m ∧ m ≤ n ∧ Hid (k + nb m = nb n)) (fun _ x => (intOf x).toNat)
  case atStart => exact ⟨0, n, rfl, rfl, Nat.le_refl _, Lib.hid (by simp)⟩
  case round =>
    obtain ⟨k, m, rfl, rfl, hmn, H⟩ := hrel
    by_cases hm : 0 < m
    · have hk : k ≤ 8 := by have := H.out; omega
      go_wp2_with fail
      refine ⟨⟨k + 1, m / 256, by go_num, by go_num, by omega, ?_⟩, by simp [intOf]; omega⟩
      exact Lib.hid (by have := H.out; rw [nb_pos m (by omega)] at this; omega)
    · obtain rfl : m = 0 := by omega
      have hk : k = nb n := by have := H.out; rw [nb_zero] at this; omega
      have hnum : out ++ numB n = (out ++ [UInt8.ofNat (16 + nb n)]) ++ be n k := by rw [hk]; simp [numB]
      rw [← hk] at hnum
      have hb16 : (16 : Int) + (k : Int) = ((UInt8.ofNat (16 + k)).toNat : Int) := by
        rw [UInt8.toNat_ofNat', Nat.mod_eq_of_lt (by omega)]; omega
      have hkk : k ≤ 8 := by omega
      obtain ⟨A0, c0, hv0, _, hc0, _, _⟩ := Ho.out.form
      subst hv0
      obtain ⟨v3, W3, ha1, ha2, ha3⟩ := own_push Ho.out hB (UInt8.ofNat (16 + k)) (by omega)
      have hol : (out ++ [UInt8.ofNat (16 + k)]).length ≤ 1000001 := by simp; omega
      generalize UInt8.ofNat (16 + k) = b16 at *
      generalize out ++ [b16] = out1 at *
      have Ha1 := Lib.hid ha1
      have hq := Lib.hid (⟨ha2, ha3, hnum.symm, by omega⟩ : OwnB W3 B 5 v3 out1 ∧ Below B w W3 ∧ out1 ++ be n k = out ++ numB n ∧ out1.length + k ≤ 1000010)
      clear H hk hnum hnb ha1 ha2 ha3 hol
      have hbl := b16.toNat_lt
      go_wp2_with (at_builtin; go_must (refine wpList_append_run rfl (.tmp 15) (.tmp 19) 22 22 rfl rfl rfl Ha1.out ?_))
      go_loopw [0, 7] (fun v i wr => ∃ (j : Nat) (out' : List UInt8), j ≤ 8 ∧ i = .int .i64 ((j : Int) - 1) ∧ Hid (OwnB wr B 5 v out' ∧ Below B w wr ∧ out' ++ be n j = out ++ numB n ∧ out'.length + j ≤ 1000010)) (fun _ i _ => (intOf i + 1).toNat)
      case atStart => exact ⟨k, out1, by omega, rfl, hq⟩
      case round =>
        obtain ⟨j, out', hj, rfl, H⟩ := hrel
        obtain ⟨A1, c1, hv1, _, hc1, _, _⟩ := H.out.1.form
        subst hv1
        cases j with
        | zero =>
          go_wp2_with fail
          go_ret
          have h := H.out
          exact ⟨_, rfl, by rw [← h.2.2.1]; simpa [be] using h.1, h.2.1⟩
        | succ j =>
          have hjj : ((j + 1 : Nat) : Int) - 1 = (j : Int) := by omega
          have hjl : out'.length ≤ 1000010 := by have := H.out.2.2.2; omega
          rw [hjj]
          have hbj : (n : Int) / 2 ^ (8 * j) % 256 = ((UInt8.ofNat (n / 256 ^ j)).toNat : Int) := by
            rw [UInt8.toNat_ofNat', show (256 : Nat) ^ j = 2 ^ (8 * j) by rw [Nat.pow_mul]]
            norm_cast
          have hbe : out' ++ be n (j + 1) = (out' ++ [UInt8.ofNat (n / 256 ^ j)]) ++ be n j := by simp [be]
          have hol2 : (out' ++ [UInt8.ofNat (n / 256 ^ j)]).length = out'.length + 1 := by simp
          obtain ⟨v4, W4, ha1, ha2, ha3⟩ := own_push H.out.1 (by have := H.out.2.1.size; omega) (UInt8.ofNat (n / 256 ^ j)) (by omega)
          generalize UInt8.ofNat (n / 256 ^ j) = b at *
          generalize out' ++ [b] = out2 at *
          have Ha2 := Lib.hid ha1
          have hq2 := Lib.hid (⟨ha2, H.out.2.1.trans ha3, by rw [← hbe]; exact H.out.2.2.1, by have := H.out.2.2.2; omega⟩ : OwnB W4 B 5 v4 out2 ∧ Below B w W4 ∧ out2 ++ be n j = out ++ numB n ∧ out2.length + j ≤ 1000010)
          clear hbe hol2 ha1 ha2 ha3
          go_wp2_with (at_builtin; go_must (refine wpList_append_run rfl (.tmp 27) (.tmp 33) 22 22 rfl rfl rfl Ha2.out ?_))
          exact ⟨⟨j, out2, by omega, rfl, hq2⟩, by simp [intOf]⟩
set_option maxRecDepth 100000 in
theorem addText_calls (v : Value) (out s : List UInt8) (B : Nat) (w : World) (ho : OwnB w B 5 v out) (hB : B ≤ w.heap.size) (hs : s.length ≤ 60) (hl : out.length ≤ 1000000) :
    Calls Tryd.prog 29 #[v, .string ⟨s.toArray⟩] w fun e w' => ∃ v', e = .returned v' ∧ OwnB w' B 5 v' (out ++ txtB s) ∧ Below B w w' := by
  obtain ⟨i5, hi, hz0, hz1, hz2⟩ := info_parts info5
  obtain ⟨A0, c0, hv0, _, hc0, _, _⟩ := ho.form
  subst hv0
  obtain ⟨v3, W3, ha1, ha2, ha3⟩ := own_push ho hB 32 (by omega)
  have hlen : (⟨s.toArray⟩ : ByteArray).size = s.length := rfl
  have hol : (out ++ [(32 : UInt8)]).length = out.length + 1 := by simp
  have hq := Lib.hid (⟨ha2, ha3, by simp [esc], by omega⟩ : OwnB W3 B 5 v3 (out ++ [32]) ∧ Below B w W3 ∧ out ++ [32] = out ++ 32 :: esc (s.take 0) ∧ (out ++ [(32 : UInt8)]).length ≤ 1000001 + 2 * 0)
  have Ha1 := Lib.hid (show (Builtin.append_ #[22, 22] 22 #[.slice A0 out.length c0, .slice (some ⟨w.heap.size, 0, none⟩) 1 1]).run Tryd.prog (w.alloc (.cells #[.int .u8 32] 5)) = .ok v3 W3 from ha1)
  clear ha1 ha2 ha3 ho hol
  go_enter Tryd.func29, Tryd.ntmps29
  go_wp2_with (at_builtin; go_must (refine wpList_append_run rfl (.tmp 6) (.tmp 7) 22 22 rfl rfl rfl Ha1.out ?_))
  go_loopw [0, 11] (fun v i wr => ∃ (k : Nat) (out' : List UInt8), k ≤ s.length ∧ i = .int .i64 k ∧ Hid (OwnB wr B 5 v out' ∧ Below B w wr ∧ out' = out ++ 32 :: esc (s.take k) ∧ out'.length ≤ 1000001 + 2 * k)) (fun _ i _ => s.length - (intOf i).toNat)
  case atStart => exact ⟨0, _, by omega, rfl, hq⟩
  case round =>
    obtain ⟨k, out', hk, rfl, H⟩ := hrel
    obtain ⟨A1, c1, hv1, _, hc1, _, _⟩ := H.out.1.form
    subst hv1
    have hl1 : out'.length ≤ 1000200 := by have := H.out.2.2.2; omega
    by_cases hlt : k < s.length
    · have hidx : (⟨s.toArray⟩ : ByteArray)[k]'(by rw [hlen]; exact hlt) = s[k] := rfl
      have hst := esc_append (s.take k) [s[k]]
      rw [← List.take_succ_eq_append_getElem hlt] at hst
      obtain ⟨v4, W4, ha1, ha2, ha3⟩ := own_push H.out.1 (by have := H.out.2.1.size; omega) s[k] (by omega)
      have Ha2 := Lib.hid ha1
      generalize hb : s[k] = b at *
      have hbl := b.toNat_lt
      have hout2 : (out' ++ [b]).length = out'.length + 1 := by simp
      obtain ⟨A2, c2, hv2, _, hc2, _, _⟩ := ha2.form
      subst hv2
      obtain ⟨v5, W5, ha4, ha5, ha6⟩ := own_push ha2 (by have := H.out.2.1.size; have := ha3.size; omega) 255 (by omega)
      have hout3 : (out' ++ [b] ++ [255]).length = out'.length + 2 := by simp
      have hlk : out'.length ≤ 1000001 + 2 * k := H.out.2.2.2
      have hl4 : (out' ++ [b]).length ≤ 1000001 + 2 * (k + 1) := by omega
      have hl5 : (out' ++ [b] ++ [255]).length ≤ 1000001 + 2 * (k + 1) := by omega
      have hB4 := H.out.2.1.trans ha3
      have hB5 := hB4.trans ha6
      have he4 : ¬ b = 0 → out' ++ [b] = out ++ 32 :: esc (s.take (k + 1)) := fun h0 => by rw [hst, H.out.2.2.1]; simp [esc, h0]
      have he5 : b = 0 → out' ++ [b] ++ [255] = out ++ 32 :: esc (s.take (k + 1)) := fun h0 => by rw [hst, H.out.2.2.1]; simp [esc, h0]
      have hq2 := Lib.hid (And.intro ha2 (And.intro hB4 (And.intro he4 hl4)))
      have hq3 := Lib.hid (And.intro ha5 (And.intro hB5 (And.intro he5 hl5)))
      have Ha4 := Lib.hid (show (Builtin.append_ #[22, 22] 22 #[.slice A2 (out' ++ [b]).length c2, .slice (some ⟨W4.heap.size, 0, none⟩) 1 1]).run Tryd.prog (W4.alloc (.cells #[.int .u8 255] 5)) = .ok v5 W5 from ha4)
      clear ha1 ha2 ha3 ha4 ha5 ha6 hst hout3 hl4 hl5 hB4 hB5 he4 he5 hlk
      have hl6 : (out' ++ [b]).length ≤ 1000300 := by omega
      clear hout2
      generalize out' ++ [b] = out2 at *
      by_cases h0 : b = 0
      · subst h0
        have Ha3 := Lib.hid (show (Builtin.append_ #[22, 22] 22 #[.slice A1 out'.length c1, .slice (some ⟨wr.heap.size, 0, none⟩) 1 1]).run Tryd.prog (wr.alloc (.cells #[.int .u8 0] 5)) = .ok _ W4 from Ha2.out)
        clear Ha2
        go_wp2_with (at_builtin; go_must (first | refine wpList_append_run rfl (.tmp 14) (.tmp 18) 22 22 rfl rfl rfl (by exact Ha3.out) ?_ | refine wpList_append_run rfl (.tmp 24) (.tmp 25) 22 22 rfl rfl rfl (by exact Ha4.out) ?_))
        exact ⟨⟨k + 1, _, by omega, by go_num, Lib.hid ⟨hq3.out.1, hq3.out.2.1, hq3.out.2.2.1 rfl, hq3.out.2.2.2⟩⟩, by simp [intOf]; omega⟩
      · have h0b : (b == 0) = false := by simpa using h0
        have h0n : ¬ (b.toNat : Int) = 0 := by
          intro h
          exact h0 (UInt8.toNat_inj.1 (by simpa using h))
        go_wp2_with (at_builtin; go_must (refine wpList_append_run rfl (.tmp 14) (.tmp 18) 22 22 rfl rfl rfl Ha2.out ?_))
        exact ⟨⟨k + 1, _, by omega, by go_num, Lib.hid ⟨hq2.out.1, hq2.out.2.1, hq2.out.2.2.1 h0, hq2.out.2.2.2⟩⟩, by simp [intOf]; omega⟩
    · obtain rfl : k = s.length := by omega
      obtain ⟨v4, W4, ha1, ha2, ha3⟩ := own_push2 H.out.1 (by have := H.out.2.1.size; omega) 0 1 (by omega)
      have Ha2 := Lib.hid (show (Builtin.append_ #[22, 22] 22 #[.slice A1 out'.length c1, .slice (some ⟨wr.heap.size, 0, none⟩) 2 2]).run Tryd.prog (wr.alloc (.cells #[.int .u8 0, .int .u8 1] 5)) = .ok v4 W4 from ha1)
      have he : out' ++ [0, 1] = out ++ txtB s := by rw [H.out.2.2.1, List.take_length]; simp [txtB]
      have hB4 := H.out.2.1.trans ha3
      rw [he] at ha2
      have hq4 := Lib.hid (And.intro ha2 hB4)
      clear ha1 ha2 ha3 he hB4
      go_wp2_with (at_builtin; go_must (refine wpList_append_run rfl (.tmp 28) (.tmp 29) 22 22 rfl rfl rfl Ha2.out ?_))
      go_ret
      exact ⟨_, rfl, hq4.out.1, hq4.out.2⟩
/-- the cells of a list of parts -/
def pVals : List PartD → List Value
  | [] => []
  | p :: r => .int .i64 p.kind :: .int .u64 (p.num : Int) :: .string ⟨p.text.toArray⟩ :: pVals r
/-- a part lies at an address -/
structure PartAt (w : World) (a : Addr) (p : PartD) : Prop where
  kind : w.cell? a = some (.int .i64 p.kind)
  num : w.cell? ⟨a.block, a.off + 1, none⟩ = some (.int .u64 (p.num : Int))
  text : w.cell? ⟨a.block, a.off + 2, none⟩ = some (.string ⟨p.text.toArray⟩)
theorem PartAt.below {w w' : World} {a : Addr} {p : PartD} (h : PartAt w a p) (hb : Below w.heap.size w w') : PartAt w' a p := by
  have hlt := World.block_lt_of_cell? w _ h.kind
  exact ⟨(hb.cell (p := a) hlt).trans h.kind, (hb.cell (p := ⟨a.block, a.off + 1, none⟩) hlt).trans h.num, (hb.cell (p := ⟨a.block, a.off + 2, none⟩) hlt).trans h.text⟩
/-- the slice reads as the parts -/
def RdP (w : World) (A : Option Addr) (l : List PartD) : Prop := ∀ j (hj : j < l.length), ∃ ad, A = some ad ∧ PartAt w (ad.add (j * 3)) l[j]
theorem RdP.below {w w' : World} {A : Option Addr} {l : List PartD} (h : RdP w A l) (hb : Below w.heap.size w w') : RdP w' A l := fun j hj => by
  obtain ⟨ad, rfl, h1⟩ := h j hj
  exact ⟨ad, rfl, h1.below hb⟩
theorem info51 : (Tryd.prog.info? 51).map (·.size) = some 3 := by kernel_rfl
set_option maxHeartbeats 1000000 in
set_option maxRecDepth 100000 in
theorem key_few (A : Option Addr) (c : Nat) (l : List PartD) (w : World) (hr : RdP w A l) (hl : l.length ≤ 8) (hnum : ∀ p ∈ l, p.num < 256 ^ 8) :
    Calls Tryd.prog 23 #[.slice A l.length c] w fun e w' => ∃ v, e = .returned (.tuple #[v, errV (keyL [] l).1]) ∧ OwnB w' w.heap.size 5 v (keyL [] l).2 ∧ Below w.heap.size w w' := by
  obtain ⟨iP, hiP⟩ : ∃ i, Tryd.prog.info? 51 = some i := by
    have h := info51
    cases h' : Tryd.prog.info? 51 with
    | none => rw [h'] at h; cases h
    | some i => exact ⟨i, rfl⟩
  have hsz : iP.size = 3 := by have h := info51; rw [hiP] at h; simpa using h
  generalize hT : keyL [] l = T
  have hq0 := Lib.hid (And.intro (OwnB.nil w w.heap.size 5) (And.intro (Below.refl w.heap.size w) (show keyL [] (l.drop 0) = T from hT)))
  have Hr := Lib.hid hr
  have Hnum := Lib.hid hnum
  clear hT hr hnum
  go_enter Tryd.func23, Tryd.ntmps23
  go_wp2_with fail
  go_loopw [4, 13] (fun v i wr => ∃ (k : Nat) (out : List UInt8), k ≤ l.length ∧ out.length ≤ 1000 * k ∧ i = .int .i64 k ∧ Hid (OwnB wr w.heap.size 5 v out ∧ Below w.heap.size w wr ∧ keyL out (l.drop k) = T)) (fun _ i _ => l.length - (intOf i).toNat)
  case atStart => exact ⟨0, [], by omega, by simp, rfl, hq0⟩
  case round =>
    obtain ⟨k, out, hk, hol, rfl, H⟩ := hrel
    by_cases hlt : k < l.length
    · obtain ⟨ad, hA, ⟨h1, h2, h3⟩⟩ := (Hr.out.below H.out.2.1) k hlt
      subst hA
      have hdr : l.drop k = l[k] :: l.drop (k + 1) := List.drop_eq_getElem_cons hlt
      have hT := H.out.2.2
      rw [hdr] at hT
      have hnm := Hnum.out l[k] (List.getElem_mem hlt)
      generalize l[k] = p at *
      obtain ⟨kd, nm, tx⟩ := p
      simp only at h1 h2 h3 hnm
      have Ho := Lib.hid H.out.1
      have HB := Lib.hid H.out.2.1
      have hsz2 := H.out.2.1.size
      have hlen : (⟨tx.toArray⟩ : ByteArray).size = tx.length := rfl
      clear H hdr
      by_cases c1 : kd = 1 ∧ tx = []
      · have HT := Lib.hid (show keyL (out ++ numB nm) (l.drop (k + 1)) = T by rw [← hT]; exact (if_pos c1).symm)
        clear hT
        obtain ⟨rfl, rfl⟩ := c1
        go_wp2_with fail
        refine (addNumber_calls _ out nm w.heap.size _ (Ho.out.alloc _) (by simp; omega) hnm (by omega)).mono ?_
        rintro e w2 ⟨v2, rfl, ho2, hb2⟩
        have Hq := Lib.hid (And.intro ho2 (And.intro (HB.out.trans (((Below.refl _ _).alloc hsz2 _).trans hb2)) HT.out))
        have hnl : (out ++ numB nm).length ≤ 1000 * (k + 1) := by have := nb_le 8 nm hnm; simp [numB, be_len]; omega
        clear ho2 hb2
        go_wp2_with fail
        exact ⟨⟨k + 1, _, by omega, hnl, by go_num, Hq⟩, by simp [intOf]; omega⟩
      · by_cases c2 : kd ≠ 2 ∨ nm ≠ 0
        · have hTT : (5, []) = T := by rw [← hT]; symm; exact (if_neg c1).trans (if_pos c2)
          subst hTT
          clear hT
          by_cases c3 : kd = 1
          · have c4 : tx ≠ [] := fun h => c1 ⟨c3, h⟩
            subst c3
            clear c1
            have hem : tx.isEmpty = false := by simpa using c4
            go_wp2_with fail
            go_ret2
            exact ⟨_, rfl, OwnB.nil _ _ _, HB.out.alloc hsz2 _⟩
          · by_cases c5 : kd = 2
            · have c6 : nm ≠ 0 := by rcases c2 with h | h; exact absurd c5 h; exact h
              subst c5
              go_wp2_with fail
              go_ret2
              exact ⟨_, rfl, OwnB.nil _ _ _, HB.out.alloc hsz2 _⟩
            · go_wp2_with fail
              go_ret2
              exact ⟨_, rfl, OwnB.nil _ _ _, HB.out.alloc hsz2 _⟩
        · have c5 : kd = 2 := by omega
          have c6 : nm = 0 := by omega
          by_cases c7 : 60 < tx.length
          · have hTT : (6, []) = T := by rw [← hT]; symm; exact (if_neg c1).trans ((if_neg c2).trans (if_pos c7))
            subst hTT
            clear hT c1 c2
            subst c5 c6
            go_wp2_with fail
            go_ret2
            exact ⟨_, rfl, OwnB.nil _ _ _, HB.out.alloc hsz2 _⟩
          · have HT := Lib.hid (show keyL (out ++ txtB tx) (l.drop (k + 1)) = T by rw [← hT]; exact ((if_neg c1).trans ((if_neg c2).trans (if_neg c7))).symm)
            clear hT c1 c2
            subst c5 c6
            go_wp2_with fail
            refine (addText_calls _ out tx w.heap.size _ (Ho.out.alloc _) (by simp; omega) (by omega) (by omega)).mono ?_
            rintro e w2 ⟨v2, rfl, ho2, hb2⟩
            have Hq := Lib.hid (And.intro ho2 (And.intro (HB.out.trans (((Below.refl _ _).alloc hsz2 _).trans hb2)) HT.out))
            have hnl : (out ++ txtB tx).length ≤ 1000 * (k + 1) := by have := esc_len tx; simp [txtB]; omega
            clear ho2 hb2
            go_wp2_with fail
            exact ⟨⟨k + 1, _, by omega, hnl, by go_num, Hq⟩, by simp [intOf]; omega⟩
    · obtain rfl : k = l.length := by omega
      have hTT : (0, out) = T := by rw [← H.out.2.2, List.drop_length]; rfl
      subst hTT
      go_wp2_with fail
      go_ret2
      exact ⟨_, rfl, H.out.1, H.out.2.1⟩
theorem key_many (A : Option Addr) (c n : Nat) (w : World) (hn : 8 < n) :
    Calls Tryd.prog 23 #[.slice A n c] w fun e w' => e = .returned (.tuple #[.slice none 0 0, errV 14]) ∧ w = w' := by
  go_enter Tryd.func23, Tryd.ntmps23
  go_wp2_with fail
  go_ret2
  exact ⟨rfl, rfl⟩
theorem key_calls (A : Option Addr) (c : Nat) (l : List PartD) (w : World) (hr : RdP w A l) (hnum : ∀ p ∈ l, p.num < 256 ^ 8) :
    Calls Tryd.prog 23 #[.slice A l.length c] w fun e w' => ∃ v, e = .returned (.tuple #[v, errV (key l).1]) ∧ OwnB w' w.heap.size 5 v (key l).2 ∧ Below w.heap.size w w' := by
  unfold key
  split
  · rename_i h
    refine (key_many A c l.length w h).mono ?_
    rintro e w' ⟨rfl, rfl⟩
    exact ⟨_, rfl, OwnB.nil _ _ _, Below.refl _ _⟩
  · exact key_few A c l w hr (by omega) hnum
theorem codeKey_calls (A : Option Addr) (c : Nat) (l : List PartD) (w : World) (hr : RdP w A l) (hnum : ∀ p ∈ l, p.num < 256 ^ 8) (hg : ErrH w) :
    Calls Tryd.prog 13 #[.slice A l.length c] w fun e w' => ∃ v, e = .returned (.tuple #[v, .int .i64 (key l).1]) ∧ OwnB w' w.heap.size 5 v (key l).2 ∧ Below w.heap.size w w' := by
  have hq := Lib.hid (key_calls A c l w hr hnum)
  generalize key l = T at *
  clear hr
  go_enter Tryd.func13, Tryd.ntmps13
  go_wp2_with fail
  refine (hq.out).mono ?_
  rintro e W1 ⟨v, rfl, ho, hb⟩
  have Ho := Lib.hid ho
  have Hb := Lib.hid hb
  have Hg := Lib.hid (hg.below hg.lt hb)
  clear ho hb hq
  go_wp2_with fail
  refine (number_calls T.1 W1 Hg.out).mono ?_
  rintro e W2 ⟨rfl, hb2⟩
  have Hb2 := Lib.hid hb2
  clear hb2
  go_wp2_with fail
  go_ret2
  exact ⟨_, rfl, Ho.out.below Hb2.out, Hb.out.trans (Hb2.out.mono Hb.out.size)⟩
end Go.Proofs.YtfogepoebihnoaaDoor
