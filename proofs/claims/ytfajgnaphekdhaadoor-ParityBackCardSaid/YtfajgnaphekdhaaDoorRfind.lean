/- The walks of bedrockref.whole and bedrockref.Find. -/
import Derived.Test.YtfajgnaphekdhaaDoorRfits
import Derived.Test.YtfajgnaphekdhaaDoorPoutw
namespace Go.Proofs.YtfajgnaphekdhaaDoor
open Go.RowKit
set_option linter.unusedSimpArgs false
set_option linter.unusedVariables false
def wholeB (sz n : Nat) (ls : List (List UInt8)) : Bool := (List.range sz).all fun a => ftL a (fillC a [] (ls.take n)) 0 (ls.drop n)
theorem fits_nil (A : Option Addr) (c : Nat) (ls : List (List UInt8)) (n m a : Nat) (w : World) (hr : RdL w A ls) (hl : ls.length ≤ 1000) (hnm : n + m = ls.length) (hm : m ≤ 2) (ha : a ≤ 4096) (hall : ∀ b ∈ ls, 0 < b.length → a < b.length) (he : emptyN (ls.take n) = 0) :
    Calls Tryd.prog 31 #[.slice A ls.length c, .int .i64 m, .int .i64 a, .slice none 0 0] w fun e W' => e = .returned (.bool (ftL a (fillC a [] (ls.take n)) 0 (ls.drop n))) ∧ Below w.heap.size w W' :=
  fits_calls A c ls n m a none 0 [] w hr hl hnm hm ha hall (fun j hj => by simp at hj) (fun h => absurd rfl h) (Nat.le_refl _) (by rw [he]; exact Nat.zero_le _)
theorem all_succ (n : Nat) (p : Nat → Bool) : (List.range (n + 1)).all p = ((List.range n).all p && p n) := by
  rw [List.range_succ, List.all_append]; simp
theorem any_succ (n : Nat) (p : Nat → Bool) : (List.range (n + 1)).any p = ((List.range n).any p || p n) := by
  rw [List.range_succ, List.any_append]; simp
theorem all_false {n k : Nat} {p : Nat → Bool} (hk : k ≤ n) (h : (List.range k).all p = false) : (List.range n).all p = false := by
  rw [List.all_eq_false] at h ⊢
  obtain ⟨x, hx, hp⟩ := h
  exact ⟨x, List.mem_range.2 (by have := List.mem_range.1 hx; omega), hp⟩
theorem any_true {n k : Nat} {p : Nat → Bool} (hk : k ≤ n) (h : (List.range k).any p = true) : (List.range n).any p = true := by
  rw [List.any_eq_true] at h ⊢
  obtain ⟨x, hx, hp⟩ := h
  exact ⟨x, List.mem_range.2 (by have := List.mem_range.1 hx; omega), hp⟩
set_option maxHeartbeats 4000000 in
set_option maxRecDepth 100000 in
theorem whole_calls (A : Option Addr) (c : Nat) (ls : List (List UInt8)) (n m sz : Nat) (w : World) (hr : RdL w A ls) (hl : ls.length ≤ 1000) (hnm : n + m = ls.length) (hm : m ≤ 2) (hsz : sz ≤ 4096) (hall : ∀ b ∈ ls, b.length = sz) (he : emptyN ls = 0) :
    Calls Tryd.prog 30 #[.slice A ls.length c, .int .i64 m, .int .i64 sz] w fun e W' => e = .returned (.bool (wholeB sz n ls)) ∧ Below w.heap.size w W' := by
  have he2 : emptyN (ls.take n) = 0 := by
    have h1 : emptyN ls = emptyN (ls.take n) + emptyN (ls.drop n) := by rw [← emptyN_append, List.take_append_drop]
    omega
  have HF := Lib.hid (fun (a : Nat) (ha : a < sz) (W : World) (hr : RdL W A ls) => fits_nil A c ls n m a W hr hl hnm hm (by omega) (fun b hb _ => by rw [hall b hb]; exact ha) he2)
  have H0 := Lib.hid (show Below w.heap.size w w ∧ ((List.range 0).all fun a => ftL a (fillC a [] (ls.take n)) 0 (ls.drop n)) = true from ⟨Below.refl _ _, rfl⟩)
  have Hr := Lib.hid hr
  have HW := Lib.hid (show wholeB sz n ls = (List.range sz).all fun a => ftL a (fillC a [] (ls.take n)) 0 (ls.drop n) from rfl)
  generalize wholeB sz n ls = R at *
  generalize hp : (fun a => ftL a (fillC a [] (ls.take n)) 0 (ls.drop n)) = p at *
  have HF := Lib.hid (fun (a : Nat) (ha : a < sz) (W : World) (hr : RdL W A ls) => show Calls Tryd.prog 31 #[.slice A ls.length c, .int .i64 m, .int .i64 a, .slice none 0 0] W fun e W' => e = .returned (.bool (p a)) ∧ Below W.heap.size W W' by
    rw [← hp]; exact HF.out a ha W hr)
  clear hr hall he he2 hp
  go_enter Tryd.func30, Tryd.ntmps30
  go_wp2_with fail
  go_loopw [7] (fun i wr => ∃ k : Nat, k ≤ sz ∧ i = .int .i64 k ∧ Hid (Below w.heap.size w wr ∧ (List.range k).all p = true)) (fun i _ => sz - (intOf i).toNat)
  case atStart => exact ⟨0, by omega, rfl, H0⟩
  case round =>
    clear H0
    obtain ⟨k, hk, rfl, H⟩ := hrel
    rename World => wr
    by_cases hlt : k < sz
    · have HFk := Lib.hid (HF.out k hlt wr (Hr.out.below H.out.1))
      cases hpk : p k
      · rw [hpk] at HFk
        have HR := Lib.hid (show R = false by rw [HW.out]; exact all_false (k := k + 1) (by omega) (by rw [all_succ, hpk, Bool.and_false]))
        clear hpk
        go_wp2_with fail
        refine (HFk.out).mono ?_
        rintro e W2 ⟨rfl, b2⟩
        have HB := Lib.hid (H.out.1.trans (b2.mono H.out.1.size))
        clear b2
        go_wp2_with fail
        go_ret
        rw [HR.out]
        exact ⟨rfl, HB.out⟩
      · rw [hpk] at HFk
        have HN := Lib.hid (show (List.range (k + 1)).all p = true by rw [all_succ, hpk, H.out.2]; rfl)
        clear hpk
        go_wp2_with fail
        refine (HFk.out).mono ?_
        rintro e W2 ⟨rfl, b2⟩
        have HB := Lib.hid (And.intro (H.out.1.trans (b2.mono H.out.1.size)) HN.out)
        clear b2
        go_wp2_with fail
        exact ⟨⟨k + 1, by omega, by go_num, HB⟩, by simp [intOf]; omega⟩
    · obtain rfl : sz = k := by omega
      go_wp2_with fail
      go_ret
      rw [HW.out, H.out.2]
      exact ⟨rfl, H.out.1⟩
/-- whether the byte numbered a can be mended if piece i is lost -/
def medAt (n : Nat) (ls : List (List UInt8)) (i a : Nat) : Bool :=
  if n ≤ i then ftL a (fillC a [] ((ls.set i []).take n)) 0 ((ls.set i []).drop n) else (List.range 256).any fun x => ftL a (fillC a [UInt8.ofNat x] ((ls.set i []).take n)) 0 ((ls.set i []).drop n)
def med (sz n : Nat) (ls : List (List UInt8)) (i : Nat) : Bool := (List.range sz).all (medAt n ls i)
/-- how many of the first k pieces might be the wrong one, and the last of these -/
def cw (p : Nat → Bool) : Nat → Nat × Nat
  | 0 => (0, 0)
  | k + 1 => if p k then ((cw p k).1 + 1, k) else cw p k
theorem cw_le (p : Nat → Bool) : ∀ k, (cw p k).1 ≤ k ∧ (cw p k).2 ≤ k
  | 0 => ⟨Nat.le_refl _, Nat.le_refl _⟩
  | k + 1 => by
    obtain ⟨h1, h2⟩ := cw_le p k
    simp only [cw]
    split
    · exact ⟨by simp; omega, by simp⟩
    · exact ⟨by omega, by omega⟩
def refFindR (ls : List (List UInt8)) (lv : Int) : Int × Int :=
  if lv < 0 ∨ 2 < lv then (5, 0) else if refSize ls ((ls.length : Int) - lv) < 0 ∨ 0 < emptyN ls then (10, 0)
  else if wholeB (refSize ls ((ls.length : Int) - lv)).toNat (ls.length - lv.toNat) ls = true then (0, -1)
  else if lv = 2 ∧ (cw (med (refSize ls ((ls.length : Int) - lv)).toNat (ls.length - lv.toNat) ls) ls.length).1 = 1 then (0, ((cw (med (refSize ls ((ls.length : Int) - lv)).toNat (ls.length - lv.toNat) ls) ls.length).2 : Int)) else (11, 0)
def RfPost (w : World) (R : Int × Int) (e : Ending) (W' : World) : Prop := e = .returned (.tuple #[.int .i64 R.2, .int .i64 R.1]) ∧ Below w.heap.size w W'
set_option maxHeartbeats 4000000 in
set_option maxRecDepth 100000 in
theorem rfind_calls (A : Option Addr) (c : Nat) (ls : List (List UInt8)) (lv : Int) (w : World) (hr : RdL w A ls) (hl : ls.length ≤ 1000) (hs : ∀ b ∈ ls, b.length ≤ 140737488351232) :
    Calls Tryd.prog 15 #[.slice A ls.length c, .int .i64 lv] w fun e W' => RfPost w (refFindR ls lv) e W' := by
  obtain ⟨iS, hiS, hszS⟩ := infoS
  obtain ⟨i5, hi, hz0, hz1, hz2⟩ := info_parts info5
  have HS := Lib.hid (refSize_calls A c ls ((ls.length : Int) - lv) w hr (fun b hb => by have := hs b hb; omega) hl)
  have HE := Lib.hid (fun W hr => empty_calls A c ls W hr hl)
  have Hr := Lib.hid hr
  have hele := emptyN_le ls
  unfold refFindR
  by_cases hlv : lv < 0 ∨ 2 < lv
  · rw [if_pos hlv]
    clear hr
    go_enter Tryd.func15, Tryd.ntmps15
    rcases hlv with h | h
    · go_wp2_with fail
      go_ret2
      exact ⟨rfl, Below.refl _ _⟩
    · have h2 : ¬ lv < 0 := by omega
      go_wp2_with fail
      go_ret2
      exact ⟨rfl, Below.refl _ _⟩
  · rw [if_neg hlv]
    have h1 : ¬ lv < 0 := by omega
    have h2 : ¬ 2 < lv := by omega
    by_cases hn : refSize ls ((ls.length : Int) - lv) < 0
    · rw [if_pos (.inl hn)]
      generalize refSize ls ((ls.length : Int) - lv) = z at *
      clear hr hlv
      go_enter Tryd.func15, Tryd.ntmps15
      go_wp2_with fail
      refine (HS.out).mono ?_
      rintro e W1 ⟨rfl, b1⟩
      have Hb1 := Lib.hid b1
      clear b1
      go_wp2_with fail
      go_ret2
      exact ⟨rfl, Hb1.out⟩
    · by_cases he : 0 < emptyN ls
      · rw [if_pos (.inr he)]
        generalize refSize ls ((ls.length : Int) - lv) = z at *
        generalize emptyN ls = en at *
        clear hr hlv
        go_enter Tryd.func15, Tryd.ntmps15
        go_wp2_with fail
        refine (HS.out).mono ?_
        rintro e W1 ⟨rfl, b1⟩
        have Hb1 := Lib.hid b1
        clear b1
        go_wp2_with fail
        refine (HE.out W1 (Hr.out.below Hb1.out)).mono ?_
        rintro e W2 ⟨rfl, b2⟩
        have Hb2 := Lib.hid (Hb1.out.trans (b2.mono Hb1.out.size))
        clear b2
        go_wp2_with fail
        go_ret2
        exact ⟨rfl, Hb2.out⟩
      · rw [if_neg (by rintro (h | h); exact hn h; exact he h)]
        have he0 : emptyN ls = 0 := by omega
        obtain ⟨m, hm⟩ : ∃ m : Nat, lv = (m : Int) := ⟨lv.toNat, by omega⟩
        subst hm
        have hfacts : ∃ sz n : Nat, refSize ls ((ls.length : Int) - (m : Int)) = (sz : Int) ∧ n + m = ls.length ∧ 0 < sz ∧ sz ≤ 4096 ∧ 0 < n ∧ n ≤ 16 ∧ ∀ b ∈ ls, b.length = sz := by
          have hok : (sizedR ls ((ls.length : Int) - (m : Int))).2 = true := by
            cases h : (sizedR ls ((ls.length : Int) - (m : Int))).2
            · exact absurd ((refSize_neg _ _).2 h) hn
            · rfl
          unfold refSize
          rw [hok, if_pos rfl]
          unfold sizedR at hok ⊢
          cases hz : szL 0 ls with
          | none => rw [hz] at hok; cases hok
          | some s =>
            rw [hz] at hok
            obtain ⟨k1, k2, k3, k4⟩ := szOk_true hok
            have h0 := (emptyN_zero ls).1 he0
            exact ⟨s, ls.length - m, rfl, by omega, k1, k2, by omega, by omega, fun b hb => szL_eq ls 0 s hz b hb (by have := h0 b hb; omega)⟩
        obtain ⟨sz, n, hsz, hnm, k1, k2, k3, k4, hall⟩ := hfacts
        rw [hsz] at HS ⊢
        rw [he0] at HE
        have hm2 : m ≤ 2 := by omega
        have hgoal : RfPost w (if wholeB sz n ls = true then (0, -1) else if m = 2 ∧ (cw (med sz n ls) ls.length).1 = 1 then (0, ((cw (med sz n ls) ls.length).2 : Int)) else (11, 0)) = RfPost w (if wholeB (sz : Int).toNat (ls.length - (m : Int).toNat) ls = true then (0, -1) else if (m : Int) = 2 ∧ (cw (med (sz : Int).toNat (ls.length - (m : Int).toNat) ls) ls.length).1 = 1 then (0, ((cw (med (sz : Int).toNat (ls.length - (m : Int).toNat) ls) ls.length).2 : Int)) else (11, 0)) := by
          simp only [Int.toNat_natCast, show ls.length - m = n by omega, show ((m : Int) = 2) = (m = 2) by apply propext; omega]
        rw [← hgoal]
        obtain ⟨R, hR⟩ : ∃ R : Int × Int, (if wholeB sz n ls = true then (0, -1) else if m = 2 ∧ (cw (med sz n ls) ls.length).1 = 1 then (0, ((cw (med sz n ls) ls.length).2 : Int)) else (11, 0)) = R := ⟨_, rfl⟩
        rw [hR]
        have HR := Lib.hid hR
        have HWh := Lib.hid (fun (W : World) hr => whole_calls A c ls n m sz W hr hl hnm hm2 k2 hall he0)
        have hsub : (ls.length : Int) - (m : Int) = (n : Int) := by omega
        rw [hsub] at HS
        have HU := Lib.hid (fun (W : World) (hb : Below w.heap.size w W) => use_run (c := c) hb hr (by omega) hl)
        have hem := fun W => run_emptySlice (P := Tryd.prog) W 23 33 iS Tryd.underlying23 hiS
        have Hall := Lib.hid hall
        have He0 := Lib.hid he0
        clear hr hlv hn he hall hgoal hsz he0 hR
        go_enter Tryd.func15, Tryd.ntmps15
        go_wp2_with fail
        refine (HS.out).mono ?_
        rintro e W1 ⟨rfl, b1⟩
        have Hb1 := Lib.hid b1
        clear b1
        go_wp2_with fail
        refine (HE.out W1 (Hr.out.below Hb1.out)).mono ?_
        rintro e W2 ⟨rfl, b2⟩
        have Hb2 := Lib.hid (Hb1.out.trans (b2.mono Hb1.out.size))
        clear b2
        go_wp2_with fail
        refine (HWh.out W2 (Hr.out.below Hb2.out)).mono ?_
        rintro e W3 ⟨rfl, b3⟩
        have Hb3 := Lib.hid (Hb2.out.trans (b3.mono Hb2.out.size))
        clear b3 HS HE HWh Hb1 Hb2
        have hRr := HR.out
        cases hw : wholeB sz n ls
        · rw [hw, if_neg (by decide)] at hRr
          clear hw
          rcases (show (m = 0 ∨ m = 1) ∨ m = 2 by omega) with hm3 | hm3
          · rcases hm3 with hm3 | hm3
            · subst hm3
              rw [if_neg (by omega)] at hRr
              have Hrr := Lib.hid hRr
              clear hRr
              go_wp2_with fail
              go_loopw [7, 8, 9] (fun s q i wr => s = .int .i64 0 ∧ q = .int .i64 0 ∧ i = .int .i64 0 ∧ Hid (Below w.heap.size w wr)) (fun _ _ _ _ => 0)
              case atStart => exact ⟨rfl, rfl, rfl, Hb3⟩
              case round =>
                clear Hb3
                obtain ⟨rfl, rfl, rfl, H⟩ := hrel
                have h0 : (0 : Int) < (ls.length : Int) := by omega
                go_wp2_with fail
                go_ret2
                rw [← Hrr.out]
                exact ⟨rfl, H.out⟩
            · subst hm3
              rw [if_neg (by omega)] at hRr
              have Hrr := Lib.hid hRr
              clear hRr
              go_wp2_with fail
              go_loopw [7, 8, 9] (fun s q i wr => s = .int .i64 0 ∧ q = .int .i64 0 ∧ i = .int .i64 0 ∧ Hid (Below w.heap.size w wr)) (fun _ _ _ _ => 0)
              case atStart => exact ⟨rfl, rfl, rfl, Hb3⟩
              case round =>
                clear Hb3
                obtain ⟨rfl, rfl, rfl, H⟩ := hrel
                have h0 : (0 : Int) < (ls.length : Int) := by omega
                go_wp2_with fail
                go_ret2
                rw [← Hrr.out]
                exact ⟨rfl, H.out⟩
          · subst hm3
            have Hrr := Lib.hid hRr
            clear hRr HR
            have Hp := Lib.hid (show ∀ k, med sz n ls k = (List.range sz).all (medAt n ls k) from fun _ => rfl)
            generalize med sz n ls = p at *
            go_wp2_with fail
            go_loopw [7, 8, 9] (fun s q i wr => ∃ k : Nat, k ≤ ls.length ∧ i = .int .i64 k ∧ s = .int .i64 ((cw p k).1 : Nat) ∧ q = .int .i64 ((cw p k).2 : Nat) ∧ Hid (Below w.heap.size w wr)) (fun _ _ i _ => ls.length - (intOf i).toNat)
            case atStart => exact ⟨0, by omega, rfl, rfl, rfl, Hb3⟩
            case round =>
              clear Hb3
              obtain ⟨k, hk, rfl, rfl, rfl, H⟩ := hrel
              rename World => wo
              have hcl := (cw_le p k).1
              by_cases hlt : k < ls.length
              · have Hcw := Lib.hid (show cw p (k + 1) = if p k then ((cw p k).1 + 1, k) else cw p k from rfl)
                have hpk := Hp.out k
                generalize cw p k = ck at *
                obtain ⟨v', W4, xs, r1, hup, hb4⟩ := HU.out wo H.out
                obtain ⟨gu, cu, rfl, hcu, hgu, hwu, hru⟩ := hup.rdl (by omega)
                obtain ⟨hf, ⟨u, hu⟩, h5, h6⟩ := hup.set k hlt
                obtain ⟨Wl, hWl⟩ : ∃ Wl, W4.setCell ⟨gu, k, none⟩ (.slice none 0 0) = Wl := ⟨_, rfl⟩
                have hset : (ls.set k []).length = ls.length := by simp
                have HUR := Lib.hid (show Below w.heap.size w Wl ∧ ∀ W : World, Below Wl.heap.size Wl W → RdL W (some ⟨gu, 0, none⟩) (ls.set k []) by
                  rw [hWl] at h5 h6
                  obtain ⟨gu', cu', e1, e2, e3, e4, e5⟩ := h5.rdl (by omega)
                  injection e1 with a1 a2 a3
                  cases a1
                  have hbl : Below w.heap.size w Wl := hb4.grown h6 hb4.size (fun k e => by cases e; exact hwu)
                  exact ⟨hbl, fun W hb => e5 W (hb.block gu e3) (hbl.trans (hb.mono hbl.size))⟩)
                have hall2 : ∀ a, a < sz → ∀ b ∈ ls.set k [], 0 < b.length → a < b.length := fun a ha b hb h0 => by
                  rcases List.mem_or_eq_of_mem_set hb with hb | rfl
                  · rw [Hall.out b hb]; exact ha
                  · simp at h0
                have hee : emptyN ((ls.set k []).take n) = if n ≤ k then 0 else 1 := by
                  have h0 : emptyN (ls.take n) = 0 := by
                    have h1 : emptyN ls = emptyN (ls.take n) + emptyN (ls.drop n) := by rw [← emptyN_append, List.take_append_drop]
                    have := He0.out
                    omega
                  by_cases hnk : n ≤ k
                  · rw [if_pos hnk, List.take_set_of_le hnk]; exact h0
                  · rw [if_neg hnk, List.take_set]
                    have hs := List.set_eq_take_append_cons_drop (a := ([] : List UInt8)) (l := ls.take n) (i := k)
                    rw [hs, if_pos (by simp; omega), emptyN_append]
                    have h1 : emptyN (ls.take n) = emptyN ((ls.take n).take k) + emptyN ((ls.take n).drop k) := by rw [← emptyN_append, List.take_append_drop]
                    have h2 : (ls.take n).drop k = ls[k] :: (ls.take n).drop (k + 1) := take_drop ls n k (by omega) (by omega)
                    rw [h2] at h1
                    simp only [emptyN] at h1 ⊢
                    simp only [List.length_nil, if_true]
                    omega
                have HFA := Lib.hid (fun (hnk : n ≤ k) (a : Nat) (ha : a < sz) (W : World) (hb : Below Wl.heap.size Wl W) => show Calls Tryd.prog 31 #[.slice (some ⟨gu, 0, none⟩) ls.length cu, .int .i64 2, .int .i64 a, .slice none 0 0] W fun e W' => e = .returned (.bool (medAt n ls k a)) ∧ Below W.heap.size W W' by
                  have h := fits_nil (some ⟨gu, 0, none⟩) cu (ls.set k []) n 2 a W (HUR.out.2 W hb) (by omega) (by omega) (by omega) (by omega) (hall2 a ha) (by rw [hee, if_pos hnk])
                  rw [hset] at h
                  unfold medAt
                  rw [if_pos hnk]
                  exact h)
                have HFB := Lib.hid (fun (hnk : ¬ n ≤ k) (a : Nat) (ha : a < sz) (x : Nat) (hx : x < 256) (W : World) (hb : Below Wl.heap.size Wl W) => show Calls Tryd.prog 31 #[.slice (some ⟨gu, 0, none⟩) ls.length cu, .int .i64 2, .int .i64 a, .slice (some ⟨W.heap.size, 0, none⟩) 1 1] (W.alloc (.cells #[.int .u8 (x : Int)] 5)) fun e W' => e = .returned (.bool (ftL a (fillC a [UInt8.ofNat x] ((ls.set k []).take n)) 0 ((ls.set k []).drop n))) ∧ Below Wl.heap.size Wl W' by
                  have hb1 : Below Wl.heap.size Wl (W.alloc (.cells #[.int .u8 (x : Int)] 5)) := hb.alloc hb.size _
                  have hrd := one_rd W (UInt8.ofNat x) 5
                  rw [ofN x hx] at hrd
                  have h := fits_calls (some ⟨gu, 0, none⟩) cu (ls.set k []) n 2 a (some ⟨W.heap.size, 0, none⟩) 1 [UInt8.ofNat x] _ (HUR.out.2 _ hb1) (by omega) (by omega) (by omega) (by omega) (hall2 a ha) hrd (fun _ => ⟨_, _, rfl⟩) (Nat.le_refl _) (by rw [hee, if_neg hnk]; exact Nat.le_refl _)
                  rw [hset] at h
                  exact h.mono fun e W' h => ⟨h.1, hb1.trans (h.2.mono hb1.size)⟩)
                have HMA := Lib.hid (show ¬ n ≤ k → ∀ a, medAt n ls k a = (List.range 256).any fun x => ftL a (fillC a [UInt8.ofNat x] ((ls.set k []).take n)) 0 ((ls.set k []).drop n) from fun h a => by unfold medAt; rw [if_neg h])
                have hbl := HUR.out.1
                have H0 := Lib.hid (show Below Wl.heap.size Wl Wl ∧ true = (List.range 0).all (medAt n ls k) from ⟨Below.refl _ _, rfl⟩)
                generalize hq : medAt n ls k = q at *
                have R1 := Lib.hid r1
                have Hbl := Lib.hid hbl
                have Hpk := Lib.hid hpk
                have HWl := Lib.hid hWl
                have hlk : (k : Int) < (ls.length : Int) := by omega
                clear hall2 hee r1 hup hb4 h5 h6 hru hset hbl hq hpk hgu hwu hcu
                go_wp2_with (at_builtin; go_must (refine wpList_append_run rfl (.tmp 47) (.tmp 48) 23 23 rfl rfl rfl (by exact R1.out) ?_))
                go_loopw [11, 12] (fun b i wr => ∃ (a : Nat) (bb : Bool), a ≤ sz ∧ i = .int .i64 a ∧ b = .bool bb ∧ Hid (Below Wl.heap.size Wl wr ∧ bb = (List.range a).all q)) (fun _ i _ => sz - (intOf i).toNat)
                case atStart => exact ⟨0, true, by omega, rfl, rfl, H0⟩
                case round =>
                  clear H0
                  rename World => w5
                  obtain ⟨a, bb, ha, rfl, rfl, H2⟩ := hrel
                  have Hend := Lib.hid (show (a = sz ∨ bb = false) → p k = bb from fun h => by
                    rw [Hpk.out]
                    rcases h with h | h
                    · rw [H2.out.2, h]
                    · rw [h]; exact all_false ha (by rw [← H2.out.2, h]))
                  have HBw := Lib.hid (show Below w.heap.size w w5 from Hbl.out.trans (H2.out.1.mono Hbl.out.size))
                  by_cases hlt2 : a < sz
                  · cases bb with
                    | false =>
                      have HC := Lib.hid (show cw p (k + 1) = ck by rw [Hcw.out, Hend.out (.inr rfl)]; rfl)
                      go_wp2_with fail
                      exact ⟨⟨k + 1, by omega, by go_num, by rw [HC.out], by rw [HC.out], HBw⟩, by simp [intOf]; omega⟩
                    | true =>
                      have Hnx := Lib.hid (show ∀ b : Bool, b = q a → b = (List.range (a + 1)).all q from fun b hb => by rw [all_succ, ← H2.out.2, Bool.true_and, hb])
                      by_cases hnk : n ≤ k
                      · have HFk := Lib.hid (HFA.out hnk a hlt2 w5 H2.out.1)
                        have hnk2 : (n : Int) ≤ (k : Int) := by omega
                        have hnk3 : ¬ (k : Int) < (n : Int) := by omega
                        cases hqa : q a
                        · rw [hqa] at HFk Hnx
                          clear hqa
                          go_wp2_with fail
                          refine (HFk.out).mono ?_
                          rintro e W6 ⟨rfl, b6⟩
                          have HB6 := Lib.hid (H2.out.1.trans (b6.mono H2.out.1.size))
                          clear b6
                          go_wp2_with fail
                          go_loopw [11, 13] (fun b x wr => b = .bool false ∧ x = .int .i64 0 ∧ Hid (Below Wl.heap.size Wl wr)) (fun _ _ _ => 0)
                          case atStart => exact ⟨rfl, rfl, HB6⟩
                          case round =>
                            clear HB6
                            obtain ⟨rfl, rfl, H6⟩ := hrel
                            have HN := Lib.hid (And.intro H6.out (Hnx.out false rfl))
                            go_wp2_with fail
                            exact ⟨⟨a + 1, false, by omega, by go_num, rfl, HN⟩, by simp [intOf]; omega⟩
                        · rw [hqa] at HFk Hnx
                          clear hqa
                          go_wp2_with fail
                          refine (HFk.out).mono ?_
                          rintro e W6 ⟨rfl, b6⟩
                          have HB6 := Lib.hid (H2.out.1.trans (b6.mono H2.out.1.size))
                          clear b6
                          go_wp2_with fail
                          go_loopw [11, 13] (fun b x wr => b = .bool true ∧ x = .int .i64 0 ∧ Hid (Below Wl.heap.size Wl wr)) (fun _ _ _ => 0)
                          case atStart => exact ⟨rfl, rfl, HB6⟩
                          case round =>
                            clear HB6
                            obtain ⟨rfl, rfl, H6⟩ := hrel
                            have HN := Lib.hid (And.intro H6.out (Hnx.out true rfl))
                            go_wp2_with fail
                            exact ⟨⟨a + 1, true, by omega, by go_num, rfl, HN⟩, by simp [intOf]; omega⟩
                      · have hnk2 : ¬ (n : Int) ≤ (k : Int) := by omega
                        have hnk3 : (k : Int) < (n : Int) := by omega
                        have HFk := Lib.hid (fun (x : Nat) (hx : x < 256) (W : World) (hb : Below Wl.heap.size Wl W) => HFB.out hnk a hlt2 x hx W hb)
                        have HMk := Lib.hid (HMA.out hnk a)
                        generalize hr : (fun x => ftL a (fillC a [UInt8.ofNat x] ((ls.set k []).take n)) 0 ((ls.set k []).drop n)) = r at *
                        have HFr := Lib.hid (fun (x : Nat) (hx : x < 256) (W : World) (hb : Below Wl.heap.size Wl W) => show Calls Tryd.prog 31 #[.slice (some ⟨gu, 0, none⟩) ls.length cu, .int .i64 2, .int .i64 a, .slice (some ⟨W.heap.size, 0, none⟩) 1 1] (W.alloc (.cells #[.int .u8 (x : Int)] 5)) fun e W' => e = .returned (.bool (r x)) ∧ Below Wl.heap.size Wl W' by
                          rw [← hr]; exact HFk.out x hx W hb)
                        have H6 := Lib.hid (show Below Wl.heap.size Wl w5 ∧ false = (List.range 0).any r from ⟨H2.out.1, rfl⟩)
                        clear HFk hr
                        go_wp2_with fail
                        go_loopw [11, 13] (fun b x wr => ∃ (y : Nat) (b2 : Bool), y ≤ 256 ∧ x = .int .i64 y ∧ b = .bool b2 ∧ Hid (Below Wl.heap.size Wl wr ∧ b2 = (List.range y).any r)) (fun _ x _ => 256 - (intOf x).toNat)
                        case atStart => exact ⟨0, false, by omega, rfl, rfl, H6⟩
                        case round =>
                          clear H6
                          rename World => w7
                          obtain ⟨y, b2, hy, rfl, rfl, H7⟩ := hrel
                          cases b2 with
                          | false =>
                            by_cases hy2 : y < 256
                            · have HFy := Lib.hid (HFr.out y hy2 w7 H7.out.1)
                              have HN := Lib.hid (show ∀ W, Below Wl.heap.size Wl W → Below Wl.heap.size Wl W ∧ r y = (List.range (y + 1)).any r from fun W hb => ⟨hb, by rw [any_succ, ← H7.out.2, Bool.false_or]⟩)
                              generalize r y = ry at *
                              go_wp2_with fail
                              refine (HFy.out).mono ?_
                              rintro e W8 ⟨rfl, b8⟩
                              have HN8 := Lib.hid (HN.out W8 b8)
                              clear b8
                              go_wp2_with fail
                              exact ⟨⟨y + 1, ry, by omega, by go_num, rfl, HN8⟩, by simp [intOf]; omega⟩
                            · obtain rfl : y = 256 := by omega
                              have HN := Lib.hid (And.intro H7.out.1 (Hnx.out false (by rw [HMk.out]; exact H7.out.2)))
                              go_wp2_with fail
                              exact ⟨⟨a + 1, false, by omega, by go_num, rfl, HN⟩, by simp [intOf]; omega⟩
                          | true =>
                            have HN := Lib.hid (And.intro H7.out.1 (Hnx.out true (by rw [HMk.out]; exact (any_true hy H7.out.2.symm).symm)))
                            by_cases hy2 : y < 256
                            · have hy3 : (y : Int) < 256 := by omega
                              go_wp2_with fail
                              exact ⟨⟨a + 1, true, by omega, by go_num, rfl, HN⟩, by simp [intOf]; omega⟩
                            · have hy3 : ¬ (y : Int) < 256 := by omega
                              go_wp2_with fail
                              exact ⟨⟨a + 1, true, by omega, by go_num, rfl, HN⟩, by simp [intOf]; omega⟩
                  · obtain rfl : sz = a := by omega
                    cases bb with
                    | false =>
                      have HC := Lib.hid (show cw p (k + 1) = ck by rw [Hcw.out, Hend.out (.inl rfl)]; rfl)
                      go_wp2_with fail
                      exact ⟨⟨k + 1, by omega, by go_num, by rw [HC.out], by rw [HC.out], HBw⟩, by simp [intOf]; omega⟩
                    | true =>
                      have HC := Lib.hid (show cw p (k + 1) = (ck.1 + 1, k) by rw [Hcw.out, Hend.out (.inl rfl)]; rfl)
                      go_wp2_with fail
                      exact ⟨⟨k + 1, by omega, by go_num, by rw [HC.out]; rfl, by rw [HC.out], HBw⟩, by simp [intOf]; omega⟩
              · obtain rfl : k = ls.length := by omega
                have hcs := (cw_le p ls.length).1
                by_cases h1 : (cw p ls.length).1 = 1
                · have hr2 := Hrr.out
                  rw [if_pos ⟨trivial, h1⟩] at hr2
                  have Hr2 := Lib.hid hr2
                  clear hr2 Hrr
                  generalize cw p ls.length = ck at *
                  obtain ⟨c1, c2⟩ := ck
                  simp only at h1
                  subst h1
                  go_wp2_with fail
                  go_ret2
                  rw [← Hr2.out]
                  exact ⟨rfl, H.out⟩
                · have hr2 := Hrr.out
                  rw [if_neg (fun h => h1 h.2)] at hr2
                  have Hr2 := Lib.hid hr2
                  have hne : (((cw p ls.length).1 : Int) == 1) = false := by simpa using (show ¬ ((cw p ls.length).1 : Int) = 1 by omega)
                  clear hr2 Hrr
                  generalize cw p ls.length = ck at *
                  go_wp2_with fail
                  go_ret2
                  rw [← Hr2.out]
                  exact ⟨rfl, H.out⟩
        · rw [hw, if_pos rfl] at hRr
          have Hrr := Lib.hid hRr
          clear hRr hw
          go_wp2_with fail
          go_ret2
          rw [← Hrr.out]
          exact ⟨rfl, Hb3.out⟩
end Go.Proofs.YtfajgnaphekdhaaDoor
