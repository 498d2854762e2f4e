/- Parts of a key in memory; the walks of bedrockref.Parts, bedrockref.Order, pick. -/
import Derived.Test.YtfogepoebihnoaaDoorKeyw
import Derived.Test.YtfogepoebihnoaaDoorKeyo
import Derived.Sort.Walk0
import Derived.BigQuiet
import Derived.RegionTactic
import Derived.BigRegion
namespace Go.Proofs.YtfogepoebihnoaaDoor
open Go.RowKit
set_option linter.unusedSimpArgs false
set_option linter.unusedVariables false
/-- what is wrong with parts, without what comes out -/
def errL : List PartD → Int
  | [] => 0
  | p :: r => if p.kind = 1 ∧ p.text = [] then errL r else if p.kind ≠ 2 ∨ p.num ≠ 0 then 5 else if 60 < p.text.length then 6 else errL r
theorem keyL_err (l : List PartD) : ∀ out, (keyL out l).1 = errL l := by
  induction l with
  | nil => intro out; rfl
  | cons p r ih =>
    intro out
    simp only [keyL, errL]
    split
    · exact ih _
    · split
      · rfl
      · split
        · rfl
        · exact ih _
theorem key_err (l : List PartD) : (key l).1 = if 8 < l.length then 14 else errL l := by
  unfold key
  split
  · rfl
  · exact keyL_err l []
theorem infoP : ∃ i, Tryd.prog.info? 51 = some i ∧ i.size = 3 := by
  have h := info51
  cases h' : Tryd.prog.info? 51 with
  | none => rw [h'] at h; cases h
  | some i => rw [h'] at h; exact ⟨i, rfl, by simpa using h⟩
set_option maxHeartbeats 1000000 in
set_option maxRecDepth 100000 in
theorem refParts_few (A : Option Addr) (c : Nat) (l : List PartD) (w : World) (hr : RdP w A l) (hl : l.length ≤ 8) :
    Calls Tryd.prog 14 #[.slice A l.length c] w fun e w' => e = .returned (.int .i64 (errL l)) ∧ Below w.heap.size w w' := by
  obtain ⟨iP, hiP, hsz⟩ := infoP
  generalize hT : errL l = T
  have hq0 := Lib.hid (And.intro (Below.refl w.heap.size w) (show errL (l.drop 0) = T from hT))
  have Hr := Lib.hid hr
  clear hT hr
  go_enter Tryd.func14, Tryd.ntmps14
  go_wp2_with fail
  go_loopw [3] (fun i wr => ∃ k : Nat, k ≤ l.length ∧ i = .int .i64 k ∧ Hid (Below w.heap.size w wr ∧ errL (l.drop k) = T)) (fun i _ => l.length - (intOf i).toNat)
  case atStart => exact ⟨0, by omega, rfl, hq0⟩
  case round =>
    obtain ⟨k, hk, rfl, H⟩ := hrel
    by_cases hlt : k < l.length
    · obtain ⟨ad, hA, ⟨h1, h2, h3⟩⟩ := (Hr.out.below H.out.1) k hlt
      subst hA
      have hdr : l.drop k = l[k] :: l.drop (k + 1) := List.drop_eq_getElem_cons hlt
      have hT := H.out.2
      rw [hdr] at hT
      generalize l[k] = p at *
      obtain ⟨kd, nm, tx⟩ := p
      simp only at h1 h2 h3
      have HB := Lib.hid H.out.1
      have hsz2 := H.out.1.size
      have hlen : (⟨tx.toArray⟩ : ByteArray).size = tx.length := rfl
      clear H hdr
      by_cases c1 : kd = 1 ∧ tx = []
      · have HT := Lib.hid (And.intro (HB.out.alloc hsz2 (.cells #[.int .i64 kd, .int .u64 (nm : Int), .string ⟨tx.toArray⟩] 51)) (show errL (l.drop (k + 1)) = T by rw [← hT]; exact (if_pos c1).symm))
        clear hT
        obtain ⟨rfl, rfl⟩ := c1
        go_wp2_with fail
        exact ⟨⟨k + 1, by omega, by go_num, HT⟩, by simp [intOf]; omega⟩
      · by_cases c2 : kd ≠ 2 ∨ nm ≠ 0
        · have hTT : 5 = T := by rw [← hT]; symm; exact (if_neg c1).trans (if_pos c2)
          subst hTT
          clear hT
          by_cases c3 : kd = 1
          · have c4 : tx ≠ [] := fun h => c1 ⟨c3, h⟩
            subst c3
            clear c1
            have hem : tx.isEmpty = false := by simpa using c4
            go_wp2_with fail
            go_ret
            exact ⟨rfl, HB.out.alloc hsz2 _⟩
          · by_cases c5 : kd = 2
            · have c6 : nm ≠ 0 := by rcases c2 with h | h; exact absurd c5 h; exact h
              subst c5
              have c7 : decide (nm = 0) = false := by simpa using c6
              go_wp2_with fail
              go_ret
              exact ⟨rfl, HB.out.alloc hsz2 _⟩
            · go_wp2_with fail
              go_ret
              exact ⟨rfl, HB.out.alloc hsz2 _⟩
        · have c5 : kd = 2 := by omega
          have c6 : nm = 0 := by omega
          by_cases c7 : 60 < tx.length
          · have hTT : 6 = T := by rw [← hT]; symm; exact (if_neg c1).trans ((if_neg c2).trans (if_pos c7))
            subst hTT
            clear hT c1 c2
            subst c5 c6
            go_wp2_with fail
            go_ret
            exact ⟨rfl, HB.out.alloc hsz2 _⟩
          · have HT := Lib.hid (And.intro (HB.out.alloc hsz2 (.cells #[.int .i64 kd, .int .u64 (nm : Int), .string ⟨tx.toArray⟩] 51)) (show errL (l.drop (k + 1)) = T by rw [← hT]; exact ((if_neg c1).trans ((if_neg c2).trans (if_neg c7))).symm))
            clear hT c1 c2
            subst c5 c6
            go_wp2_with fail
            exact ⟨⟨k + 1, by omega, by go_num, HT⟩, by simp [intOf]; omega⟩
    · obtain rfl : k = l.length := by omega
      have hTT : 0 = T := by rw [← H.out.2, List.drop_length]; rfl
      subst hTT
      go_wp2_with fail
      go_ret
      exact ⟨rfl, H.out.1⟩
theorem refParts_calls (A : Option Addr) (c : Nat) (l : List PartD) (w : World) (hr : RdP w A l) :
    Calls Tryd.prog 14 #[.slice A l.length c] w fun e w' => e = .returned (.int .i64 (key l).1) ∧ Below w.heap.size w w' := by
  rw [key_err]
  split
  · rename_i h
    go_enter Tryd.func14, Tryd.ntmps14
    go_wp2_with fail
    go_ret
    exact ⟨rfl, Below.refl _ _⟩
  · exact refParts_few A c l w hr (by omega)
/-- a struct of the part's kind that is not yet written -/
abbrev zP : Obj := .cells #[.int .i64 0, .int .u64 0, .string ⟨#[]⟩] 51
theorem PartAt.alloc {w : World} {a : Addr} {p : PartD} (h : PartAt w a p) (o : Obj) : PartAt (w.alloc o) a p := h.below ((Below.refl _ _).alloc (Nat.le_refl _) _)
set_option maxHeartbeats 1000000 in
set_option maxRecDepth 100000 in
theorem refOrder_calls (A B : Option Addr) (c d : Nat) (a b : List PartD) (w : World) (ha : RdP w A a) (hb : RdP w B b) (hal : a.length ≤ 140737488355328) :
    Calls Tryd.prog 16 #[.slice A a.length c, .slice B b.length d] w fun e w' => e = .returned (.int .i64 (ordL a b)) ∧ Below w.heap.size w w' := by
  obtain ⟨iP, hiP, hsz⟩ := infoP
  generalize hT : ordL a b = T
  have hq0 := Lib.hid (And.intro (Below.refl w.heap.size w) (show ordL (a.drop 0) (b.drop 0) = T from hT))
  have Ha := Lib.hid ha
  have Hb := Lib.hid hb
  clear hT ha hb
  go_enter Tryd.func16, Tryd.ntmps16
  go_wp2_with fail
  go_loopw [5] (fun i wr => ∃ k : Nat, k ≤ a.length ∧ k ≤ b.length ∧ i = .int .i64 k ∧ Hid (Below w.heap.size w wr ∧ ordL (a.drop k) (b.drop k) = T)) (fun i _ => a.length - (intOf i).toNat)
  case atStart => exact ⟨0, by omega, by omega, rfl, hq0⟩
  case round =>
    obtain ⟨k, hk, hk2, rfl, H⟩ := hrel
    by_cases hlt : k < a.length ∧ k < b.length
    · obtain ⟨hl1, hl2⟩ := hlt
      obtain ⟨ad1, hA, hp1⟩ := (Ha.out.below H.out.1) k hl1
      subst hA
      obtain ⟨ad2, hA, hp2⟩ := (Hb.out.below H.out.1) k hl2
      subst hA
      have hT := H.out.2
      rw [List.drop_eq_getElem_cons hl1, List.drop_eq_getElem_cons hl2] at hT
      generalize a[k] = p at *
      generalize b[k] = q at *
      obtain ⟨kd, nm, tx⟩ := p
      obtain ⟨kd2, nm2, tx2⟩ := q
      obtain ⟨h1, h2, h3⟩ := hp1
      obtain ⟨g1, g2, g3⟩ := hp2
      have hp1 : PartAt wr (ad1.add (k * 3)) ⟨kd, nm, tx⟩ := ⟨h1, h2, h3⟩
      have hp2 : PartAt wr (ad2.add (k * 3)) ⟨kd2, nm2, tx2⟩ := ⟨g1, g2, g3⟩
      simp only at h1 h2 h3 g1 g2 g3
      have HB := Lib.hid H.out.1
      have HT := Lib.hid hT
      clear H hT
      have h1a := fun o => ((hp1.alloc o).kind)
      have h1b := fun o o' => (((hp1.alloc o).alloc o').kind)
      have h2a := fun o => ((hp1.alloc o).num)
      have h2b := fun o o' => (((hp1.alloc o).alloc o').num)
      have h3a := fun o => ((hp1.alloc o).text)
      have h3b := fun o o' => (((hp1.alloc o).alloc o').text)
      have g1a := fun o => ((hp2.alloc o).kind)
      have g1b := fun o o' => (((hp2.alloc o).alloc o').kind)
      have g2a := fun o => ((hp2.alloc o).num)
      have g2b := fun o o' => (((hp2.alloc o).alloc o').num)
      have g3a := fun o => ((hp2.alloc o).text)
      have g3b := fun o o' => (((hp2.alloc o).alloc o').text)
      simp only at h1a h2a h3a g1a g2a g3a h1b h2b h3b g1b g2b g3b
      clear hp1 hp2
      have HB2 := Lib.hid (fun o o' => ((HB.out.alloc HB.out.size o).alloc (by have := HB.out.size; simp; omega) o').drew : ∀ o o', Below w.heap.size w ((wr.alloc o).alloc o').drew)
      have HE := Lib.hid (fun (h : (⟨kd, nm, tx⟩ : PartD) = ⟨kd2, nm2, tx2⟩) => (by rw [← HT.out]; exact (if_pos h).symm : ordL (a.drop (k + 1)) (b.drop (k + 1)) = T))
      have HL := Lib.hid (fun (h : (⟨kd, nm, tx⟩ : PartD) ≠ ⟨kd2, nm2, tx2⟩) (hl : partLt ⟨kd, nm, tx⟩ ⟨kd2, nm2, tx2⟩ = true) => (by rw [← HT.out]; exact ((if_neg h).trans (if_pos hl)).symm : -1 = T))
      have HG := Lib.hid (fun (h : (⟨kd, nm, tx⟩ : PartD) ≠ ⟨kd2, nm2, tx2⟩) (hl : partLt ⟨kd, nm, tx⟩ ⟨kd2, nm2, tx2⟩ = false) => (by rw [← HT.out]; exact ((if_neg h).trans (if_neg (by simp [hl]))).symm : 1 = T))
      clear HT HB
      go_wp2_with fail
      go_region
      all_goals
        clear h1 h2 h3 g1 g2 g3 h1a h2a h3a g1a g2a g3a h1b h2b h3b g1b g2b g3b
        by_cases e1 : kd = kd2
        · subst e1
          by_cases e2 : nm = nm2
          · subst e2
            by_cases e3 : tx = tx2
            · subst e3
              go_wp2_with fail
              exact ⟨⟨k + 1, by omega, by omega, by go_num, Lib.hid ⟨HB2.out _ _, HE.out rfl⟩⟩, by simp [intOf]; omega⟩
            · by_cases e4 : tx < tx2
              · have hbl : Op.bytesLess tx tx2 = true := by rw [bytesLess_eq]; simpa using e4
                go_wp2_with fail
                go_ret
                exact ⟨by have h := HL.out (by simpa using e3) (by simp [partLt, e4]); subst h; rfl, HB2.out _ _⟩
              · have hbl : Op.bytesLess tx tx2 = false := by rw [bytesLess_eq]; simpa using e4
                go_wp2_with fail
                go_ret
                exact ⟨by have h := HG.out (by simpa using e3) (by simp [partLt, e4]); subst h; rfl, HB2.out _ _⟩
          · have e2i : ¬ (nm : Int) = (nm2 : Int) := by omega
            by_cases e5 : nm < nm2
            · have e5i : (nm : Int) < (nm2 : Int) := by omega
              go_wp2_with fail
              go_ret
              exact ⟨by have h := HL.out (by intro h; cases h; exact e2 rfl) (by simp [partLt, e5]); subst h; rfl, HB2.out _ _⟩
            · have e5i : ¬ (nm : Int) < (nm2 : Int) := by omega
              by_cases e4 : tx < tx2
              · have hbl : Op.bytesLess tx tx2 = true := by rw [bytesLess_eq]; simpa using e4
                go_wp2_with fail
                go_ret
                exact ⟨by have h := HL.out (by intro h; cases h; exact e2 rfl) (by simp [partLt, e4]); subst h; rfl, HB2.out _ _⟩
              · have hbl : Op.bytesLess tx tx2 = false := by rw [bytesLess_eq]; simpa using e4
                go_wp2_with fail
                go_ret
                exact ⟨by have h := HG.out (by intro h; cases h; exact e2 rfl) (by simp [partLt, e4, e5]); subst h; rfl, HB2.out _ _⟩
        · have e1b : (kd != kd2) = true := by simpa using e1
          have e1c : (kd == kd2) = false := by simpa using e1
          by_cases e6 : kd = 1
          · have e6b : (kd == 1) = true := by simpa using e6
            go_wp2_with fail
            go_ret
            exact ⟨by have h := HL.out (by intro h; cases h; exact e1 rfl) (by simp [partLt, e1b, e6b]); subst h; rfl, HB2.out _ _⟩
          · have e6b : (kd == 1) = false := by simpa using e6
            go_wp2_with fail
            go_ret
            exact ⟨by have h := HG.out (by intro h; cases h; exact e1 rfl) (by simp [partLt, e1b, e1c, e6b]); subst h; rfl, HB2.out _ _⟩
    · have hor : k = a.length ∨ k = b.length := by omega
      have HT := Lib.hid H.out.2
      have HB := Lib.hid H.out.1
      clear H
      have hT : ordL (a.drop k) (b.drop k) = T := HT.out
      by_cases h1 : a.length < b.length
      · obtain rfl : k = a.length := by omega
        rw [List.drop_length, List.drop_eq_getElem_cons h1] at hT
        have hT2 : -1 = T := hT
        subst hT2
        clear hT HT
        go_wp2_with fail
        go_ret
        exact ⟨rfl, HB.out⟩
      · by_cases h2 : b.length < a.length
        · obtain rfl : k = b.length := by omega
          rw [List.drop_length, List.drop_eq_getElem_cons h2] at hT
          have hT2 : 1 = T := hT
          subst hT2
          clear hT HT
          go_wp2_with fail
          go_ret
          exact ⟨rfl, HB.out⟩
        · obtain rfl : k = a.length := by omega
          rw [List.drop_length, show a.length = b.length by omega, List.drop_length] at hT
          have hT2 : 0 = T := hT
          subst hT2
          clear hT HT
          go_wp2_with fail
          go_ret
          exact ⟨rfl, HB.out⟩
end Go.Proofs.YtfogepoebihnoaaDoor
