/- The walk of the law CodeKeys: it returns true and leaves what was there. Condition: the library's variable errors.errorType holds its handle; sizes as the row asks. -/
import Derived.Test.YtfogepoebihnoaaDoorReads
import Derived.Test.YtfogepoebihnoaaDoorOpenP
namespace Go.Proofs.YtfogepoebihnoaaDoor
open Go.RowKit
set_option linter.unusedSimpArgs false
set_option linter.unusedVariables false
def roomP (p : PartD) : Nat := if p.kind = 1 then 9 else 2 * p.text.length + 3
def room : List PartD → Nat
  | [] => 0
  | p :: r => roomP p + room r
theorem encP_room (p : PartD) (hv : Valid p) : (encP p).length ≤ roomP p := by
  unfold encP roomP
  rcases hv with ⟨hk, _, hn⟩ | ⟨hk, _, hl⟩
  · rw [if_pos hk, if_pos hk]
    have := nb_le 8 p.num hn
    simp [numB, be_len]
    omega
  · have hk1 : ¬ p.kind = 1 := by omega
    rw [if_neg hk1, if_neg hk1]
    have := esc_len p.text
    simp [txtB]
    omega
theorem enc_room (l : List PartD) (hv : ∀ p ∈ l, Valid p) : (enc l).length ≤ room l := by
  induction l with
  | nil => simp [enc, room]
  | cons p r ih =>
    have h1 := encP_room p (hv p (by simp))
    have h2 := ih (fun q hq => hv q (by simp [hq]))
    simp only [enc, room, List.length_append]
    omega
theorem keyL_valid2 : ∀ (l : List PartD) (out : List UInt8), (keyL out l).1 = 0 → (∀ p ∈ l, p.num < 256 ^ 8) → ∀ p ∈ l, Valid p
  | [], _, _, _ => by simp
  | p :: r, out, h, hn => by
    by_cases c1 : p.kind = 1 ∧ p.text = []
    · have e : keyL out (p :: r) = keyL (out ++ numB p.num) r := if_pos c1
      rw [e] at h
      intro q hq
      rcases List.mem_cons.1 hq with rfl | hq'
      · exact .inl ⟨c1.1, c1.2, hn q hq⟩
      · exact keyL_valid2 r _ h (fun x hx => hn x (by simp [hx])) q hq'
    · by_cases c2 : p.kind ≠ 2 ∨ p.num ≠ 0
      · have e : keyL out (p :: r) = (5, []) := (if_neg c1).trans (if_pos c2)
        rw [e] at h
        cases h
      · by_cases c3 : 60 < p.text.length
        · have e : keyL out (p :: r) = (6, []) := (if_neg c1).trans ((if_neg c2).trans (if_pos c3))
          rw [e] at h
          cases h
        · have e : keyL out (p :: r) = keyL (out ++ txtB p.text) r := (if_neg c1).trans ((if_neg c2).trans (if_neg c3))
          rw [e] at h
          intro q hq
          rcases List.mem_cons.1 hq with rfl | hq'
          · exact .inr ⟨by omega, by omega, by omega⟩
          · exact keyL_valid2 r _ h (fun x hx => hn x (by simp [hx])) q hq'
theorem key_valid2 (l : List PartD) (h : (key l).1 = 0) (hn : ∀ p ∈ l, p.num < 256 ^ 8) : l.length ≤ 8 ∧ ∀ p ∈ l, Valid p := by
  unfold key at h
  by_cases h8 : 8 < l.length
  · rw [if_pos h8] at h; cases h
  · rw [if_neg h8] at h
    exact ⟨by omega, keyL_valid2 l [] h hn⟩
theorem keyL_bad : ∀ (l : List PartD) (out : List UInt8), (keyL out l).1 ≠ 0 → (keyL out l).2 = []
  | [], _, h => absurd rfl h
  | p :: r, out, h => by
    by_cases c1 : p.kind = 1 ∧ p.text = []
    · have e : keyL out (p :: r) = keyL (out ++ numB p.num) r := if_pos c1
      rw [e] at h ⊢
      exact keyL_bad r _ h
    · by_cases c2 : p.kind ≠ 2 ∨ p.num ≠ 0
      · have e : keyL out (p :: r) = (5, []) := (if_neg c1).trans (if_pos c2)
        rw [e]
      · by_cases c3 : 60 < p.text.length
        · have e : keyL out (p :: r) = (6, []) := (if_neg c1).trans ((if_neg c2).trans (if_pos c3))
          rw [e]
        · have e : keyL out (p :: r) = keyL (out ++ txtB p.text) r := (if_neg c1).trans ((if_neg c2).trans (if_neg c3))
          rw [e] at h ⊢
          exact keyL_bad r _ h
theorem key_bad (l : List PartD) (h : (key l).1 ≠ 0) : (key l).2 = [] := by
  unfold key at h ⊢
  split
  · rfl
  · rename_i h8
    rw [if_neg h8] at h
    exact keyL_bad l [] h
theorem ordL_self (l : List PartD) : ordL l l = 0 := by
  induction l with
  | nil => rfl
  | cons p r ih => simp only [ordL, if_true]; exact ih
set_option maxHeartbeats 1000000 in
set_option maxRecDepth 100000 in
theorem room_calls (A : Option Addr) (c : Nat) (l : List PartD) (w : World) (hr : RdP w A l) (h8 : l.length ≤ 8) (hv : ∀ p ∈ l, Valid p) :
    Calls Tryd.prog 20 #[.slice A l.length c] w fun e w' => e = .returned (.int .i64 (room l)) ∧ Below w.heap.size w w' := by
  obtain ⟨iP, hiP, hsz⟩ := infoP
  generalize hT : room l = T
  have hq0 := Lib.hid (And.intro (Below.refl w.heap.size w) (show 0 + room (l.drop 0) = T by rw [← hT]; simp))
  have Hr := Lib.hid hr
  have Hv := Lib.hid hv
  clear hT hr hv
  go_enter Tryd.func20, Tryd.ntmps20
  go_wp2_with fail
  go_loopw [3, 4] (fun n i wr => ∃ k m : Nat, k ≤ l.length ∧ m ≤ 123 * k ∧ n = .int .i64 m ∧ i = .int .i64 k ∧ Hid (Below w.heap.size w wr ∧ m + room (l.drop k) = T)) (fun _ i _ => l.length - (intOf i).toNat)
  case atStart => exact ⟨0, 0, by omega, by omega, rfl, rfl, hq0⟩
  case round =>
    obtain ⟨k, m, hk, hm, rfl, rfl, H⟩ := hrel
    by_cases hlt : k < l.length
    · obtain ⟨ad, hA, ⟨h1, h2, h3⟩⟩ := (Hr.out.below H.out.1) k hlt
      subst hA
      have hdr : l.drop k = l[k] :: l.drop (k + 1) := List.drop_eq_getElem_cons hlt
      have hT := H.out.2
      have hvp := Hv.out l[k] (List.getElem_mem hlt)
      rw [hdr] at hT
      generalize l[k] = p at *
      obtain ⟨kd, nm, tx⟩ := p
      simp only at h1 h2 h3
      have HB := Lib.hid H.out.1
      have hlen : (⟨tx.toArray⟩ : ByteArray).size = tx.length := rfl
      clear H hdr
      by_cases c1 : kd = 1
      · have HT := Lib.hid (And.intro HB.out (show (m + 9) + room (l.drop (k + 1)) = T by rw [← hT]; simp [room, roomP, c1]; omega))
        clear hT hvp
        subst c1
        go_wp2_with fail
        exact ⟨⟨k + 1, m + 9, by omega, by omega, by go_num, by go_num, HT⟩, by simp [intOf]; omega⟩
      · have htx : tx.length ≤ 60 := by
          rcases hvp with ⟨h, _, _⟩ | ⟨_, _, h⟩
          · exact absurd h c1
          · exact h
        have HT := Lib.hid (And.intro HB.out (show (m + 2 * tx.length + 3) + room (l.drop (k + 1)) = T by rw [← hT]; simp [room, roomP, c1]; omega))
        clear hT hvp
        go_wp2_with fail
        exact ⟨⟨k + 1, m + 2 * tx.length + 3, by omega, by omega, by go_num, by go_num, HT⟩, by simp [intOf]; omega⟩
    · obtain rfl : k = l.length := by omega
      have hTT : m = T := by rw [← H.out.2, List.drop_length]; rfl
      subst hTT
      go_wp2_with fail
      go_ret
      exact ⟨rfl, H.out.1⟩
end Go.Proofs.YtfogepoebihnoaaDoor
