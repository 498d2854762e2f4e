/- The data come back whatever is lost; the piece that was turned is found. No walk. -/
import Derived.Test.YtfajgnaphekdhaaDoorPfeq
namespace Go.Proofs.YtfajgnaphekdhaaDoor
open Go.RowKit
set_option linter.unusedSimpArgs false
set_option linter.unusedVariables false
theorem list_iff {b c : List UInt8} {sz : Nat} (hb : b.length = sz) (hc : c.length = sz) : b = c ↔ ∀ a, a < sz → (b.getD a 0).toNat = (c.getD a 0).toNat := by
  constructor
  · rintro rfl _ _; rfl
  · intro h
    apply List.ext_getElem (by omega)
    intro a h1 h2
    have := h a (by omega)
    simp only [List.getD, List.getElem?_eq_getElem h1, List.getElem?_eq_getElem h2, Option.getD_some] at this
    exact UInt8.toNat_inj.1 this
theorem lostL_in : ∀ (D : List (List UInt8)) (k i : Nat) (h : i < D.length), D[i] = [] → k + i ∈ lostL k D
  | [], _, _, h, _ => by simp at h
  | b :: r, k, 0, _, e => by
    simp only [List.getElem_cons_zero] at e
    subst e
    simp only [lostL]
    rw [if_pos (show ([] : List UInt8).length = 0 from rfl)]
    simp
  | b :: r, k, i + 1, h, e => by
    have ih := lostL_in r (k + 1) i (by simpa using h) (by simpa using e)
    rw [show k + 1 + i = k + (i + 1) by omega] at ih
    simp only [lostL]
    split
    · exact List.mem_cons_of_mem _ ih
    · exact ih
theorem szL_sz (sz : Nat) : ∀ (X : List (List UInt8)), (∀ b ∈ X, b.length = 0 ∨ b.length = sz) → szL sz X = some sz
  | [], _ => rfl
  | b :: r, h => by
    simp only [szL]
    have hb := h b (by simp)
    rw [if_neg (by rintro ⟨h1, h2, h3⟩; rcases hb with hb | hb <;> omega), show max sz b.length = sz by rcases hb with hb | hb <;> omega]
    exact szL_sz sz r fun x hx => h x (by simp [hx])
theorem szL_zero (sz : Nat) (h0 : 0 < sz) : ∀ (X : List (List UInt8)), (∀ b ∈ X, b.length = 0 ∨ b.length = sz) → (∃ b ∈ X, b.length = sz) → szL 0 X = some sz
  | [], _, h => by obtain ⟨b, hb, _⟩ := h; simp at hb
  | b :: r, h, he => by
    simp only [szL]
    rw [if_neg (by omega), Nat.zero_max]
    rcases h b (by simp) with hb | hb
    · rw [hb]
      refine szL_zero sz h0 r (fun x hx => h x (by simp [hx])) ?_
      obtain ⟨x, hx, hxl⟩ := he
      rcases List.mem_cons.1 hx with rfl | hx
      · omega
      · exact ⟨x, hx, hxl⟩
    · rw [hb]
      exact szL_sz sz r fun x hx => h x (by simp [hx])
theorem chk_ok (X : List (List UInt8)) (n lv sz : Nat) (hX : X.length = n + lv) (hlv : lv ≤ 2) (h0 : 0 < sz) (hs : sz ≤ 4096) (hn : 1 ≤ n) (hn2 : n ≤ 16) (h : szL 0 X = some sz) : chkR X (lv : Int) = ((sz : Int), 0) := by
  unfold chkR
  rw [if_neg (by omega), show ((X.length : Int) - (lv : Int)) = (n : Int) by omega]
  have hz : sizedR X (n : Int) = ((sz : Int), true) := by
    unfold sizedR
    rw [h]
    show ((sz : Int), szOk sz (n : Int)) = _
    congr 1
    unfold szOk
    rw [decide_eq_true h0, decide_eq_true hs, decide_eq_true (show (1 : Int) ≤ (n : Int) by omega), decide_eq_true (show (n : Int) ≤ 16 by omega)]
    rfl
  rw [hz]
  rfl
section
variable (L : List (List UInt8)) (sz : Nat)
def pq (lv : Nat) : List (List UInt8) := [pAcc sz L.reverse, qAcc sz L.reverse].take lv
variable (hL : ∀ b ∈ L, b.length = sz) (h0 : 0 < sz) (hs : sz ≤ 4096) (hn : 1 ≤ L.length) (hn2 : L.length ≤ 16)
include hL in
theorem pq_len (lv : Nat) : ∀ b ∈ L ++ pq L sz lv, b.length = sz := fun b hb => by
  rcases List.mem_append.1 hb with hb | hb
  · exact hL b hb
  · have hb2 := List.mem_of_mem_take hb
    have hle : ∀ b ∈ L.reverse, b.length ≤ sz := fun b hb => by rw [hL b (List.mem_reverse.1 hb)]; exact Nat.le_refl _
    simp only [List.mem_cons, List.not_mem_nil, or_false] at hb2
    rcases hb2 with rfl | rfl
    · exact pAcc_len sz _ hle
    · exact qAcc_len sz _ hle
include hL in
theorem p0_get (a : Nat) : ((pAcc sz L.reverse).getD a 0).toNat = colP (colAt a L) := pAcc_get sz L a fun b hb => by rw [hL b hb]; exact Nat.le_refl _
include hL in
theorem q0_get (a : Nat) : ((qAcc sz L.reverse).getD a 0).toNat = colQ 0 (colAt a L) := qAcc_get sz L a fun b hb => by rw [hL b hb]; exact Nat.le_refl _
include hL h0 hs hn hn2 in
theorem mend_back (lv : Nat) (hlv : lv ≤ 2) (X : List (List UInt8)) (hX : X.length = L.length + lv) (hXi : ∀ i (h : i < X.length) (h2 : i < (L ++ pq L sz lv).length), X[i] = (L ++ pq L sz lv)[i] ∨ X[i] = []) (he : emptyN X ≤ lv) : mendR X (lv : Int) = (0, L) := by
  have hpl : (pq L sz lv).length = lv := by simp [pq]; omega
  have hAl := pq_len L sz hL lv
  have hxl : ∀ b ∈ X, b.length = 0 ∨ b.length = sz := fun b hb => by
    obtain ⟨i, hi, rfl⟩ := List.getElem_of_mem hb
    rcases hXi i hi (by simp [hpl]; omega) with h | h
    · rw [h]; exact .inr (hAl _ (List.getElem_mem _))
    · rw [h]; exact .inl rfl
  have hex : ∃ b ∈ X, b.length = sz := Classical.byContradiction fun hno => by
    have hall : ∀ b ∈ X, b.length = 0 := fun b hb => (hxl b hb).resolve_right fun h => hno ⟨b, hb, h⟩
    have : ∀ Y : List (List UInt8), (∀ b ∈ Y, b.length = 0) → emptyN Y = Y.length := by
      intro Y
      induction Y with
      | nil => intro _; rfl
      | cons b r ih =>
        intro h
        simp only [emptyN, List.length_cons]
        rw [if_pos (h b (by simp)), ih (fun x hx => h x (by simp [hx]))]
        omega
    have := this X hall
    omega
  have hsz := szL_zero sz h0 X hxl hex
  have hch := chk_ok X L.length lv sz hX hlv h0 hs hn hn2 hsz
  have hloL : (lostL 0 X).length ≤ lv := by rw [lostL_len]; exact he
  unfold mendR
  rw [hch, if_neg (show ¬ (((sz : Int), (0 : Int)).2 ≠ 0) by simp), if_neg (by omega)]
  simp only [Int.toNat_natCast, show X.length - lv = L.length by omega]
  congr 1
  have hDl : (X.take L.length).length = L.length := by simp; omega
  have hDi : ∀ i (h : i < (X.take L.length).length) (h2 : i < L.length), (X.take L.length)[i] = L[i] ∨ (X.take L.length)[i] = [] := fun i h h2 => by
    have := hXi i (by omega) (by simp; omega)
    rw [List.getElem_append_left h2] at this
    simpa using this
  have hPp : 1 ≤ lv → (X.getD L.length []).length ≠ 0 → X.getD L.length [] = pAcc sz L.reverse := fun h1 h2 => by
    rw [getD_at (by omega)] at h2 ⊢
    rcases hXi L.length (by omega) (by simp [hpl]; omega) with h | h
    · rw [h, List.getElem_append_right (by omega)]
      rcases (show lv = 1 ∨ lv = 2 by omega) with rfl | rfl <;> simp [pq]
    · exact absurd (by rw [h]; rfl) h2
  have hQq : lv = 2 → (X.getD (L.length + 1) []).length ≠ 0 → X.getD (L.length + 1) [] = qAcc sz L.reverse := fun h1 h2 => by
    subst h1
    rw [getD_at (by omega)] at h2 ⊢
    rcases hXi (L.length + 1) (by omega) (by simp [hpl]) with h | h
    · rw [h, List.getElem_append_right (by omega)]
      simp [pq]
    · exact absurd (by rw [h]; rfl) h2
  have hcnt : emptyN X = emptyN (X.take L.length) + emptyN (X.drop L.length) := by rw [← emptyN_append, List.take_append_drop]
  have hE0 := lostL_len (X.take L.length) 0
  have hnot : ∀ i (h : i < (X.take L.length).length) (h2 : i < L.length), i ∉ lostL 0 (X.take L.length) → (X.take L.length)[i] = L[i] := fun i h h2 hni => (hDi i h h2).resolve_right fun e => hni (by have := lostL_in _ 0 i h e; rwa [Nat.zero_add] at this)
  have hDle : ∀ b ∈ X.take L.length, b.length ≤ sz := fun b hb => by rcases hxl b (List.mem_of_mem_take hb) with h | h <;> omega
  have hle1 : (pAcc sz L.reverse).length = sz := pAcc_len sz _ fun b hb => by rw [hL b (List.mem_reverse.1 hb)]; exact Nat.le_refl _
  have hle2 : (qAcc sz L.reverse).length = sz := qAcc_len sz _ fun b hb => by rw [hL b (List.mem_reverse.1 hb)]; exact Nat.le_refl _
  rcases lost_cases X L.length lv hX.symm hlv hloL with hT | ⟨x, hT, hx, hm1, hP0⟩ | ⟨x, y, hT, hx, hy, hxy, hm2⟩
  · rw [hT]
    show X.take L.length = L
    exact List.ext_getElem hDl fun i h1 h2 => hnot i h1 h2 (by rw [hT]; simp)
  · have hDx : X.take L.length = L.set x [] := by
      apply List.ext_getElem (by simpa using hDl)
      intro i h1 h2
      by_cases hi : x = i
      · subst hi
        have := (lost_at _ x (by rw [hT]; simp)).2
        rw [getD_at h1] at this
        rw [this]; simp
      · rw [List.getElem_set_ne hi]
        exact hnot i h1 (by omega) (by rw [hT]; simpa using Ne.symm hi)
    have hsetL : ∀ F, F = L[x] → (X.take L.length).set x F = L := fun F hF => by
      rw [hDx, List.set_set, hF]
      apply List.ext_getElem (by simp)
      intro i h1 h2
      by_cases hi : x = i
      · subst hi; simp
      · simp [List.getElem_set_ne hi]
    have hxlen : L[x].length = sz := hL _ (List.getElem_mem hx)
    rw [hT]
    by_cases hp : (X.getD L.length []).length = 0
    · have h2 := hP0 hp
      subst h2
      have hq : (X.getD (L.length + 1) []).length ≠ 0 := fun h0' => by
        rw [drop_two (by omega)] at hcnt
        simp only [emptyN] at hcnt
        rw [if_pos hp, if_pos h0', ← hE0, hT] at hcnt
        simp at hcnt
        omega
      rw [show mendOut sz (X.take L.length) (X.getD L.length []) (X.getD (L.length + 1) []) [x] = (X.take L.length).set x (mapK (254 * x) (xorL (qAcc sz (X.take L.length).reverse) (X.getD (L.length + 1) []))) from if_neg (by omega), hQq rfl hq]
      refine hsetL _ ?_
      have lq := (acc_len (Pp := qAcc sz L.reverse) hDle (by omega)).2
      rw [list_iff (by rw [mapK_len]; exact lq) hxlen]
      intro a ha
      rw [mapK_get, (acc_get hDle (by omega) a).2, q0_get L sz hL a, hDx, colQ_set a L x 0 hx, Nat.zero_add, Nat.xor_assoc, Nat.xor_self, Nat.xor_zero, dblN_inv x _ (UInt8.toNat_lt _)]
    · rw [show mendOut sz (X.take L.length) (X.getD L.length []) (X.getD (L.length + 1) []) [x] = (X.take L.length).set x (xorL (pAcc sz (X.take L.length).reverse) (X.getD L.length [])) from if_pos (by omega), hPp hm1 hp]
      refine hsetL _ ?_
      have lp := (acc_len (Pp := pAcc sz L.reverse) hDle (by omega)).1
      rw [list_iff lp hxlen]
      intro a ha
      rw [(acc_get hDle (by omega) a).1, p0_get L sz hL a, hDx, colP_set a L x hx, Nat.xor_assoc, Nat.xor_self, Nat.xor_zero]
  · subst hm2
    have hDx : X.take L.length = (L.set x []).set y [] := by
      apply List.ext_getElem (by simpa using hDl)
      intro i h1 h2
      by_cases hi : y = i
      · subst hi
        have := (lost_at _ y (by rw [hT]; simp)).2
        rw [getD_at h1] at this
        rw [this]; simp
      · rw [List.getElem_set_ne hi]
        by_cases hi2 : x = i
        · subst hi2
          have := (lost_at _ x (by rw [hT]; simp)).2
          rw [getD_at h1] at this
          rw [this]; simp
        · rw [List.getElem_set_ne hi2]
          exact hnot i h1 (by omega) (by rw [hT]; simp; omega)
    have hsetL : ∀ F G, F = L[x] → G = L[y] → ((X.take L.length).set x F).set y G = L := fun F G hF hG => by
      rw [hDx, hF, hG]
      apply List.ext_getElem (by simp)
      intro i h1 h2
      by_cases hi : y = i
      · subst hi; simp
      · rw [List.getElem_set_ne hi]
        by_cases hi2 : x = i
        · subst hi2; simp
        · rw [List.getElem_set_ne hi2, List.getElem_set_ne hi, List.getElem_set_ne hi2]
    have hxlen : L[x].length = sz := hL _ (List.getElem_mem hx)
    have hylen : L[y].length = sz := hL _ (List.getElem_mem hy)
    have hc2 : emptyN (X.take L.length) = 2 := by rw [← hE0, hT]; rfl
    rw [drop_two (by omega), hc2] at hcnt
    simp only [emptyN] at hcnt
    have hp : (X.getD L.length []).length ≠ 0 := fun h => by rw [if_pos h] at hcnt; omega
    have hq : (X.getD (L.length + 1) []).length ≠ 0 := fun h => by rw [if_pos h] at hcnt; omega
    rw [hT, hPp (by omega) hp, hQq rfl hq]
    have lp := (acc_len (Pp := pAcc sz L.reverse) hDle (by omega)).1
    have lq := (acc_len (Pp := qAcc sz L.reverse) hDle (by omega)).2
    have eP : ∀ a, ((xorL (pAcc sz (X.take L.length).reverse) (pAcc sz L.reverse)).getD a 0).toNat = (L[y].getD a 0).toNat ^^^ (L[x].getD a 0).toNat := fun a => by
      rw [(acc_get hDle (by omega) a).1, p0_get L sz hL a, hDx, colP_set a (L.set x []) y (by simpa using hy), colP_set a L x hx, List.getElem_set_ne hxy, Nat.xor_assoc, Nat.xor_assoc, Nat.xor_self, Nat.xor_zero]
    have eQ : ∀ a, ((xorL (qAcc sz (X.take L.length).reverse) (qAcc sz L.reverse)).getD a 0).toNat = dblN y (L[y].getD a 0).toNat ^^^ dblN x (L[x].getD a 0).toNat := fun a => by
      rw [(acc_get hDle (by omega) a).2, q0_get L sz hL a, hDx, colQ_set a (L.set x []) y 0 (by simpa using hy), colQ_set a L x 0 hx, List.getElem_set_ne hxy, Nat.zero_add, Nat.zero_add, Nat.xor_assoc, Nat.xor_assoc, Nat.xor_self, Nat.xor_zero]
    have hk := lgk_eq x y (by omega) (by omega) hxy
    have hBQ : bothQ y (lgk x y) (xorL (pAcc sz (X.take L.length).reverse) (pAcc sz L.reverse)) (xorL (qAcc sz (X.take L.length).reverse) (qAcc sz L.reverse)) = L[x] := by
      rw [list_iff (by rw [bothQ_len _ _ _ _ (lp.trans lq.symm)]; exact lq) hxlen]
      intro a ha
      unfold bothQ
      rw [mapK_get, xorL_get _ _ _ (by rw [mapK_len]; omega), UInt8.toNat_xor, mapK_get, eP, eQ, dblN_xor y]
      have e : (dblN y (L[y].getD a 0).toNat ^^^ dblN x (L[x].getD a 0).toNat) ^^^ (dblN y (L[y].getD a 0).toNat ^^^ dblN y (L[x].getD a 0).toNat) = dblN (lgk x y) (L[x].getD a 0).toNat := by
        rw [← dblN_sum x y (lgk x y) _ hk (UInt8.toNat_lt _)]
        generalize dblN y (L[y].getD a 0).toNat = p
        generalize dblN x (L[x].getD a 0).toNat = q
        generalize dblN y (L[x].getD a 0).toNat = r
        rw [Nat.xor_comm p q, Nat.xor_assoc, ← Nat.xor_assoc p p, Nat.xor_self, Nat.zero_xor]
      rw [e, dblN_inv _ _ (UInt8.toNat_lt _)]
    refine hsetL _ _ hBQ ?_
    rw [list_iff (by rw [bothP_len _ _ _ _ (lp.trans lq.symm)]; exact lp) hylen]
    intro a ha
    unfold bothP
    rw [hBQ, xorL_get _ _ _ (by omega), UInt8.toNat_xor, eP, Nat.xor_assoc, Nat.xor_self, Nat.xor_zero]
end
end Go.Proofs.YtfajgnaphekdhaaDoor
