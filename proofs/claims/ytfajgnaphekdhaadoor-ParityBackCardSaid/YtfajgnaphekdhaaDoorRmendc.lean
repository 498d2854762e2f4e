/- bedrockref.Mend answers what parity.Mend does. Conditions: the slices read as the pieces. -/
import Derived.Test.YtfajgnaphekdhaaDoorPuniq
namespace Go.Proofs.YtfajgnaphekdhaaDoor
open Go.RowKit
set_option linter.unusedSimpArgs false
set_option linter.unusedVariables false
theorem mapK_get (n : Nat) (L : List UInt8) (a : Nat) : ((mapK n L).getD a 0).toNat = dblN n (L.getD a 0).toNat := by
  unfold mapK
  rw [List.getD, List.getElem?_map, List.getD]
  cases h : L[a]? with
  | none => exact (dblN_zero n).symm
  | some x => exact ofN _ (dblN_lt n _ x.toNat_lt)
theorem ftL_empty (a : Nat) (col : List (List UInt8)) (k : Nat) (x : List UInt8) (r : List (List UInt8)) (h : x.length = 0) : ftL a col k (x :: r) = ftL a col (k + 1) r := by
  simp only [ftL]
  rw [if_neg (by omega)]
theorem ftL_one (a : Nat) (col : List (List UInt8)) (k : Nat) (x : List UInt8) (r : List (List UInt8)) (h : 0 < x.length) : ftL a col k (x :: r) = (decide ((x.getD a 0).toNat = exN col 0 ((k : Int) + 1)) && ftL a col (k + 1) r) := by
  simp only [ftL]
  by_cases e : (x.getD a 0).toNat = exN col 0 ((k : Int) + 1)
  · rw [if_neg (by intro h; exact h.2 e), decide_eq_true e, Bool.true_and]
  · rw [if_pos ⟨h, e⟩, decide_eq_false e, Bool.false_and]
theorem xor_swap (p v s : Nat) : p = v ^^^ s ↔ v = s ^^^ p := by
  constructor
  · rintro rfl
    rw [Nat.xor_comm v s, ← Nat.xor_assoc, Nat.xor_self, Nat.zero_xor]
  · rintro rfl
    rw [Nat.xor_comm s p, Nat.xor_assoc, Nat.xor_self, Nat.xor_zero]
/-- what is found at place t -/
noncomputable def fndS (sz : Nat) (D : List (List UInt8)) (Pp Qq : List UInt8) (T : List Nat) (t : Nat) : List UInt8 := match T with
  | [x, y] => [(bothQ y (lgk x y) (xorL (pAcc sz D.reverse) Pp) (xorL (qAcc sz D.reverse) Qq)).getD t 0, (bothP y (lgk x y) (xorL (pAcc sz D.reverse) Pp) (xorL (qAcc sz D.reverse) Qq)).getD t 0]
  | [x] => [if 0 < Pp.length then (xorL (pAcc sz D.reverse) Pp).getD t 0 else (mapK (254 * x) (xorL (qAcc sz D.reverse) Qq)).getD t 0]
  | _ => []
section
variable {sz n : Nat} {D : List (List UInt8)} {Pp Qq : List UInt8}
theorem acc_len (hD : ∀ b ∈ D, b.length ≤ sz) (hP : Pp.length ≤ sz) : (xorL (pAcc sz D.reverse) Pp).length = sz ∧ (xorL (qAcc sz D.reverse) Pp).length = sz := by
  have h1 := pAcc_len sz D.reverse (fun b hb => hD b (List.mem_reverse.1 hb))
  have h2 := qAcc_len sz D.reverse (fun b hb => hD b (List.mem_reverse.1 hb))
  exact ⟨by rw [xorL_len _ _ (by omega)]; exact h1, by rw [xorL_len _ _ (by omega)]; exact h2⟩
theorem acc_get (hD : ∀ b ∈ D, b.length ≤ sz) (hP : Pp.length ≤ sz) (a : Nat) : ((xorL (pAcc sz D.reverse) Pp).getD a 0).toNat = colP (colAt a D) ^^^ (Pp.getD a 0).toNat ∧ ((xorL (qAcc sz D.reverse) Pp).getD a 0).toNat = colQ 0 (colAt a D) ^^^ (Pp.getD a 0).toNat := by
  have h1 := pAcc_len sz D.reverse (fun b hb => hD b (List.mem_reverse.1 hb))
  have h2 := qAcc_len sz D.reverse (fun b hb => hD b (List.mem_reverse.1 hb))
  refine ⟨?_, ?_⟩
  · rw [xorL_get _ _ _ (by omega), UInt8.toNat_xor, pAcc_get sz D a hD]
  · rw [xorL_get _ _ _ (by omega), UInt8.toNat_xor, qAcc_get sz D a hD]
theorem outT_mend (hD : ∀ b ∈ D, b.length ≤ sz) (hP : Pp.length ≤ sz) (hQ : Qq.length ≤ sz) (T : List Nat) (hT : lostL 0 D = T) (h2 : T.length ≤ 2) : outT (fndS sz D Pp Qq T) D sz = mendOut sz D Pp Qq T := by
  obtain ⟨l1, _⟩ := acc_len (Pp := Pp) hD hP
  obtain ⟨_, l2⟩ := acc_len (Pp := Qq) hD hQ
  match T, hT, h2 with
  | [], hT, _ => exact outT_none _ D hT sz
  | [x], hT, _ =>
    by_cases hp : 0 < Pp.length
    · have h := outT_one (fndS sz D Pp Qq [x]) D x (xorL (pAcc sz D.reverse) Pp) hT (fun t ht => by simp only [fndS]; rw [if_pos hp]) sz (by omega)
      rw [h, List.take_of_length_le (by omega)]
      exact (if_pos hp).symm
    · have h := outT_one (fndS sz D Pp Qq [x]) D x (mapK (254 * x) (xorL (qAcc sz D.reverse) Qq)) hT (fun t ht => by simp only [fndS]; rw [if_neg hp]) sz (by rw [mapK_len]; omega)
      rw [h, List.take_of_length_le (by rw [mapK_len]; omega)]
      exact (if_neg hp).symm
  | [x, y], hT, _ =>
    have e1 := bothQ_len y (lgk x y) _ _ (l1.trans l2.symm)
    have e2 := bothP_len y (lgk x y) _ _ (l1.trans l2.symm)
    have h := outT_two (fndS sz D Pp Qq [x, y]) D x y _ _ hT (by rw [e1, e2, l1, l2]) (fun t ht => rfl) sz (by omega)
    rw [h, List.take_of_length_le (by omega), List.take_of_length_le (by omega)]
    rfl
  | x :: y :: z :: r, _, h2 => simp at h2
/-- one datum is lost, P is there -/
theorem fit_p (hD : ∀ b ∈ D, b.length ≤ sz) (hP : Pp.length ≤ sz) (hp : 0 < Pp.length) (x : Nat) (hT : lostL 0 D = [x]) (a : Nat) (E' : List (List UInt8)) (hE : ∀ b ∈ E', b.length = 0) (v : Nat) (hv : v < 256) :
    ftL a (fillC a [UInt8.ofNat v] D) 0 (Pp :: E') = decide (v = ((xorL (pAcc sz D.reverse) Pp).getD a 0).toNat) := by
  have hE2 : ∀ (E : List (List UInt8)) (k : Nat) col, (∀ b ∈ E, b.length = 0) → ftL a col k E = true := by
    intro E
    induction E with
    | nil => intro k col _; rfl
    | cons b r ih => intro k col h; rw [ftL_empty _ _ _ _ _ (h b (by simp))]; exact ih _ _ (fun x hx => h x (by simp [hx]))
  rw [ftL_one _ _ _ _ _ hp, hE2 _ _ _ hE, Bool.and_true, (acc_get hD hP a).1]
  show decide ((Pp.getD a 0).toNat = colP (colAt 0 (fillC a [UInt8.ofNat v] D))) = _
  rw [(fill_one a D 0 x 0 _ [] hT).1, ofN v hv]
  exact decide_eq_decide.2 (xor_swap _ _ _)
/-- one datum is lost, and P -/
theorem fit_q (hD : ∀ b ∈ D, b.length ≤ sz) (hQ : Qq.length ≤ sz) (hp : Pp.length = 0) (hq : 0 < Qq.length) (x : Nat) (hT : lostL 0 D = [x]) (a v : Nat) (hv : v < 256) :
    ftL a (fillC a [UInt8.ofNat v] D) 0 [Pp, Qq] = decide (v = ((mapK (254 * x) (xorL (qAcc sz D.reverse) Qq)).getD a 0).toNat) := by
  rw [ftL_empty _ _ _ _ _ hp, ftL_one _ _ _ _ _ hq]
  simp only [ftL, Bool.and_true]
  show decide ((Qq.getD a 0).toNat = colQ 0 (colAt 0 (fillC a [UInt8.ofNat v] D))) = _
  rw [(fill_one a D 0 x 0 _ [] hT).2, ofN v hv, mapK_get, (acc_get hD hQ a).2]
  refine decide_eq_decide.2 ?_
  rw [Nat.zero_add, Nat.sub_zero, xor_swap]
  have hl : colQ 0 (colAt a D) ^^^ (Qq.getD a 0).toNat < 256 := by
    rw [← (acc_get hD hQ a).2]; exact UInt8.toNat_lt _
  constructor
  · intro h; rw [← h, dblN_inv x v hv]
  · intro h; rw [h, dblN_inv' x _ hl]
/-- two data are lost -/
theorem fit_two (hD : ∀ b ∈ D, b.length ≤ sz) (hP : Pp.length ≤ sz) (hQ : Qq.length ≤ sz) (hp : 0 < Pp.length) (hq : 0 < Qq.length) (x y : Nat) (hT : lostL 0 D = [x, y]) (hx : x < 16) (hy : y < 16) (hxy : x ≠ y) (a v : Nat) (hv : v < 256) :
    ftL a (fillC a [UInt8.ofNat v, UInt8.ofNat ((v ^^^ (Pp.getD a 0).toNat) ^^^ colP (colAt a D))] D) 0 [Pp, Qq] = decide (v = ((bothQ y (lgk x y) (xorL (pAcc sz D.reverse) Pp) (xorL (qAcc sz D.reverse) Qq)).getD a 0).toNat) := by
  have l1 := (acc_len (Pp := Pp) hD hP).1
  have l2 := (acc_len (Pp := Qq) hD hQ).2
  have hpl := (Pp.getD a 0).toNat_lt
  have hcl := colP_lt a D
  have hyl : (v ^^^ (Pp.getD a 0).toNat) ^^^ colP (colAt a D) < 256 := Nat.xor_lt_two_pow (n := 8) (Nat.xor_lt_two_pow (n := 8) hv hpl) hcl
  rw [ftL_one _ _ _ _ _ hp, ftL_one _ _ _ _ _ hq]
  simp only [ftL, Bool.and_true]
  show (decide ((Pp.getD a 0).toNat = colP (colAt 0 (fillC a _ D))) && decide ((Qq.getD a 0).toNat = colQ 0 (colAt 0 (fillC a _ D)))) = _
  obtain ⟨e1, e2⟩ := fill_two a D 0 x y 0 (UInt8.ofNat v) (UInt8.ofNat ((v ^^^ (Pp.getD a 0).toNat) ^^^ colP (colAt a D))) [] hT
  rw [e1, e2, ofN v hv, ofN _ hyl]
  rw [show bothQ y (lgk x y) (xorL (pAcc sz D.reverse) Pp) (xorL (qAcc sz D.reverse) Qq) = mapK (254 * lgk x y) (xorL (xorL (qAcc sz D.reverse) Qq) (mapK y (xorL (pAcc sz D.reverse) Pp))) from rfl]
  rw [mapK_get, xorL_get _ _ _ (by rw [mapK_len]; omega), UInt8.toNat_xor, mapK_get, (acc_get hD hP a).1, (acc_get hD hQ a).2, Nat.zero_add, Nat.zero_add, Nat.sub_zero, Nat.sub_zero]
  have hk := dblN_sum x y (lgk x y) v (lgk_eq x y hx hy hxy) hv
  have hql := (Qq.getD a 0).toNat_lt
  have hcq : colQ 0 (colAt a D) < 256 := by
    have := (acc_get hD hQ a).2
    have h3 : colQ 0 (colAt a D) = ((xorL (qAcc sz D.reverse) Qq).getD a 0).toNat ^^^ (Qq.getD a 0).toNat := by rw [this, Nat.xor_assoc, Nat.xor_self, Nat.xor_zero]
    rw [h3]
    exact Nat.xor_lt_two_pow (n := 8) (UInt8.toNat_lt _) hql
  generalize (Pp.getD a 0).toNat = p at *
  generalize (Qq.getD a 0).toNat = q at *
  generalize colP (colAt a D) = SP at *
  generalize colQ 0 (colAt a D) = SQ at *
  generalize lgk x y = k at *
  have h1 : p = v ^^^ ((v ^^^ p) ^^^ SP ^^^ SP) := by
    rw [Nat.xor_assoc (v ^^^ p), Nat.xor_self, Nat.xor_zero, ← Nat.xor_assoc, Nat.xor_self, Nat.zero_xor]
  rw [decide_eq_true h1, Bool.true_and]
  have h2 : dblN x v ^^^ (dblN y ((v ^^^ p) ^^^ SP) ^^^ SQ) = dblN k v ^^^ (dblN y (SP ^^^ p) ^^^ SQ) := by
    rw [Nat.xor_assoc v p SP, dblN_xor, Nat.xor_comm p SP, ← hk]
    simp only [Nat.xor_assoc]
  rw [h2]
  have hin : (SQ ^^^ q) ^^^ dblN y (SP ^^^ p) < 256 := Nat.xor_lt_two_pow (n := 8) (Nat.xor_lt_two_pow (n := 8) hcq hql) (dblN_lt _ _ (Nat.xor_lt_two_pow (n := 8) hcl hpl))
  refine decide_eq_decide.2 ?_
  have h3 : (q = dblN k v ^^^ (dblN y (SP ^^^ p) ^^^ SQ)) ↔ dblN k v = (SQ ^^^ q) ^^^ dblN y (SP ^^^ p) := by
    rw [xor_swap]
    have : (dblN y (SP ^^^ p) ^^^ SQ) ^^^ q = (SQ ^^^ q) ^^^ dblN y (SP ^^^ p) := by rw [Nat.xor_assoc, Nat.xor_comm]
    rw [this]
  rw [h3]
  constructor
  · intro h; rw [← h, dblN_inv k v hv]
  · intro h; rw [h, dblN_inv' k _ hin]
end
theorem useL_take (ls : List (List UInt8)) (n m : Nat) : (useL ls n m).take n = ls.take n := by
  unfold useL
  split
  · exact List.take_set_of_le (by omega)
  · rfl
theorem useL_mem (ls : List (List UInt8)) (n m : Nat) : ∀ b ∈ useL ls n m, 0 < b.length → b ∈ ls := fun b hb h0 => by
  unfold useL at hb
  split at hb
  · rcases List.mem_or_eq_of_mem_set hb with hb | rfl
    · exact hb
    · simp at h0
  · exact hb
theorem getD_at {ls : List (List UInt8)} {k : Nat} (h : k < ls.length) : ls.getD k [] = ls[k] := by simp [List.getD, h]
theorem drop_one {ls : List (List UInt8)} {n : Nat} (h : n + 1 = ls.length) : ls.drop n = [ls.getD n []] := by
  rw [List.drop_eq_getElem_cons (by omega), List.drop_of_length_le (by omega), getD_at (by omega)]
theorem drop_two {ls : List (List UInt8)} {n : Nat} (h : n + 2 = ls.length) : ls.drop n = [ls.getD n [], ls.getD (n + 1) []] := by
  rw [List.drop_eq_getElem_cons (by omega), List.drop_eq_getElem_cons (i := n + 1) (by omega), List.drop_of_length_le (by omega), getD_at (by omega), getD_at (by omega)]
theorem fnd_calls (ls : List (List UInt8)) (n m sz t : Nat) (W : World) (Au : Option Addr) (cu : Nat) (hr : RdL W Au (useL ls n m)) (hcu : ls.length ≤ cu) (hl : ls.length ≤ 1000) (hnm : n + m = ls.length) (hm : m ≤ 2) (hn16 : n ≤ 16) (hszl : szL 0 ls = some sz) (hsz2 : sz ≤ 4096) (he : emptyN ls ≤ m) (ht : t < sz) :
    Calls Tryd.prog 28 #[.slice Au ls.length cu, .int .i64 m, .int .i64 t] W fun e W' => FndPost W (fndS sz (ls.take n) (ls.getD n []) (ls.getD (n + 1) []) (lostL 0 (ls.take n)) t) e W' := by
  have hle := (szL_all ls 0 sz hszl).2.1
  have heq := szL_eq ls 0 sz hszl
  have hD : ∀ b ∈ ls.take n, b.length ≤ sz := fun b hb => hle b (List.mem_of_mem_take hb)
  have hul := useL_len ls n m
  have hut := useL_take ls n m
  have hall : ∀ b ∈ useL ls n m, 0 < b.length → t < b.length := fun b hb h0 => by
    have := heq b (useL_mem ls n m b hb h0) h0
    omega
  have hget : ∀ k, (ls.getD k []).length ≤ sz := fun k => by
    by_cases hk : k < ls.length
    · rw [getD_at hk]; exact hle _ (List.getElem_mem hk)
    · simp [List.getD, Array.getElem?_eq_none, show ls[k]? = none from List.getElem?_eq_none (by omega)]
  have hE0 := lostL_len (ls.take n) 0
  rcases lost_cases ls n m hnm hm (by rw [lostL_len]; exact he) with hT | ⟨x, hT, hx, hm1, hP0⟩ | ⟨x, y, hT, hx, hy, hxy, hm2⟩
  · rw [hT] at hE0 ⊢
    have h := found0_calls Au cu (useL ls n m) n m t W hr (by omega) (by omega) (by omega) hm (by rw [hut]; simpa using hE0.symm)
    rw [hul] at h
    exact h
  · rw [hT] at hE0 ⊢
    have hE1 : emptyN (ls.take n) = 1 := by simpa using hE0.symm
    by_cases hp : 0 < (ls.getD n []).length
    · obtain ⟨E', hE, hEe⟩ : ∃ E', (useL ls n m).drop n = ls.getD n [] :: E' ∧ ∀ b ∈ E', b.length = 0 := by
        unfold useL
        rcases (show m = 1 ∨ m = 2 by omega) with rfl | rfl
        · rw [if_neg (by omega)]
          exact ⟨[], drop_one (by omega), by simp⟩
        · rw [if_pos ⟨hE1, rfl, hp⟩]
          refine ⟨[[]], ?_, by simp⟩
          rw [drop_two (by simp; omega)]
          have e1 : (ls.set (n + 1) []).getD n [] = ls.getD n [] := by
            rw [getD_at (by simp; omega), getD_at (by omega)]
            simp
          have e2 : (ls.set (n + 1) []).getD (n + 1) [] = [] := by
            rw [getD_at (by simp; omega)]
            simp
          rw [e1, e2]
      have hx0 : ((xorL (pAcc sz (ls.take n).reverse) (ls.getD n [])).getD t 0).toNat < 256 := UInt8.toNat_lt _
      have h := found1_calls Au cu (useL ls n m) n m t _ W hr (by omega) (by omega) (by omega) hm (by omega) hall (by rw [hut]; exact hE1) hx0 (fun v hv => by rw [hut, hE]; exact fit_p hD (hget n) hp x hT t E' hEe v hv)
      rw [hul] at h
      refine h.mono fun e W' h => ?_
      simp only [fndS]
      rw [if_pos hp]
      rwa [UInt8.ofNat_toNat] at h
    · have hp1 : (ls.getD n []).length = 0 := by omega
      have hm2 := hP0 hp1
      subst hm2
      have hq : 0 < (ls.getD (n + 1) []).length := by
        rcases Nat.eq_zero_or_pos (ls.getD (n + 1) []).length with h0 | h0
        · exfalso
          have h1 : emptyN ls = emptyN (ls.take n) + emptyN (ls.drop n) := by rw [← emptyN_append, List.take_append_drop]
          rw [drop_two (by omega)] at h1
          simp only [emptyN] at h1
          rw [if_pos hp1, if_pos h0] at h1
          omega
        · exact h0
      have hE : (useL ls n 2).drop n = [ls.getD n [], ls.getD (n + 1) []] := by
        unfold useL
        rw [if_neg (fun h => hp h.2.2)]
        exact drop_two (by omega)
      have hx0 : ((mapK (254 * x) (xorL (qAcc sz (ls.take n).reverse) (ls.getD (n + 1) []))).getD t 0).toNat < 256 := UInt8.toNat_lt _
      have h := found1_calls Au cu (useL ls n 2) n 2 t _ W hr (by omega) (by omega) (by omega) hm (by omega) hall (by rw [hut]; exact hE1) hx0 (fun v hv => by rw [hut, hE]; exact fit_q hD (hget (n + 1)) hp1 hq x hT t v hv)
      rw [hul] at h
      refine h.mono fun e W' h => ?_
      simp only [fndS]
      rw [if_neg hp]
      rwa [UInt8.ofNat_toNat] at h
  · rw [hT] at hE0 ⊢
    have hE2 : emptyN (ls.take n) = 2 := by simpa using hE0.symm
    subst hm2
    have h1 : emptyN ls = emptyN (ls.take n) + emptyN (ls.drop n) := by rw [← emptyN_append, List.take_append_drop]
    rw [drop_two (by omega)] at h1
    simp only [emptyN] at h1
    have hp : 0 < (ls.getD n []).length := by
      rcases Nat.eq_zero_or_pos (ls.getD n []).length with h0 | h0
      · rw [if_pos h0] at h1; omega
      · exact h0
    have hq : 0 < (ls.getD (n + 1) []).length := by
      rcases Nat.eq_zero_or_pos (ls.getD (n + 1) []).length with h0 | h0
      · rw [if_pos h0] at h1; omega
      · exact h0
    have hE : (useL ls n 2).drop n = [ls.getD n [], ls.getD (n + 1) []] := by
      unfold useL
      rw [if_neg (by omega)]
      exact drop_two (by omega)
    have hun : (useL ls n 2).getD n [] = ls.getD n [] := by
      unfold useL
      rw [if_neg (by omega)]
    have hx0 : ((bothQ y (lgk x y) (xorL (pAcc sz (ls.take n).reverse) (ls.getD n [])) (xorL (qAcc sz (ls.take n).reverse) (ls.getD (n + 1) []))).getD t 0).toNat < 256 := UInt8.toNat_lt _
    have h := found2_calls Au cu (useL ls n 2) n 2 t _ ((ls.getD n []).getD t 0).toNat W hr (by omega) (by omega) (by omega) hm (by omega) (by omega) (by rw [hun]; exact hp) (by rw [hun]) hall (by rw [hut]; exact hE2) hx0
      (fun v hv => by rw [hut, hE]; exact fit_two hD (hget n) (hget (n + 1)) hp hq x y hT (by omega) (by omega) hxy t v hv)
    rw [hul, hut] at h
    refine h.mono fun e W' h => ?_
    simp only [fndS]
    rw [UInt8.ofNat_toNat] at h
    have l1 := (acc_len (Pp := ls.getD n []) hD (hget n)).1
    have l2 := (acc_len (Pp := ls.getD (n + 1) []) hD (hget (n + 1))).2
    have e2 : UInt8.ofNat ((((bothQ y (lgk x y) (xorL (pAcc sz (ls.take n).reverse) (ls.getD n [])) (xorL (qAcc sz (ls.take n).reverse) (ls.getD (n + 1) []))).getD t 0).toNat ^^^ ((ls.getD n []).getD t 0).toNat) ^^^ colP (colAt t (ls.take n))) = (bothP y (lgk x y) (xorL (pAcc sz (ls.take n).reverse) (ls.getD n [])) (xorL (qAcc sz (ls.take n).reverse) (ls.getD (n + 1) []))).getD t 0 := by
      apply UInt8.toNat_inj.1
      have hb : bothP y (lgk x y) (xorL (pAcc sz (ls.take n).reverse) (ls.getD n [])) (xorL (qAcc sz (ls.take n).reverse) (ls.getD (n + 1) [])) = xorL (xorL (pAcc sz (ls.take n).reverse) (ls.getD n [])) (bothQ y (lgk x y) (xorL (pAcc sz (ls.take n).reverse) (ls.getD n [])) (xorL (qAcc sz (ls.take n).reverse) (ls.getD (n + 1) []))) := rfl
      rw [hb, xorL_get _ _ _ (by rw [bothQ_len _ _ _ _ (l1.trans l2.symm)]; omega), UInt8.toNat_xor, (acc_get hD (hget n) t).1, ofN _ (Nat.xor_lt_two_pow (n := 8) (Nat.xor_lt_two_pow (n := 8) (UInt8.toNat_lt _) (UInt8.toNat_lt _)) (colP_lt _ _))]
      rw [Nat.xor_comm, Nat.xor_comm (UInt8.toNat _) ((ls.getD n []).getD t 0).toNat, ← Nat.xor_assoc]
    rw [e2] at h
    exact h
theorem rmend_calls (A : Option Addr) (c : Nat) (ls : List (List UInt8)) (lv : Int) (w : World) (hr : RdL w A ls) (hc : ls.length ≤ c) (hl : ls.length ≤ 1000) (hs : ∀ b ∈ ls, b.length ≤ 140737488351232) :
    Calls Tryd.prog 13 #[.slice A ls.length c, .int .i64 lv] w fun e W' => RmPost w (mendR ls lv) e W' := by
  have heq := lostL_len ls 0
  unfold mendR
  by_cases hlv : lv < 0 ∨ 2 < lv
  · have hch : chkR ls lv = (0, 5) := by unfold chkR; rw [if_pos hlv]
    rw [hch, if_pos (by decide)]
    exact rmend_err A c ls lv 5 w hr hl hs (.inl ⟨hlv, rfl⟩)
  · by_cases hn : refSize ls ((ls.length : Int) - lv) < 0
    · have hch : chkR ls lv = (0, 10) := by unfold chkR; rw [if_neg hlv, if_pos ((refSize_neg _ _).1 hn)]
      rw [hch, if_pos (by decide)]
      exact rmend_err A c ls lv 10 w hr hl hs (.inr (.inl ⟨hlv, hn, rfl⟩))
    · have hok : (sizedR ls ((ls.length : Int) - lv)).2 = true := by
        cases h : (sizedR ls ((ls.length : Int) - lv)).2
        · exact absurd ((refSize_neg _ _).2 h) hn
        · rfl
      have hch : chkR ls lv = ((sizedR ls ((ls.length : Int) - lv)).1, 0) := by unfold chkR; rw [if_neg hlv, if_neg (by rw [hok]; decide)]
      have hrs : refSize ls ((ls.length : Int) - lv) = (sizedR ls ((ls.length : Int) - lv)).1 := by unfold refSize; rw [hok, if_pos rfl]
      rcases chkR_cases ls lv with h | h | ⟨sz, n, m, h, rfl, hnm, k1, k2, k3, k4, k5, hsz⟩
      · rw [hch] at h; injection h with _ h; exact absurd h (by decide)
      · rw [hch] at h; injection h with _ h; exact absurd h (by decide)
      · have hrs2 : refSize ls ((ls.length : Int) - (m : Int)) = (sz : Int) := by
          rw [hrs]
          rw [hch] at h
          injection h
        rw [h, if_neg (by simp), heq]
        by_cases he : (m : Int) < (emptyN ls : Int)
        · rw [if_pos he]
          exact rmend_err A c ls m 11 w hr hl hs (.inr (.inr ⟨hlv, hn, he, rfl⟩))
        · rw [if_neg he]
          have hle := (szL_all ls 0 sz hsz).2.1
          have hget : ∀ k, (ls.getD k []).length ≤ sz := fun k => by
            by_cases hk : k < ls.length
            · rw [getD_at hk]; exact hle _ (List.getElem_mem hk)
            · simp [List.getD, show ls[k]? = none from List.getElem?_eq_none (by omega)]
          have hE0 := lostL_len (ls.take n) 0
          have hlc := lost_cases ls n m hnm k5 (by rw [lostL_len]; omega)
          have h2 : (lostL 0 (ls.take n)).length ≤ 2 := by
            rcases hlc with hT | ⟨x, hT, _⟩ | ⟨x, y, hT, _⟩ <;> rw [hT] <;> simp
          have h3 := rmend_ok A c ls n m sz (fndS sz (ls.take n) (ls.getD n []) (ls.getD (n + 1) []) (lostL 0 (ls.take n))) w hr hc hl hle hnm k5 hrs2 k2 (by omega) k4 (by omega)
            (fun t ht => by
              rcases hlc with hT | ⟨x, hT, _⟩ | ⟨x, y, hT, _⟩ <;> rw [hT] at hE0 ⊢ <;> simpa [fndS] using hE0)
            (fun t ht W Au cu hr' hcu => fnd_calls ls n m sz t W Au cu hr' hcu hl hnm k5 k4 hsz k2 (by omega) ht)
          rw [outT_mend (fun b hb => hle b (List.mem_of_mem_take hb)) (hget n) (hget (n + 1)) _ rfl h2] at h3
          simpa only [Int.toNat_natCast, show ls.length - m = n by omega] using h3
end Go.Proofs.YtfajgnaphekdhaaDoor
