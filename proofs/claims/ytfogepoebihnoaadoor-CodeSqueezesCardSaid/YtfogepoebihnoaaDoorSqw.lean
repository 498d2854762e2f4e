/- The walk of (*squeezer).plain. -/
import Derived.Test.YtfogepoebihnoaaDoorSqs
namespace Go.Proofs.YtfogepoebihnoaaDoor
open Go.RowKit Go.Shelf Go.Maps
set_option linter.unusedSimpArgs false
set_option linter.unusedVariables false
attribute [local go_sem] Oper.semAt_some
/-- what a round of the loop over the chunks keeps -/
def Sc (B n₀ Bs : Nat) (W W' : World) : Prop := KeepsFrom B W W' ∧ KpC n₀ Bs W W'
/-- the invariant: the squeezer, the pointer to it, the boxes of Chunk -/
structure PlI (w0 W : World) (R B P0 Bs : Nat) (A A' : Option Addr) (N c n lim fr L c' : Nat) (v : Value) (out : List UInt8) : Prop where
  s : SqS w0 W R B A N c n lim fr v out
  p : W.heap[P0]? = some (.cells #[.pointer (some ⟨R, 0, none⟩)] 73 (0, 0))
  b1 : W.heap[Bs]? = some (.cells #[.slice A' L c'] 22 (0, 0))
  b2 : W.heap[Bs + 1]? = some (.cells #[.int .i64 128] 3 (0, 0))
theorem rd_part {w : World} {g o : Nat} {x : List UInt8} (h : Rd w (some ⟨g, o, none⟩) x) (k : Nat) : Rd w (some ⟨g, o + k, none⟩) ((x.drop k).take 128) := fun j hj => by
  have hj2 : j < 128 ∧ k + j < x.length := by simp at hj; omega
  obtain ⟨ad, e, hc⟩ := h (k + j) hj2.2
  cases e
  refine ⟨_, rfl, ?_⟩
  have e1 : (⟨g, o + k, none⟩ : Addr).add j = (⟨g, o, none⟩ : Addr).add (k + j) := by
    unfold Addr.add
    split <;> split <;> simp_all <;> omega
  rw [e1, hc]
  simp
theorem PlI.own {w0 W W' : World} {R B P0 Bs : Nat} {A A' : Option Addr} {N c n lim fr L c' : Nat} {v : Value} {out : List UInt8} {row : Option Nat} (h : PlI w0 W R B P0 Bs A A' N c n lim fr L c' v out) (hg : W.grownBy W' row) (hr : ∀ r, row = some r → w0.heap.size ≤ r ∧ r ≠ B ∧ ∃ o : Obj, W.heap[r]? = some o ∧ o.isCells = false) : PlI w0 W' R B P0 Bs A A' N c n lim fr L c' v out := by
  have keep : ∀ (k : Nat) (C : Array Value) (t : TypeId), W.heap[k]? = some (.cells C t (0, 0)) → W'.heap[k]? = some (.cells C t (0, 0)) := by
    intro k C t hk
    rw [hg.block k (Array.getElem?_eq_some_iff.1 hk).1 (fun e => by
      obtain ⟨_, _, o, ho, hoc⟩ := hr k e.symm
      rw [hk] at ho
      cases ho
      cases hoc)]
    exact hk
  exact ⟨h.s.grown hg hr, keep _ _ _ h.p, keep _ _ _ h.b1, keep _ _ _ h.b2⟩
theorem PlI.drew {w0 W : World} {R B P0 Bs : Nat} {A A' : Option Addr} {N c n lim fr L c' : Nat} {v : Value} {out : List UInt8} (h : PlI w0 W R B P0 Bs A A' N c n lim fr L c' v out) : PlI w0 W.drew R B P0 Bs A A' N c n lim fr L c' v out :=
  h.own (row := none) ⟨rfl, rfl, rfl, Nat.le_refl _, fun _ _ _ => rfl⟩ (fun r e => by cases e)
theorem PlI.alloc {w0 W : World} {R B P0 Bs : Nat} {A A' : Option Addr} {N c n lim fr L c' : Nat} {v : Value} {out : List UInt8} (h : PlI w0 W R B P0 Bs A A' N c n lim fr L c' v out) (o : Obj) : PlI w0 (W.alloc o) R B P0 Bs A A' N c n lim fr L c' v out :=
  h.own (row := none) (World.grownBy_alloc W o none) (fun r e => by cases e)
/-- more is appended, and the field is written -/
theorem PlI.put {w0 W W' : World} {R B P0 Bs : Nat} {A A' : Option Addr} {N c n lim fr L c' : Nat} {v v' : Value} {out out' : List UInt8} (h : PlI w0 W R B P0 Bs A A' N c n lim fr L c' v out) (ho : OwnB W' w0.heap.size 5 v' out') (hg : W.grownBy W' v.ownBlock) (hb : Below w0.heap.size W W') (K : Nat) :
    W'.cell? ⟨P0, 0, none⟩ = some (.pointer (some ⟨R, 0, none⟩)) ∧ W'.frozen? ⟨R, 1, none⟩ = false ∧ W'.cell? ⟨R, 1, none⟩ = some v ∧ PlI w0 (W'.setCell ⟨R, 1, none⟩ v') R B P0 Bs A A' N c n lim fr L c' v' out' ∧ Sc K w0.heap.size Bs W (W'.setCell ⟨R, 1, none⟩ v') := by
  obtain ⟨h1, h2, h3, h4, h5⟩ := h.s.put ho hg hb
  have ne : ∀ (k : Nat) (C : Array Value) (t : TypeId), W.heap[k]? = some (.cells C t (0, 0)) → t ≠ 63 → k ≠ R := fun k C t hk ht e => by
    rw [e, h.s.row] at hk
    injection hk with hk
    injection hk with _ e2 _
    exact ht e2.symm
  have k1 := h4 P0 _ _ h.p (by decide)
  have k2 := h4 Bs _ _ h.b1 (by decide)
  have k3 := h4 (Bs + 1) _ _ h.b2 (by decide)
  have n1 := ne _ _ _ h.p (by decide)
  have n2 := ne _ _ _ h.b1 (by decide)
  have n3 := ne _ _ _ h.b2 (by decide)
  refine ⟨by rw [cell_of_row _ _ _ _ _ _ (k1.1.trans h.p)]; rfl, h1, h2, ⟨h3, (k1.2 n1).trans h.p, (k2.2 n2).trans h.b1, (k3.2 n3).trans h.b2⟩, h5.from K, ?_, k2.2 n2, k3.2 n3⟩
  have hrow : W'.heap[R]? = some (.cells #[.slice A N c, v, .map (some B), .int .i64 (fr : Int)] 63 (0, 0)) := (h4 R _ _ h.s.row (by decide)).1.trans h.s.row
  rw [setCell_eq_setRow _ _ _ _ _ _ _ hrow]
  exact below_setRow hb h.s.hR _
theorem Sc.trans {B n₀ Bs : Nat} {X Y Z : World} (h : Sc B n₀ Bs X Y) (k : Sc B n₀ Bs Y Z) : Sc B n₀ Bs X Z := ⟨h.1.trans k.1, h.2.trans k.2⟩
theorem Sc.drewR {B n₀ Bs : Nat} (W : World) : Sc B n₀ Bs W W.drew := ⟨(KeepsOthers.drew W).from B, (Below.refl _ _).drew, rfl, rfl⟩
theorem Sc.allocR {B n₀ Bs : Nat} (W : World) (o : Obj) (hn : n₀ ≤ W.heap.size) (hB : Bs + 1 < W.heap.size) : Sc B n₀ Bs W (W.alloc o) := ⟨(KeepsOthers.alloc W o).from B, (Below.refl _ _).alloc hn _, Below.heap_alloc _ _ _ (by omega), Below.heap_alloc _ _ _ hB⟩
theorem SqS.atFrom {w0 W : World} {R B : Nat} {A : Option Addr} {N c n lim fr : Nat} {v : Value} {out : List UInt8} (h : SqS w0 W R B A N c n lim fr v out) (at_ : Nat) : SqS w0 (W.setCell ⟨R, 3, none⟩ (.int .i64 (at_ : Int))) R B A N c n lim at_ v out := by
  have hset : W.setCell ⟨R, 3, none⟩ (.int .i64 (at_ : Int)) = W.setRow R #[.slice A N c, v, .map (some B), .int .i64 (at_ : Int)] := by
    rw [setCell_eq_setRow _ _ _ _ _ _ _ h.row]; rfl
  have hvR : v.ownBlock ≠ some R := fun e => h.neR R e h.row (by decide) rfl
  rw [hset]
  refine ⟨below_setRow h.below h.hR _, h.hR, h.hB, setRow_heap _ _ _ _ _ _ h.row, ?_, h.mp.at (setRow_other _ _ _ _ (Ne.symm h.neB.1))⟩
  refine World.ownsRow.kept (row := some R) h.own ?_ (.inr hvR)
  rw [← hset]
  exact ⟨rfl, rfl, rfl, by simp, fun k hk2 hne => by rw [hset]; exact setRow_other _ _ _ _ (fun e => hne (by rw [e]))⟩
theorem pieces_len (x : List UInt8) {L : Nat} : ∀ pre : List (Ck L), (pre.flatMap (fun y => pieceK x y.k)).length ≤ 129 * pre.length
  | [] => by simp
  | a :: r => by
    have := pieces_len x r
    have h2 : (pieceK x a.k).length ≤ 129 := by simp only [pieceK, List.length_cons, List.length_take, List.length_drop]; omega
    rw [List.flatMap_cons, List.length_append, List.length_cons]
    omega
set_option maxRecDepth 100000 in
set_option maxHeartbeats 4000000 in
theorem plain_calls (w0 w : World) (R B : Nat) (A A' : Option Addr) (N c n lim fr at_ g o c' : Nat) (v : Value) (x out : List UInt8) (hS : SqS w0 w R B A N c n lim fr v out) (hx : Rd w0 A' x) (hA : 0 < x.length → A' = some ⟨g, o, none⟩) (hL : x.length ≤ 4096) (hol : out.length ≤ 50000) (hc : x.length ≤ c')
    (hsl : ∀ W, (Instr.sliceAt 22 (.slice A N c) (some (.int .i64 (fr : Int))) (some (.int .i64 (at_ : Int))) none).run Tryd.prog W = .ok (.slice A' x.length c') W) :
    Calls Tryd.prog 32 #[.pointer (some ⟨R, 0, none⟩), .int .i64 at_] w fun e w' => e = .returned (.tuple #[]) ∧ ∃ v', SqS w0 w' R B A N c n lim at_ v' (out ++ chunkL x) := by
  obtain ⟨i5, hi5, hz0, hz1, hz2⟩ := info_parts info5
  have HS := Lib.hid hS
  have Hx := Lib.hid hx
  obtain ⟨L, hLe⟩ : ∃ L, x.length = L := ⟨_, rfl⟩
  have HLe := Lib.hid hLe
  have HA := Lib.hid hA
  rw [hLe] at hsl hL hc HA
  have hP1 := hS.alloc (.cells #[.pointer (some ⟨R, 0, none⟩)] 73)
  obtain ⟨c0, c1, c2, c3⟩ := hP1.cells
  obtain ⟨c0d, c1d, c2d, c3d⟩ := hP1.drew.cells
  have HP1 := Lib.hid hP1
  have Hpn := Lib.hid (heap_alloc_new w (.cells #[.pointer (some ⟨R, 0, none⟩)] 73))
  clear hS hx hLe hA hP1
  refine (callsIn_wide (n := 6)).1 ?_
  refine callsIn_of_wp_marks Tryd.func32 rfl trivial ?_ rfl
  simp only [Tryd.ntmps32, List.size_toArray, List.length_cons, List.length_nil, Nat.reduceAdd, Nat.reduceSub, Array.replicate_succ, Array.replicate_zero, List.push_toArray, List.append_toArray, List.nil_append, List.cons_append]
  gi_wp2
  generalize hw1 : w.alloc (.cells #[.pointer (some ⟨R, 0, none⟩)] 73) = w1 at *
  have p0 : w1.cell? ⟨w.heap.size, 0, none⟩ = some (.pointer (some ⟨R, 0, none⟩)) := by rw [cell_of_row _ _ _ _ _ _ Hpn.out]; rfl
  have p0d : w1.drew.cell? ⟨w.heap.size, 0, none⟩ = some (.pointer (some ⟨R, 0, none⟩)) := p0
  gi_cut [15] from 5 (fun f wc => f = .func (.func 44) #[] #[.pointer (some ⟨w1.heap.size, 0, none⟩), .pointer (some ⟨w1.heap.size + 1, 0, none⟩)] ∧ wc = (w1.drew.alloc (.cells #[.slice A' L c'] 22)).alloc (.cells #[.int .i64 128] 3))
  case first =>
    refine wpIn_mono (Q := NoPanic _) ?_ NoPanic.imp
    gi_region_with (refine ⟨trivial, (chunk_in Fence.wide 5 trivial rfl _ _ _ _).mono ?_⟩; rintro e w' ⟨rfl, rfl⟩)
    all_goals
      refine NoPanic.normal ?_
      gi_wp2_with fail
      gi_meet
      case rel => exact ⟨rfl, rfl⟩
  case rest =>
    obtain ⟨rfl, rfl⟩ := hcut
    have hn0 := HP1.out.below.size
    have hBlt : B < w1.heap.size := by
      obtain ⟨ob, ho, _⟩ := HP1.out.mp.map
      exact (Array.getElem?_eq_some_iff.1 ho).1
    have hP0lt : w.heap.size < w1.heap.size := (Array.getElem?_eq_some_iff.1 Hpn.out).1
    generalize hP0 : w.heap.size = P0 at *
    generalize hBs : w1.heap.size = Bs at *
    have hBs2 : w1.drew.heap.size = Bs := hBs
    obtain ⟨W2, hW2⟩ : ∃ W2, (w1.drew.alloc (.cells #[.slice A' L c'] 22)).alloc (.cells #[.int .i64 128] 3) = W2 := ⟨_, rfl⟩
    have hsz : W2.heap.size = Bs + 2 := by rw [← hW2, World.size_alloc, World.size_alloc]; omega
    have hb1 : W2.heap[Bs]? = some (.cells #[.slice A' L c'] 22 (0, 0)) := by
      rw [← hW2, Below.heap_alloc _ _ _ (by rw [World.size_alloc]; omega), ← hBs]
      exact heap_alloc_new w1.drew _
    have hb2 : W2.heap[Bs + 1]? = some (.cells #[.int .i64 128] 3 (0, 0)) := by
      have := heap_alloc_new (w1.drew.alloc (.cells #[.slice A' L c'] 22)) (.cells #[.int .i64 128] 3)
      rw [World.size_alloc, hBs2, hW2] at this
      exact this
    have hbp : W2.heap[P0]? = some (.cells #[.pointer (some ⟨R, 0, none⟩)] 73 (0, 0)) := by
      rw [← hW2, Below.heap_alloc _ _ _ (by rw [World.size_alloc]; omega), Below.heap_alloc _ _ _ (by omega)]
      exact Hpn.out
    have hs2 : SqS w0 W2 R B A N c n lim fr v out := by rw [← hW2]; exact (HP1.out.drew.alloc _).alloc _
    have HI := Lib.hid (show PlI w0 W2 R B P0 Bs A A' N c n lim fr L c' v out from ⟨hs2, hbp, hb1, hb2⟩)
    rw [hW2]
    gi_wp2_with fail
    clear hs2 hbp hW2 c0 c1 c2 c3 c0d c1d c2d c3d p0 p0d
    refine wpIn_rangeFunc_ownG (F := Fence.wide) (n := 6) rfl (by omega) (gf := 44) (lb := #[.pointer (some ⟨Bs, 0, none⟩), .pointer (some ⟨Bs + 1, 0, none⟩)]) rfl trivial (enters_of Tryd.func44 (by kernel_rfl) rfl)
      (chunk_stops Fence.wide 5 trivial rfl (by omega) Bs w0.heap.size g o L c' A' HA.out hL hc _ (by rw [hsz]; omega) (by rw [cell_of_row _ _ _ _ _ _ hb1]; rfl) (by rw [cell_of_row _ _ _ _ _ _ hb2]; rfl))
      (fun h k => h.trans k) ?hKb (Below.refl _ _) (fun _ => rfl)
      (fun pre W => ∃ v', PlI w0 W R B P0 Bs A A' N c n lim fr L c' v' (out ++ pre.flatMap (fun y => pieceK x y.k)))
      (fun _ _ _ => False)
      ?hI
      (fun _ _ _ _ _ hs _ _ => hs)
      ⟨v, by simpa using HI.out⟩
      (fun x => { tmps := #[.pointer (some ⟨R, 0, none⟩), .int .i64 (at_ : Int), .pointer (some ⟨P0, 0, none⟩), undef, .slice (some ⟨g, o + 128 * x.k, none⟩) x.len x.len, u5, u6, u7, u8, u9, u10, u11, u12, u13, u14, .func (.func 44) #[] #[.pointer (some ⟨Bs, 0, none⟩), .pointer (some ⟨Bs + 1, 0, none⟩)], .slice (some ⟨g, o + 128 * x.k, none⟩) x.len x.len, u17, u18, u19, u20, u21, u22, u23, u24, u25, u26, u27, u28, u29, u30, u31, u32, u33, u34, u35, u36, u37, u38, u39, u40, u41, u42], defers := [] }) ?assign ?body ?done ?stop
    case hKb =>
      intro W l ob ob' hl hW ho hw
      refine ⟨belowK_b (w := w0) (Nat.le_refl _) W l ob ob' (by rw [hsz] at hl; omega) hW ho hw, ?_, ?_⟩
      · rw [World.putObj_heap_other (by rw [hsz] at hl; omega)]
      · rw [World.putObj_heap_other (by rw [hsz] at hl; omega)]
    case hI =>
      rintro s W W' row ⟨v', hs⟩ hg hr
      exact ⟨v', hs.own hg (fun r e => by
        obtain ⟨h1, h2⟩ := hr r e
        rw [hsz] at h1
        exact ⟨by omega, by omega, h2⟩)⟩
    case assign =>
      intro l x W K hK
      unfold Ck.args
      gi_wp2
      exact hK
    case body =>
      rintro l pre y W ⟨v1, HJ⟩ hpl
      have hkL := y.hk
      obtain ⟨e, he⟩ : ∃ e, y.len = e := ⟨_, rfl⟩
      obtain ⟨oy, hoy⟩ : ∃ oy, o + 128 * y.k = oy := ⟨_, rfl⟩
      obtain ⟨tk, htk⟩ : ∃ tk, (x.drop (128 * y.k)).take 128 = tk := ⟨_, rfl⟩
      obtain ⟨e1, he1⟩ : ∃ e1, e - 1 = e1 := ⟨_, rfl⟩
      have he2 : e = min 128 (L - 128 * y.k) := he.symm
      have hLe := HLe.out
      have htl : tk.length = e := by rw [← htk, List.length_take, List.length_drop, hLe, he2]
      have hpc : pieceK x y.k = UInt8.ofNat e1 :: tk := by unfold pieceK; rw [htk, hLe, ← he2, he1]
      have hb : (UInt8.ofNat e1).toNat = e1 := by rw [UInt8.toNat_ofNat']; exact Nat.mod_eq_of_lt (by omega)
      have hel : e ≤ 128 := by omega
      have hsub : (e : Int) - 1 = (e1 : Int) := by omega
      have hw8 : IntKind.u8.wrap (e1 : Int) = (e1 : Int) := by rw [IntKind.wrap_u8]; omega
      have hw64 : IntKind.i64.wrap (e1 : Int) = (e1 : Int) := by rw [IntKind.wrap_i64]; omega
      obtain ⟨Z, hZ⟩ : ∃ Z, out ++ List.flatMap (fun y => pieceK x y.k) pre = Z := ⟨_, rfl⟩
      have hZ2 : out ++ List.flatMap (fun y => pieceK x y.k) (pre ++ [y]) = Z ++ [UInt8.ofNat e1] ++ tk := by
        rw [List.flatMap_append, ← List.append_assoc, hZ]
        simp [hpc]
      have HZ2 := Lib.hid hZ2
      have hrd0 : Rd w0 (some ⟨g, oy, none⟩) tk := by
        have h1 := HA.out (by omega)
        have h2 := Hx.out
        rw [h1] at h2
        have := rd_part h2 (128 * y.k)
        rw [hoy, htk] at this
        exact this
      have Hrd0 := Lib.hid hrd0
      rw [hZ] at HJ
      have hZl : Z.length ≤ 100000 := by
        have := pieces_len x pre
        rw [← hZ, List.length_append]
        omega
      have P3 : PlI w0 (W.drew.alloc (.cells #[.int .u8 (e1 : Int)] 5)) R B P0 Bs A A' N c n lim fr L c' v1 Z := HJ.drew.alloc _
      have hrd1 : Rd (W.drew.alloc (.cells #[.int .u8 (e1 : Int)] 5)) (some ⟨W.drew.heap.size, 0, none⟩) [UInt8.ofNat e1] := by
        have := one_rd W.drew (UInt8.ofNat e1) 5
        rw [hb] at this
        exact this
      obtain ⟨v2, W4, hr1, ho1, hb1x, hg1⟩ := own_append (P := Tryd.prog) (W.drew.alloc (.cells #[.int .u8 (e1 : Int)] 5)) 22 22 5 i5 Tryd.underlying22 hi5 hz0 hz1 hz2 w0.heap.size v1 Z P3.s.own P3.s.below.size _ 1 [UInt8.ofNat e1] hrd1 (by simp; omega)
      obtain ⟨A2, n2, c2, rfl⟩ : ∃ A2 n2 c2, v2 = .slice A2 n2 c2 := by obtain ⟨A2, c2, h, _⟩ := ho1.form; exact ⟨_, _, _, h⟩
      obtain ⟨q1, q2, q3, q4, q5⟩ := P3.put ho1 hg1 hb1x (Bs + 2)
      have R1 := Lib.hid hr1
      have hWc : W.drew.cell? ⟨R, 1, none⟩ = some v1 := HJ.s.drew.cells.2.1
      have hWp : W.drew.cell? ⟨P0, 0, none⟩ = some (.pointer (some ⟨R, 0, none⟩)) := by show W.cell? _ = _; rw [cell_of_row _ _ _ _ _ _ HJ.p]; rfl
      have hWc2 : (W.drew.alloc (.cells #[.int .u8 (e1 : Int)] 5)).cell? ⟨R, 1, none⟩ = some v1 := P3.s.cells.2.1
      have hWp2 : (W.drew.alloc (.cells #[.int .u8 (e1 : Int)] 5)).cell? ⟨P0, 0, none⟩ = some (.pointer (some ⟨R, 0, none⟩)) := by rw [cell_of_row _ _ _ _ _ _ P3.p]; rfl
      have hWc3 : (W.alloc (.cells #[.int .u8 (e1 : Int)] 5)).cell? ⟨R, 1, none⟩ = some v1 := hWc2
      have hWp5 : (W4.setCell ⟨R, 1, none⟩ (.slice A2 n2 c2)).cell? ⟨P0, 0, none⟩ = some (.pointer (some ⟨R, 0, none⟩)) := by rw [cell_of_row _ _ _ _ _ _ q4.p]; rfl
      have HSc := Lib.hid q5
      have Q4 := Lib.hid q4
      have HJ0 := Lib.hid HJ
      have HP3 := Lib.hid P3
      have Hhb := Lib.hid hb
      clear HJ P3 hrd1 hr1 ho1 hb1x hg1 q4 q5 hZ2 hrd0 hpc hb hZ htk he2 hLe hkL
      rw [he, hoy]
      clear he hoy he1
      have htl' := Lib.hid htl
      clear htl
      gi_wp2_with fail
      refine region_toRound (fun w' => w'.cell? ⟨P0, 0, none⟩ = some (.pointer (some ⟨R, 0, none⟩))) (by kernel_rfl) (by kernel_rfl) (by rintro ⟨_, _, h⟩; exact h) hWp (fun hHeld => ?_)
      refine wpAnyH_take (i := 0) (v := ?_) rfl (by kernel_rfl) (by kernel_rfl) (by kernel_rfl) (fun _ _ _ h => h) (Or.inl ⟨by rfl, ?_⟩) (by assumption) ?_
      rotate_left
      · intro w hSw; (try dsimp only at hSw); go_simp; (try with_reducible rfl)
      try simp only [Act.put, List.setIfInBounds_toArray, List.set_cons_zero, List.set_cons_succ]
      refine wpAnyH_take (i := 1) (v := ?_) rfl (by kernel_rfl) (by kernel_rfl) (by kernel_rfl) (fun _ _ _ h => h) (Or.inl ⟨by rfl, ?_⟩) (by assumption) ?_
      rotate_left
      · intro w hSw; (try dsimp only at hSw); go_simp; (try with_reducible rfl)
      try simp only [Act.put, List.setIfInBounds_toArray, List.set_cons_zero, List.set_cons_succ]
      refine wpAnyH_take (i := 2) (v := ?_) rfl (by kernel_rfl) (by kernel_rfl) (by kernel_rfl) (fun _ _ _ h => h) (Or.inl ⟨by rfl, ?_⟩) (by assumption) ?_
      rotate_left
      · intro w hSw; (try dsimp only at hSw); go_simp; (try with_reducible rfl)
      try simp only [Act.put, List.setIfInBounds_toArray, List.set_cons_zero, List.set_cons_succ]
      refine wpAnyH_take (i := 3) (v := ?_) rfl (by kernel_rfl) (by kernel_rfl) (by kernel_rfl) (fun _ _ _ h => h) (Or.inl ⟨by rfl, ?_⟩) (by assumption) ?_
      rotate_left
      · intro w hSw; (try dsimp only at hSw); go_simp; (try with_reducible rfl)
      try simp only [Act.put, List.setIfInBounds_toArray, List.set_cons_zero, List.set_cons_succ]
      refine wpAnyH_take (i := 5) (v := ?_) rfl (by kernel_rfl) (by kernel_rfl) (by kernel_rfl) (fun _ _ _ h => h) (Or.inl ⟨by rfl, ?_⟩) (by assumption) ?_
      rotate_left
      · intro w hSw; (try dsimp only at hSw); go_simp; (try with_reducible rfl)
      try simp only [Act.put, List.setIfInBounds_toArray, List.set_cons_zero, List.set_cons_succ]
      refine wpAnyH_take (i := 6) (v := ?_) rfl (by kernel_rfl) (by kernel_rfl) (by kernel_rfl) (fun _ _ _ h => h) (Or.inl ⟨by rfl, ?_⟩) (by assumption) ?_
      rotate_left
      · intro w hSw; (try dsimp only at hSw); go_simp; (try with_reducible rfl)
      try simp only [Act.put, List.setIfInBounds_toArray, List.set_cons_zero, List.set_cons_succ]
      refine wpAnyH_take (i := 7) (v := ?_) rfl (by kernel_rfl) (by kernel_rfl) (by kernel_rfl) (fun _ _ _ h => h) (Or.inl ⟨by rfl, ?_⟩) (by assumption) ?_
      rotate_left
      · intro w hSw; (try dsimp only at hSw); go_simp; (try with_reducible rfl)
      try simp only [Act.put, List.setIfInBounds_toArray, List.set_cons_zero, List.set_cons_succ]
      refine wpAnyH_take (i := 8) (v := ?_) rfl (by kernel_rfl) (by kernel_rfl) (by kernel_rfl) (fun _ _ _ h => h) (Or.inl ⟨by rfl, ?_⟩) (by assumption) ?_
      rotate_left
      · intro w hSw; (try dsimp only at hSw); go_simp; (try with_reducible rfl)
      try simp only [Act.put, List.setIfInBounds_toArray, List.set_cons_zero, List.set_cons_succ]
      refine wpAnyH_ready (rs := [4,9]) (by kernel_rfl) (by simp) ?_
      refine AllReadyH.cons rfl (fun K hK => ?_) (AllReadyH.cons rfl (fun K hK => ?_) AllReadyH.nil)
      · go_simp
        refine hK.out _ _ hWp (fun hHeld => ?_)
        clear hK K
        try simp only [Act.put, List.setIfInBounds_toArray, List.set_cons_zero, List.set_cons_succ]
        refine wpAnyH_ready (rs := [9]) (by kernel_rfl) (by simp) ?_
        refine AllReadyH.cons rfl (fun K hK => ?_) AllReadyH.nil
        go_simp
        refine hK.out _ _ hWp2 (fun hHeld => ?_)
        clear hK K
        try simp only [Act.put, List.setIfInBounds_toArray, List.set_cons_zero, List.set_cons_succ]
        
        refine wpAnyH_ready (rs := [10]) (by kernel_rfl) (by simp) ?_
        refine AllReadyH.cons rfl (fun K hK => ?_) AllReadyH.nil
        refine step_append_runO rfl (.tmp 21) (.tmp 26) 22 22 rfl (by rfl) (by rfl) (by exact R1.out) ?_
        refine hK.out _ _ q1 (fun hHeld => ?_)
        try simp only [Act.put, List.setIfInBounds_toArray, List.set_cons_zero, List.set_cons_succ]
        refine wpAnyH_take (i := 11) (v := ?_) rfl (by kernel_rfl) (by kernel_rfl) (by kernel_rfl) (fun _ _ _ h => h) (Or.inl ⟨by rfl, ?_⟩) (by assumption) ?_
        rotate_left
        · intro w hSw; (try dsimp only at hSw); go_simp; (try with_reducible rfl)
        try simp only [Act.put, List.setIfInBounds_toArray, List.set_cons_zero, List.set_cons_succ]
        refine wpAnyH_take (i := 12) (v := ?_) rfl (by kernel_rfl) (by kernel_rfl) (by kernel_rfl) (fun _ _ _ h => h) (Or.inl ⟨by rfl, ?_⟩) (by assumption) ?_
        rotate_left
        · intro w hSw; (try dsimp only at hSw); go_simp; (try with_reducible rfl)
        try simp only [Act.put, List.setIfInBounds_toArray, List.set_cons_zero, List.set_cons_succ]
        
        refine wpAnyH_ready (rs := [13]) (by kernel_rfl) (by simp) ?_
        refine AllReadyH.cons rfl (fun K hK => ?_) AllReadyH.nil
        go_simp
        refine hK.out _ _ hWp5 (fun hHeld => ?_)
        try simp only [Act.put, List.setIfInBounds_toArray, List.set_cons_zero, List.set_cons_succ]
        refine wpAnyH_done (by kernel_rfl) ?_ _
        clear hK K
        gi_wp2_with fail
        generalize W4.setCell ⟨R, 1, none⟩ (.slice A2 n2 c2) = W5 at *
        have hWr := Lib.hid (show Sc (Bs + 2) w0.heap.size Bs W W5 from ((Sc.drewR W).trans (Sc.allocR W.drew _ (by exact HJ0.out.s.below.size) (by exact (Array.getElem?_eq_some_iff.1 HJ0.out.b2).1))).trans HSc.out)
        clear q1 q2 q3 hWc hWp hWc2 hWp2 hWc3 hHeld hw8 hw64 hsub R1 HP3 HSc HJ0
        have Q5 := Q4.out.drew
        have hrd2 : Rd W5.drew (some ⟨g, oy, none⟩) tk := Hrd0.out.below (Q5.s.below)
        obtain ⟨v3, W6, hr3, ho3, hb3x, hg3⟩ := own_append (P := Tryd.prog) W5.drew 22 22 5 i5 Tryd.underlying22 hi5 hz0 hz1 hz2 w0.heap.size (.slice A2 n2 c2) (Z ++ [UInt8.ofNat e1]) Q5.s.own Q5.s.below.size _ e tk hrd2 (by rw [List.length_append, htl'.out]; simp; omega)
        obtain ⟨A3, n3, c3, rfl⟩ : ∃ A3 n3 c3, v3 = .slice A3 n3 c3 := by obtain ⟨A3, c3, h, _⟩ := ho3.form; exact ⟨_, _, _, h⟩
        obtain ⟨q1, q2, q3, q4, q5⟩ := Q5.put ho3 hg3 hb3x (Bs + 2)
        rw [htl'.out] at hr3
        have R3 := Lib.hid hr3
        have hVc : W5.drew.cell? ⟨R, 1, none⟩ = some (.slice A2 n2 c2) := Q5.s.cells.2.1
        have hVp : W5.drew.cell? ⟨P0, 0, none⟩ = some (.pointer (some ⟨R, 0, none⟩)) := by rw [cell_of_row _ _ _ _ _ _ Q5.p]; rfl
        have hVp7 : (W6.setCell ⟨R, 1, none⟩ (.slice A3 n3 c3)).cell? ⟨P0, 0, none⟩ = some (.pointer (some ⟨R, 0, none⟩)) := by rw [cell_of_row _ _ _ _ _ _ q4.p]; rfl
        have HE := Lib.hid (And.intro q4 (hWr.out.trans ((Sc.drewR W5).trans q5)))
        clear Q5 hrd2 hr3 ho3 hb3x hg3 q4 q5 hWp5
        gi_wp2_with fail
        refine region_toRound (fun w' => w'.cell? ⟨P0, 0, none⟩ = some (.pointer (some ⟨R, 0, none⟩))) (by kernel_rfl) (by kernel_rfl) (by rintro ⟨_, _, h⟩; exact h) hVp (fun hHeld => ?_)
        refine wpAnyH_take (i := 0) (v := ?_) rfl (by kernel_rfl) (by kernel_rfl) (by kernel_rfl) (fun _ _ _ h => h) (Or.inl ⟨by rfl, ?_⟩) (by assumption) ?_
        rotate_left
        · intro w hSw; (try dsimp only at hSw); go_simp; (try with_reducible rfl)
        try simp only [Act.put, List.setIfInBounds_toArray, List.set_cons_zero, List.set_cons_succ]
        refine wpAnyH_take (i := 1) (v := ?_) rfl (by kernel_rfl) (by kernel_rfl) (by kernel_rfl) (fun _ _ _ h => h) (Or.inl ⟨by rfl, ?_⟩) (by assumption) ?_
        rotate_left
        · intro w hSw; (try dsimp only at hSw); go_simp; (try with_reducible rfl)
        try simp only [Act.put, List.setIfInBounds_toArray, List.set_cons_zero, List.set_cons_succ]
        refine wpAnyH_take (i := 2) (v := ?_) rfl (by kernel_rfl) (by kernel_rfl) (by kernel_rfl) (fun _ _ _ h => h) (Or.inl ⟨by rfl, ?_⟩) (by assumption) ?_
        rotate_left
        · intro w hSw; (try dsimp only at hSw); go_simp; (try with_reducible rfl)
        try simp only [Act.put, List.setIfInBounds_toArray, List.set_cons_zero, List.set_cons_succ]
        refine wpAnyH_take (i := 3) (v := ?_) rfl (by kernel_rfl) (by kernel_rfl) (by kernel_rfl) (fun _ _ _ h => h) (Or.inl ⟨by rfl, ?_⟩) (by assumption) ?_
        rotate_left
        · intro w hSw; (try dsimp only at hSw); go_simp; (try with_reducible rfl)
        try simp only [Act.put, List.setIfInBounds_toArray, List.set_cons_zero, List.set_cons_succ]
        refine wpAnyH_take (i := 5) (v := ?_) rfl (by kernel_rfl) (by kernel_rfl) (by kernel_rfl) (fun _ _ _ h => h) (Or.inl ⟨by rfl, ?_⟩) (by assumption) ?_
        rotate_left
        · intro w hSw; (try dsimp only at hSw); go_simp; (try with_reducible rfl)
        try simp only [Act.put, List.setIfInBounds_toArray, List.set_cons_zero, List.set_cons_succ]
        refine wpAnyH_ready (rs := [4]) (by kernel_rfl) (by simp) ?_
        refine AllReadyH.cons rfl (fun K hK => ?_) AllReadyH.nil
        go_simp
        refine hK.out _ _ hVp (fun hHeld => ?_)
        clear hK K
        try simp only [Act.put, List.setIfInBounds_toArray, List.set_cons_zero, List.set_cons_succ]
        refine wpAnyH_ready (rs := [6]) (by kernel_rfl) (by simp) ?_
        refine AllReadyH.cons rfl (fun K hK => ?_) AllReadyH.nil
        refine step_append_runO rfl (.tmp 34) (.tmp 35) 22 22 rfl (by rfl) (by rfl) (by exact R3.out) ?_
        refine hK.out _ _ q1 (fun hHeld => ?_)
        clear hK K
        try simp only [Act.put, List.setIfInBounds_toArray, List.set_cons_zero, List.set_cons_succ]
        refine wpAnyH_take (i := 7) (v := ?_) rfl (by kernel_rfl) (by kernel_rfl) (by kernel_rfl) (fun _ _ _ h => h) (Or.inl ⟨by rfl, ?_⟩) (by assumption) ?_
        rotate_left
        · intro w hSw; (try dsimp only at hSw); go_simp; (try with_reducible rfl)
        try simp only [Act.put, List.setIfInBounds_toArray, List.set_cons_zero, List.set_cons_succ]
        refine wpAnyH_take (i := 8) (v := ?_) rfl (by kernel_rfl) (by kernel_rfl) (by kernel_rfl) (fun _ _ _ h => h) (Or.inl ⟨by rfl, ?_⟩) (by assumption) ?_
        rotate_left
        · intro w hSw; (try dsimp only at hSw); go_simp; (try with_reducible rfl)
        try simp only [Act.put, List.setIfInBounds_toArray, List.set_cons_zero, List.set_cons_succ]
        refine wpAnyH_ready (rs := [9]) (by kernel_rfl) (by simp) ?_
        refine AllReadyH.cons rfl (fun K hK => ?_) AllReadyH.nil
        go_simp
        refine hK.out _ _ hVp7 (fun hHeld => ?_)
        clear hK K
        try simp only [Act.put, List.setIfInBounds_toArray, List.set_cons_zero, List.set_cons_succ]
        refine wpAnyH_done (by kernel_rfl) ?_ _
        gi_wp2_with fail
        refine ⟨by rw [hsz]; exact HE.out.2.1, HE.out.2.2, .slice A3 n3 c3, ?_⟩
        rw [HZ2.out]
        exact HE.out.1
      · go_simp
        refine hK.out _ _ hWp2 (fun hHeld => ?_)
        clear hK K
        try simp only [Act.put, List.setIfInBounds_toArray, List.set_cons_zero, List.set_cons_succ]
        refine wpAnyH_ready (rs := [4]) (by kernel_rfl) (by simp) ?_
        refine AllReadyH.cons rfl (fun K hK => ?_) AllReadyH.nil
        go_simp
        refine hK.out _ _ hWp2 (fun hHeld => ?_)
        clear hK K
        try simp only [Act.put, List.setIfInBounds_toArray, List.set_cons_zero, List.set_cons_succ]
        
        refine wpAnyH_ready (rs := [10]) (by kernel_rfl) (by simp) ?_
        refine AllReadyH.cons rfl (fun K hK => ?_) AllReadyH.nil
        refine step_append_runO rfl (.tmp 21) (.tmp 26) 22 22 rfl (by rfl) (by rfl) (by exact R1.out) ?_
        refine hK.out _ _ q1 (fun hHeld => ?_)
        try simp only [Act.put, List.setIfInBounds_toArray, List.set_cons_zero, List.set_cons_succ]
        refine wpAnyH_take (i := 11) (v := ?_) rfl (by kernel_rfl) (by kernel_rfl) (by kernel_rfl) (fun _ _ _ h => h) (Or.inl ⟨by rfl, ?_⟩) (by assumption) ?_
        rotate_left
        · intro w hSw; (try dsimp only at hSw); go_simp; (try with_reducible rfl)
        try simp only [Act.put, List.setIfInBounds_toArray, List.set_cons_zero, List.set_cons_succ]
        refine wpAnyH_take (i := 12) (v := ?_) rfl (by kernel_rfl) (by kernel_rfl) (by kernel_rfl) (fun _ _ _ h => h) (Or.inl ⟨by rfl, ?_⟩) (by assumption) ?_
        rotate_left
        · intro w hSw; (try dsimp only at hSw); go_simp; (try with_reducible rfl)
        try simp only [Act.put, List.setIfInBounds_toArray, List.set_cons_zero, List.set_cons_succ]
        
        refine wpAnyH_ready (rs := [13]) (by kernel_rfl) (by simp) ?_
        refine AllReadyH.cons rfl (fun K hK => ?_) AllReadyH.nil
        go_simp
        refine hK.out _ _ hWp5 (fun hHeld => ?_)
        try simp only [Act.put, List.setIfInBounds_toArray, List.set_cons_zero, List.set_cons_succ]
        refine wpAnyH_done (by kernel_rfl) ?_ _
        clear hK K
        gi_wp2_with fail
        generalize W4.setCell ⟨R, 1, none⟩ (.slice A2 n2 c2) = W5 at *
        have hWr := Lib.hid (show Sc (Bs + 2) w0.heap.size Bs W W5 from ((Sc.drewR W).trans (Sc.allocR W.drew _ (by exact HJ0.out.s.below.size) (by exact (Array.getElem?_eq_some_iff.1 HJ0.out.b2).1))).trans HSc.out)
        clear q1 q2 q3 hWc hWp hWc2 hWp2 hWc3 hHeld hw8 hw64 hsub R1 HP3 HSc HJ0
        have Q5 := Q4.out.drew
        have hrd2 : Rd W5.drew (some ⟨g, oy, none⟩) tk := Hrd0.out.below (Q5.s.below)
        obtain ⟨v3, W6, hr3, ho3, hb3x, hg3⟩ := own_append (P := Tryd.prog) W5.drew 22 22 5 i5 Tryd.underlying22 hi5 hz0 hz1 hz2 w0.heap.size (.slice A2 n2 c2) (Z ++ [UInt8.ofNat e1]) Q5.s.own Q5.s.below.size _ e tk hrd2 (by rw [List.length_append, htl'.out]; simp; omega)
        obtain ⟨A3, n3, c3, rfl⟩ : ∃ A3 n3 c3, v3 = .slice A3 n3 c3 := by obtain ⟨A3, c3, h, _⟩ := ho3.form; exact ⟨_, _, _, h⟩
        obtain ⟨q1, q2, q3, q4, q5⟩ := Q5.put ho3 hg3 hb3x (Bs + 2)
        rw [htl'.out] at hr3
        have R3 := Lib.hid hr3
        have hVc : W5.drew.cell? ⟨R, 1, none⟩ = some (.slice A2 n2 c2) := Q5.s.cells.2.1
        have hVp : W5.drew.cell? ⟨P0, 0, none⟩ = some (.pointer (some ⟨R, 0, none⟩)) := by rw [cell_of_row _ _ _ _ _ _ Q5.p]; rfl
        have hVp7 : (W6.setCell ⟨R, 1, none⟩ (.slice A3 n3 c3)).cell? ⟨P0, 0, none⟩ = some (.pointer (some ⟨R, 0, none⟩)) := by rw [cell_of_row _ _ _ _ _ _ q4.p]; rfl
        have HE := Lib.hid (And.intro q4 (hWr.out.trans ((Sc.drewR W5).trans q5)))
        clear Q5 hrd2 hr3 ho3 hb3x hg3 q4 q5 hWp5
        gi_wp2_with fail
        refine region_toRound (fun w' => w'.cell? ⟨P0, 0, none⟩ = some (.pointer (some ⟨R, 0, none⟩))) (by kernel_rfl) (by kernel_rfl) (by rintro ⟨_, _, h⟩; exact h) hVp (fun hHeld => ?_)
        refine wpAnyH_take (i := 0) (v := ?_) rfl (by kernel_rfl) (by kernel_rfl) (by kernel_rfl) (fun _ _ _ h => h) (Or.inl ⟨by rfl, ?_⟩) (by assumption) ?_
        rotate_left
        · intro w hSw; (try dsimp only at hSw); go_simp; (try with_reducible rfl)
        try simp only [Act.put, List.setIfInBounds_toArray, List.set_cons_zero, List.set_cons_succ]
        refine wpAnyH_take (i := 1) (v := ?_) rfl (by kernel_rfl) (by kernel_rfl) (by kernel_rfl) (fun _ _ _ h => h) (Or.inl ⟨by rfl, ?_⟩) (by assumption) ?_
        rotate_left
        · intro w hSw; (try dsimp only at hSw); go_simp; (try with_reducible rfl)
        try simp only [Act.put, List.setIfInBounds_toArray, List.set_cons_zero, List.set_cons_succ]
        refine wpAnyH_take (i := 2) (v := ?_) rfl (by kernel_rfl) (by kernel_rfl) (by kernel_rfl) (fun _ _ _ h => h) (Or.inl ⟨by rfl, ?_⟩) (by assumption) ?_
        rotate_left
        · intro w hSw; (try dsimp only at hSw); go_simp; (try with_reducible rfl)
        try simp only [Act.put, List.setIfInBounds_toArray, List.set_cons_zero, List.set_cons_succ]
        refine wpAnyH_take (i := 3) (v := ?_) rfl (by kernel_rfl) (by kernel_rfl) (by kernel_rfl) (fun _ _ _ h => h) (Or.inl ⟨by rfl, ?_⟩) (by assumption) ?_
        rotate_left
        · intro w hSw; (try dsimp only at hSw); go_simp; (try with_reducible rfl)
        try simp only [Act.put, List.setIfInBounds_toArray, List.set_cons_zero, List.set_cons_succ]
        refine wpAnyH_take (i := 5) (v := ?_) rfl (by kernel_rfl) (by kernel_rfl) (by kernel_rfl) (fun _ _ _ h => h) (Or.inl ⟨by rfl, ?_⟩) (by assumption) ?_
        rotate_left
        · intro w hSw; (try dsimp only at hSw); go_simp; (try with_reducible rfl)
        try simp only [Act.put, List.setIfInBounds_toArray, List.set_cons_zero, List.set_cons_succ]
        refine wpAnyH_ready (rs := [4]) (by kernel_rfl) (by simp) ?_
        refine AllReadyH.cons rfl (fun K hK => ?_) AllReadyH.nil
        go_simp
        refine hK.out _ _ hVp (fun hHeld => ?_)
        clear hK K
        try simp only [Act.put, List.setIfInBounds_toArray, List.set_cons_zero, List.set_cons_succ]
        refine wpAnyH_ready (rs := [6]) (by kernel_rfl) (by simp) ?_
        refine AllReadyH.cons rfl (fun K hK => ?_) AllReadyH.nil
        refine step_append_runO rfl (.tmp 34) (.tmp 35) 22 22 rfl (by rfl) (by rfl) (by exact R3.out) ?_
        refine hK.out _ _ q1 (fun hHeld => ?_)
        clear hK K
        try simp only [Act.put, List.setIfInBounds_toArray, List.set_cons_zero, List.set_cons_succ]
        refine wpAnyH_take (i := 7) (v := ?_) rfl (by kernel_rfl) (by kernel_rfl) (by kernel_rfl) (fun _ _ _ h => h) (Or.inl ⟨by rfl, ?_⟩) (by assumption) ?_
        rotate_left
        · intro w hSw; (try dsimp only at hSw); go_simp; (try with_reducible rfl)
        try simp only [Act.put, List.setIfInBounds_toArray, List.set_cons_zero, List.set_cons_succ]
        refine wpAnyH_take (i := 8) (v := ?_) rfl (by kernel_rfl) (by kernel_rfl) (by kernel_rfl) (fun _ _ _ h => h) (Or.inl ⟨by rfl, ?_⟩) (by assumption) ?_
        rotate_left
        · intro w hSw; (try dsimp only at hSw); go_simp; (try with_reducible rfl)
        try simp only [Act.put, List.setIfInBounds_toArray, List.set_cons_zero, List.set_cons_succ]
        refine wpAnyH_ready (rs := [9]) (by kernel_rfl) (by simp) ?_
        refine AllReadyH.cons rfl (fun K hK => ?_) AllReadyH.nil
        go_simp
        refine hK.out _ _ hVp7 (fun hHeld => ?_)
        clear hK K
        try simp only [Act.put, List.setIfInBounds_toArray, List.set_cons_zero, List.set_cons_succ]
        refine wpAnyH_done (by kernel_rfl) ?_ _
        gi_wp2_with fail
        refine ⟨by rw [hsz]; exact HE.out.2.1, HE.out.2.2, .slice A3 n3 c3, ?_⟩
        rw [HZ2.out]
        exact HE.out.1
    case done =>
      rintro D ys W hD hys ⟨v1, HJ⟩ hK
      have HK := Lib.hid hK
      have hRc : W.cell? ⟨P0, 0, none⟩ = some (.pointer (some ⟨R, 0, none⟩)) := by rw [cell_of_row _ _ _ _ _ _ HJ.p]; rfl
      have hR3 : W.cell? ⟨R, 3, none⟩ = some (.int .i64 (fr : Int)) := HJ.s.cells.2.2.2
      have hRf : W.frozen? ⟨R, 3, none⟩ = false := frozen_of_row _ _ _ _ _ HJ.s.row
      have HJ := Lib.hid HJ
      clear hK
      gi_wp2_with fail
      have hne : D ≠ R := fun e => by
        have h1 := HJ.out.s.row
        rw [← e, HK.out] at h1
        cases h1
      have hD2 : (W.setCell ⟨R, 3, none⟩ (.int .i64 (at_ : Int))).heap[D]? = some (.deferred (some [])) := by
        rw [setCell_eq_setRow _ _ _ _ _ _ _ HJ.out.s.row, setRow_other _ _ _ _ hne]
        exact HK.out
      have HF := (HJ.out.s.atFrom at_).grown (row := some D) (grownBy_putObj' _ D (.deferred none)) (fun r e => by cases e; exact ⟨by omega, by omega, _, hD2, rfl⟩)
      refine ⟨by simp, .inl ⟨_, _, rfl, run_takeDeferred hD2, ?_⟩⟩
      refine ⟨_, results_none rfl _ _ _, rfl, v1, ?_⟩
      rw [← chunkL_pieces2 HLe.out hys]
      exact HF
    case stop =>
      rintro D c pre W _ _ h _
      exact h.elim
end Go.Proofs.YtfogepoebihnoaaDoor
