/- Laws on slices of bytes, over any program: a part of a slice, an append onto an empty literal, a copy from a string. No statement of the seat. -/
import Derived.Test.YtgkamdgegfioiaaDoorBytes
import Derived.Laws.CopyRow
import Derived.Laws.CopyOwn
namespace Go.Proofs.YtgkamdgegfioiaaDoor
open Go.RowKit
set_option linter.unusedSimpArgs false
set_option linter.unusedVariables false
/-- where x[lo:] begins, x at the head of block g with room cap -/
def subA (g lo cap : Nat) : Option Addr := if cap = lo then some ⟨g, 0, none⟩ else some ⟨g, lo, none⟩
theorem Rd.sub {w : World} {g : Nat} {L bs : List UInt8} {e : TypeId} {fr : Nat × Nat} (hg : w.heap[g]? = some (.cells (bArr L) e fr)) (lo cap : Nat) (hc : cap ≤ L.length) (hp : bs <+: L.drop lo) (hb : lo + bs.length ≤ cap) : Rd w (subA g lo cap) bs := fun j hj => by
  have hne : ¬ cap = lo := by omega
  refine ⟨⟨g, lo, none⟩, by simp [subA, hne], ?_⟩
  have hadd : (⟨g, lo, none⟩ : Addr).add j = ⟨g, lo + j, none⟩ := by unfold Addr.add; split <;> simp_all
  obtain ⟨t, ht⟩ := hp
  rw [hadd, cell_of_row w g _ _ e fr hg, bArr_get _ _ (by omega)]
  have h1 : L[lo + j]'(by omega) = (L.drop lo)[j]'(by simp; omega) := by simp
  rw [h1]
  congr 2
  have : (bs ++ t)[j]? = some bs[j] := by rw [List.getElem?_append_left hj, List.getElem?_eq_getElem hj]
  rw [ht] at this
  exact (List.getElem?_eq_some_iff.1 this).2
section
variable {P : Program} (w : World)
theorem run_sub (t e : TypeId) (i : TypeInfo) (ht : P.underlying t = some (.slice e)) (hi : P.info? e = some i) (hs : i.size = 1) (g len cap lo n : Nat) (kl kh : IntKind) (hi_ : Int) (hh : hi_ = (lo : Int) + n) (h : lo + n ≤ cap) :
    (Instr.sliceAt t (.slice (some ⟨g, 0, none⟩) len cap) (some (.int kl (lo : Int))) (some (.int kh hi_)) none).run P w = .ok (.slice (subA g lo cap) n (cap - lo)) w := by
  subst hh
  have e1 : ((lo : Int) + n).toNat = lo + n := by omega
  have b2 : (0 : Int) ≤ (lo : Int) + n ∧ (lo : Int) + n ≤ (cap : Int) := by omega
  have b3 : ¬ (lo + n < lo) := by omega
  have b4 : (0 : Int) ≤ (lo : Int) ∧ (lo : Int) ≤ (lo : Int) + (n : Int) := by omega
  have hadd : (⟨g, 0, none⟩ : Addr).add lo = ⟨g, lo, none⟩ := addr_add0 g lo
  simp [Instr.sliceAt, Instr.slice, run_underlying ht, Instr.sliceBounds, Instr.sliceBound, asIntOf, b2, b3, b4, e1, sizeOf, typeInfo, hi, hs, subA, hadd]
theorem run_from (t e : TypeId) (i : TypeInfo) (ht : P.underlying t = some (.slice e)) (hi : P.info? e = some i) (hs : i.size = 1) (g len cap lo : Nat) (kl : IntKind) (h : lo ≤ len) :
    (Instr.sliceAt t (.slice (some ⟨g, 0, none⟩) len cap) (some (.int kl (lo : Int))) none none).run P w = .ok (.slice (subA g lo cap) (len - lo) (cap - lo)) w := by
  have b1 : (0 : Int) ≤ lo ∧ (lo : Int) ≤ (len : Int) := by omega
  have hadd : (⟨g, 0, none⟩ : Addr).add lo = ⟨g, lo, none⟩ := addr_add0 g lo
  simp [Instr.sliceAt, Instr.slice, run_underlying ht, Instr.sliceBounds, Instr.sliceBound, asIntOf, b1, Nat.not_lt.2 h, sizeOf, typeInfo, hi, hs, subA, hadd]
theorem run_emptySlice (t e : TypeId) (i : TypeInfo) (ht : P.underlying t = some (.slice e)) (hi : P.info? e = some i) :
    (Instr.buildSlice t 0 #[]).run P w = .ok (.slice (some ⟨w.heap.size, 0, none⟩) 0 0) (w.alloc (.cells #[] e)) := by
  simp [Instr.buildSlice, run_underlying ht, sizeOf, typeInfo, hi, Instr.fill, newRow, show Array.range 0 = #[] from rfl]
/-- onto an empty literal, whose row is the last block -/
theorem run_append_lit (t ty e : TypeId) (i : TypeInfo) (ht : P.underlying t = some (.slice e)) (hi : P.info? e = some i) (hz : i.zero = some (.int .u8 0)) (hs : i.size = 1) (hb : i.bytes = 1)
    (g : Nat) (hg : w.heap[g]? = some (.cells (bArr []) e (0, 0))) (A : Option Addr) (c : Nat) (bs : List UInt8) (hr : Rd w A bs) (hn : bs.length ≤ 140737488351232) :
    ∃ g' Z w', (Builtin.append_ #[t, t] ty #[.slice (some ⟨g, 0, none⟩) 0 0, .slice A bs.length c]).run P w = .ok (.slice (some ⟨g', 0, none⟩) bs.length (bs.length + Z)) w' ∧
      w'.heap[g']? = some (.cells (bArr (bs ++ List.replicate Z 0)) e (0, 0)) ∧ Below w.heap.size w w' ∧ g ≤ g' := by
  cases bs with
  | nil =>
    refine ⟨g, 0, w, ?_, by simpa using hg, Below.refl _ _, Nat.le_refl _⟩
    have h := run_append_bytes (P := P) w t ty e i ht hi hs g 0 0 [] hg A c [] hr (by simp) (by simp)
    rw [h]
    congr 1
    have : spl [] 0 [] = [] := by simp [spl]
    rw [this, setRow_self w g (bArr []) e (0, 0) hg]
  | cons b r =>
    obtain ⟨a, rfl, _⟩ := hr 0 (by simp)
    have hlen : (vbs (b :: r)).length = (b :: r).length * i.size := by simp [hs]
    have h := run_append_grow (P := P) w t ty e i _ ht hi hz ⟨g, 0, none⟩ 0 0 [] (by simp) (fun j v hj => by simp at hj) a (b :: r).length c (vbs (b :: r)) hlen (fun j u hu => by
      simp only [vbs, List.getElem?_map, Option.map_eq_some_iff] at hu
      obtain ⟨x, hx, rfl⟩ := hu
      obtain ⟨hj, hx⟩ := List.getElem?_eq_some_iff.1 hx
      obtain ⟨ad, he, hc⟩ := hr j hj
      cases he
      rw [hc, hx]) (by simp) (by omega) (by rw [hb]; simp [Builtin.nextslicecap]; simp at hn; omega)
    have hge := grownCap_ge w (0 + (b :: r).length) 0 e
    obtain ⟨Z, hZ⟩ : ∃ Z, grownCap w (0 + (b :: r).length) 0 e = (b :: r).length + Z := ⟨grownCap w (0 + (b :: r).length) 0 e - (b :: r).length, by omega⟩
    rw [Nat.zero_add] at h hZ
    rw [hZ] at h
    have hcells : (([] : List Value).toArray ++ (vbs (b :: r)).toArray ++ Builtin.zeroCells (Value.int .u8 0).cells ((b :: r).length + Z - (b :: r).length)) = bArr (b :: r ++ List.replicate Z 0) := by
      rw [Nat.add_sub_cancel_left]
      apply Array.ext'
      simp only [bArr, vbs_append, Array.toList_append, List.append_toArray, List.nil_append]
      have hz2 : (Builtin.zeroCells (Value.int .u8 0).cells Z).toList = vbs (List.replicate Z 0) := by
        simp [Builtin.zeroCells, Value.cells, Nat.mod_one, vbs, vb, List.map_const']
      rw [hz2]
    rw [hcells] at h
    exact ⟨w.heap.size, Z, _, h, heap_alloc_new w.drew _, ((Below.refl _ _).drew).alloc (Nat.le_refl _) _, by have := (Array.getElem?_eq_some_iff.1 hg).1; omega⟩
/-- a built-in copy whose run is known -/
theorem wpList_copy_run {ops : Array Oper} {rest : List Oper} {o : Oper} {a : Act} {Q : Exit → Act → World → Prop} (hgd : o.guard = none) (s x : Operand) (t t' : TypeId)
    (ho : o.op = .call { callee := .builtin .copy, args := #[s, x], argTypes := #[t, t'] }) {vs vx v : Value} {w w' : World} (hs : a.eval s = vs) (hx : a.eval x = vx)
    (hr : (Builtin.copy_ #[t, t'] o.type #[vs, vx]).run P w = .ok v w') (h : wpList P ops Q rest (a.put o.dst v) w') : wpList P ops Q (o :: rest) a w :=
  wpList_plain hgd fun _ hK => by
    unfold Oper.wp execOp
    simp only [ho, resolve, invoke, builtin, Sem.run_bind, Sem.run_pure, Result.andThen_ok, List.map_toArray, List.map_cons, List.map_nil, hs, hx, hr]
    exact hK _ _ h
theorem run_copy_string (dT sT ty e : TypeId) (i : TypeInfo) (ht : P.underlying dT = some (.slice e)) (hi : P.info? e = some i) (hs : i.size = 1)
    (g lo cap dLen dCap : Nat) (L bs : List UInt8) (hg : w.heap[g]? = some (.cells (bArr L) e (0, 0))) (hb : bs.length ≤ dLen) (hl : lo + dLen ≤ cap) (hc : cap ≤ L.length) :
    (Builtin.copy_ #[dT, sT] ty #[.slice (subA g lo cap) dLen dCap, .string ⟨bs.toArray⟩]).run P w = .ok (goInt bs.length) (w.setRow g (bArr (spl L lo bs))) := by
  have hsz : (⟨bs.toArray⟩ : ByteArray).size = bs.length := rfl
  have hmin : Nat.min bs.length dLen = bs.length := Nat.min_eq_left hb
  have hcs : (((⟨bs.toArray⟩ : ByteArray).extract 0 bs.length).data.map fun b => Value.int .u8 (b.toNat : Int)) = bArr bs := by
    apply Array.ext'
    simp [bArr, vbs, vb]
  cases bs with
  | nil =>
    have hsp : spl L lo [] = L := by simp [spl]
    rw [hsp, setRow_self w g _ e (0, 0) hg]
    have hmin0 : Nat.min 0 dLen = 0 := Nat.zero_min _
    unfold subA
    split <;> simp [Builtin.copy_, run_underlying ht, Builtin.lenOf, hmin0, sizeOf, typeInfo, hi, Builtin.firstCells, storeCells, ByteArray.size]
  | cons b r =>
    have hne : ¬ cap = lo := by simp at hb; omega
    have hst := run_storeCells_at P g lo e (vbs (b :: r)) 0 (bArr L) w hg (by simp at hb ⊢; omega) (vbs_one _)
    simp only [Nat.add_zero] at hst
    have hspl : ((bArr L).toList.take lo ++ vbs (b :: r) ++ (bArr L).toList.drop (lo + (vbs (b :: r)).length)).toArray = bArr (spl L lo (b :: r)) := by
      simp [bArr, spl, vbs]
    rw [hspl] at hst
    have hca : (bArr (b :: r)).toList = vbs (b :: r) := by simp [bArr]
    simp only [Builtin.copy_, subA, hne, if_false]
    simp [run_underlying ht, Builtin.lenOf, hsz, sizeOf, typeInfo, hi, Builtin.firstCells]
    have hm2 : (r.length + 1).min dLen = r.length + 1 := hmin
    rw [hm2, List.take_of_length_le (by simp)]
    have hv : (Value.int .u8 (b.toNat : Int) :: List.map (fun b : UInt8 => Value.int .u8 (b.toNat : Int)) r) = vbs (b :: r) := rfl
    rw [hv, hst]
    simp [Result.andThen]
end
end Go.Proofs.YtgkamdgegfioiaaDoor
