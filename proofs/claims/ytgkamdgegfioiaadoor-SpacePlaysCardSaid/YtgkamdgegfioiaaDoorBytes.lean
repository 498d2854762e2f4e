/- Lemmas on bytes, strings and memory rows, over any program: no statement of the seat; used by the walks. -/
import Derived.WalkKit
import Derived.WalkSpells
import Derived.Below
import Derived.OwnWalk
import Derived.Laws.MakeOwn
import Derived.Laws.OwnMore
import Derived.KernelRfl
import Derived.Lib.Hide
import Derived.Outline
import Derived.Laws.IdiomStrings
import Derived.Laws.BitsAllLaws
namespace Go.Proofs.YtgkamdgegfioiaaDoor
open Go.RowKit
set_option linter.unusedSimpArgs false
set_option linter.unusedVariables false
/-! numbers of 32 bits -/
theorem bx32 (x y : BitVec 32) : bits .xor .u32 (x.toNat : Int) (y.toNat : Int) = ((x ^^^ y).toNat : Int) := by rw [u32_xor_nat _ _ x.isLt y.isLt]; rfl
theorem ba32 (x y : BitVec 32) : bits .and .u32 (x.toNat : Int) (y.toNat : Int) = ((x &&& y).toNat : Int) := by rw [u32_and_nat _ _ x.isLt y.isLt]; rfl
theorem bo32 (x y : BitVec 32) : bits .or .u32 (x.toNat : Int) (y.toNat : Int) = ((x ||| y).toNat : Int) := by rw [u32_or_nat _ _ x.isLt y.isLt]; rfl
theorem sr32 (x : BitVec 32) (k : Nat) : (x.toNat : Int) / 2 ^ k = ((x >>> k).toNat : Int) := by
  rw [BitVec.toNat_ushiftRight, Nat.shiftRight_eq_div_pow]; norm_cast
theorem sl32 (x : BitVec 32) (k : Nat) : ((x.toNat : Int) * 2 ^ k) % 4294967296 = ((x <<< k).toNat : Int) := by
  rw [BitVec.toNat_shiftLeft, Nat.shiftLeft_eq, Int.natCast_emod, Int.natCast_mul, Int.natCast_pow]
  rfl
theorem dbl32 (x : BitVec 32) : (x.toNat : Int) * (2 : Int) % (4294967296 : Int) = ((x <<< 1).toNat : Int) := sl32 x 1
theorem bit32 (x : BitVec 32) : (x &&& 1#32).toNat = if x.getLsbD 0 then 1 else 0 := by
  rw [BitVec.toNat_and]
  show x.toNat &&& 1 = _
  rw [Nat.and_one_is_mod, BitVec.getLsbD, Nat.testBit_zero]
  have := Nat.mod_two_eq_zero_or_one x.toNat
  rcases this with h | h <;> simp [h]
/-! bytes as values -/
def vb (b : UInt8) : Value := Value.int .u8 (b.toNat : Int)
def vbs (bs : List UInt8) : List Value := bs.map vb
def bArr (bs : List UInt8) : Array Value := (vbs bs).toArray
/-- bs laid over L from n on -/
def spl (L : List UInt8) (n : Nat) (bs : List UInt8) : List UInt8 := L.take n ++ bs ++ L.drop (n + bs.length)
@[simp] theorem vbs_length (bs : List UInt8) : (vbs bs).length = bs.length := by simp [vbs]
@[simp] theorem bArr_size (bs : List UInt8) : (bArr bs).size = bs.length := by simp [bArr]
theorem vbs_append (a b : List UInt8) : vbs (a ++ b) = vbs a ++ vbs b := by simp [vbs]
theorem vbs_one (bs : List UInt8) : ∀ u ∈ vbs bs, u.oneCell' = true := by
  intro u hu
  simp only [vbs, List.mem_map] at hu
  obtain ⟨b, _, rfl⟩ := hu
  rfl
theorem bArr_get (L : List UInt8) (i : Nat) (h : i < L.length) : (bArr L)[i]? = some (vb L[i]) := by
  simp [bArr, vbs, h]
theorem bArr_getD (L : List UInt8) (i : Nat) (h : i < L.length) : (bArr L)[i]? = some (Value.int .u8 ((L.getD i 0).toNat : Int)) := by
  simp [bArr, vbs, h, vb, List.getD]
theorem bArr_set (L : List UInt8) (i : Nat) (b : UInt8) : (bArr L).setIfInBounds i (Value.int .u8 (b.toNat : Int)) = bArr (L.set i b) := by
  simp [bArr, vbs, List.map_set, vb]
theorem spl_length (L : List UInt8) (n : Nat) (bs : List UInt8) (h : n + bs.length ≤ L.length) : (spl L n bs).length = L.length := by
  simp [spl]; omega
/-- the slice value (A, n, _) reads as bs in w -/
def Rd (w : World) (A : Option Addr) (bs : List UInt8) : Prop := ∀ j, (h : j < bs.length) → ∃ ad, A = some ad ∧ w.cell? (ad.add j) = some (vb bs[j])
theorem Rd.keep {w w' : World} {A : Option Addr} {bs : List UInt8} (h : Rd w A bs) (hk : ∀ a v, w.cell? a = some v → w'.cell? a = some v) : Rd w' A bs := fun j hj => by
  obtain ⟨ad, e, hc⟩ := h j hj
  exact ⟨ad, e, hk _ _ hc⟩
theorem Rd.alloc {w : World} {A : Option Addr} {bs : List UInt8} (h : Rd w A bs) (o : Obj) : Rd (w.alloc o) A bs :=
  h.keep fun a v hc => by rw [World.cell?_alloc_old w o _ (Nat.ne_of_lt (World.block_lt_of_cell? w _ hc))]; exact hc
theorem Rd.below {w w' : World} {A : Option Addr} {bs : List UInt8} (h : Rd w A bs) (hb : Below w.heap.size w w') : Rd w' A bs :=
  h.keep fun a v hc => by rw [hb.cell (World.block_lt_of_cell? w _ hc)]; exact hc
theorem made_bytes (n : Nat) : madeCells #[Value.int .u8 0] n = bArr (List.replicate n 0) := by
  apply Array.ext
  · simp [madeCells]
  · intro i h1 h2
    simp [madeCells, Nat.mod_one, bArr, vbs, vb]
theorem setRow_alloc_new (w : World) (c c' : Array Value) (e : TypeId) (fr : Nat × Nat) : (w.alloc (.cells c e fr)).setRow w.heap.size c' = w.alloc (.cells c' e fr) := by
  unfold World.setRow World.alloc
  congr 1
  apply Array.ext_getElem?
  intro k
  simp only [Array.getElem?_modify, Array.getElem?_push, Array.size_push]
  by_cases hk : w.heap.size = k
  · subst hk; simp
  · have : ¬ k = w.heap.size := fun h => hk h.symm
    simp [hk, this]
theorem addr_add0 (g j : Nat) : (⟨g, 0, none⟩ : Addr).add j = ⟨g, j, none⟩ := by unfold Addr.add; split <;> simp_all
theorem Rd.block {w : World} {g : Nat} {L bs : List UInt8} {e : TypeId} {fr : Nat × Nat} (hg : w.heap[g]? = some (.cells (bArr L) e fr)) (hp : bs <+: L) : Rd w (some ⟨g, 0, none⟩) bs := fun j hj => by
  refine ⟨_, rfl, ?_⟩
  obtain ⟨t, rfl⟩ := hp
  rw [addr_add0, cell_of_row w g j _ e fr hg, bArr_get _ _ (by simp; omega)]
  simp [hj]
section
variable {P : Program} (w : World)
theorem run_append_bytes (t ty e : TypeId) (i : TypeInfo) (ht : P.underlying t = some (.slice e)) (hi : P.info? e = some i) (hs : i.size = 1)
    (g sLen sCap : Nat) (L : List UInt8) (hg : w.heap[g]? = some (.cells (bArr L) e (0, 0)))
    (A : Option Addr) (c : Nat) (bs : List UInt8) (hr : Rd w A bs) (hroom : sLen + bs.length ≤ sCap) (hfit : sLen + bs.length ≤ L.length) :
    (Builtin.append_ #[t, t] ty #[.slice (some ⟨g, 0, none⟩) sLen sCap, .slice A bs.length c]).run P w =
      .ok (.slice (some ⟨g, 0, none⟩) (sLen + bs.length) sCap) (w.setRow g (bArr (spl L sLen bs))) := by
  cases A with
  | some a =>
    have := run_append_room (P := P) w t ty e i ht hi g sLen sCap (bArr L) hg a bs.length c (vbs bs) (by simp [hs]) (fun j u hu => by
      simp only [vbs, List.getElem?_map, Option.map_eq_some_iff] at hu
      obtain ⟨b, hb, rfl⟩ := hu
      obtain ⟨hj, hb⟩ := List.getElem?_eq_some_iff.1 hb
      obtain ⟨ad, he, hc⟩ := hr j hj
      cases he
      rw [hc, hb]) (vbs_one bs) hroom (by simp [hs]; omega)
    rw [this]
    simp [hs, bArr, spl, vbs]
  | none =>
    have hb : bs = [] := by
      cases bs with
      | nil => rfl
      | cons b r => obtain ⟨ad, he, _⟩ := hr 0 (by simp); cases he
    subst hb
    have h0 : sLen ≤ sCap := by simpa using hroom
    simp [Builtin.append_, run_underlying ht, sizeOf, typeInfo, hi, Builtin.lenOf, h0, Builtin.firstCells, storeCells, spl, setRow_self w g (bArr L) e (0, 0) hg]
theorem run_string_of (src dst e : TypeId) (hs : P.underlying src = some (.slice e)) (he : P.underlying e = some (.int .u8)) (hd : P.underlying dst = some .string)
    (A : Option Addr) (c : Nat) (bs : List UInt8) (hr : Rd w A bs) : (convert src dst (.slice A bs.length c)).run P w = .ok (.string ⟨bs.toArray⟩) w := by
  cases A with
  | some a =>
    refine run_convert_bytes_back w src dst e a c bs hs he hd fun j hj => ?_
    obtain ⟨ad, he, hc⟩ := hr j hj
    cases he
    exact hc
  | none =>
    have hb : bs = [] := by
      cases bs with
      | nil => rfl
      | cons b r => obtain ⟨ad, he, _⟩ := hr 0 (by simp); cases he
    subst hb
    rw [run_convert_bytes_string w src dst e _ _ _ hs he hd]
    rfl
/-- '[]byte(s)': the capacity beyond the length, and the world behind it -/
def spare (w : World) (bs : List UInt8) (e : TypeId) : Nat := grownCap w bs.length 0 e - bs.length
def convW (w : World) (bs : List UInt8) (e : TypeId) : World := w.drew.alloc (.cells (bArr (bs ++ List.replicate (spare w bs e) 0)) e (bs.length + spare w bs e, bs.length + spare w bs e + 1))
theorem run_bytes_of (src dst e : TypeId) (bs : List UInt8) (hs : P.underlying src = some .string) (hd : P.underlying dst = some (.slice e)) (he : P.underlying e = some (.int .u8)) :
    (convert src dst (.string ⟨bs.toArray⟩)).run P w = .ok (.slice (some ⟨w.heap.size, 0, none⟩) bs.length (bs.length + spare w bs e)) (convW w bs e) := by
  have hge := grownCap_ge w bs.length 0 e
  have hsz : (⟨bs.toArray⟩ : ByteArray).size = bs.length := rfl
  rw [run_bytes_of_string w src dst e _ hs hd he, hsz]
  have hrow : bytesRow ⟨bs.toArray⟩ (grownCap w bs.length 0 e) = bArr (bs ++ List.replicate (spare w bs e) 0) := by
    apply Array.ext'
    simp [bytesRow, bArr, vbs, vb, hsz, spare]
  rw [hrow, show grownCap w bs.length 0 e = bs.length + spare w bs e by unfold spare; omega]
  have hbs : (bArr (bs ++ List.replicate (spare w bs e) 0)).size = bs.length + spare w bs e := by
    rw [bArr_size, List.length_append, List.length_replicate]
  rw [hbs]
  rfl
theorem convW_size (bs : List UInt8) (e : TypeId) : (convW w bs e).heap.size = w.heap.size + 1 := by simp [convW]
theorem convW_below {w0 : World} {B : Nat} (h : Below B w0 w) (hB : B ≤ w.heap.size) (bs : List UInt8) (e : TypeId) : Below B w0 (convW w bs e) := (h.drew).alloc hB _
theorem convW_block (bs : List UInt8) (e : TypeId) : (convW w bs e).heap[w.heap.size]? = some (.cells (bArr (bs ++ List.replicate (spare w bs e) 0)) e (bs.length + spare w bs e, bs.length + spare w bs e + 1)) := heap_alloc_new w.drew _
theorem convW_old (bs : List UInt8) (e : TypeId) (g : Nat) (hg : g < w.heap.size) : (convW w bs e).heap[g]? = w.heap[g]? := Below.heap_alloc w.drew _ g hg
theorem convW_rd (bs : List UInt8) (e : TypeId) : Rd (convW w bs e) (some ⟨w.heap.size, 0, none⟩) bs := Rd.block (convW_block w bs e) ⟨_, rfl⟩
/-- a built-in append whose run is known -/
theorem wpList_append_run {ops : Array Oper} {rest : List Oper} {o : Oper} {a : Act} {Q : Exit → Act → World → Prop} (hgd : o.guard = none) (s x : Operand) (t t' : TypeId)
    (ho : o.op = .call { callee := .builtin .append, args := #[s, x], argTypes := #[t, t'] }) {vs vx v : Value} {w w' : World} (hs : a.eval s = vs) (hx : a.eval x = vx)
    (hr : (Builtin.append_ #[t, t'] o.type #[vs, vx]).run P w = .ok v w') (h : wpList P ops Q rest (a.put o.dst v) w') : wpList P ops Q (o :: rest) a w :=
  wpList_plain hgd fun _ hK => by
    unfold Oper.wp execOp
    simp only [ho, resolve, invoke, builtin, Sem.run_bind, Sem.run_pure, Result.andThen_ok, List.map_toArray, List.map_cons, List.map_nil, hs, hx, hr]
    exact hK _ _ h
end
theorem setRow_setF {w : World} {g : Nat} {C : Array Value} {e : TypeId} {fr : Nat × Nat} (hg : w.heap[g]? = some (.cells C e fr)) (L : List UInt8) (k : Nat) (b : UInt8) :
    (w.setRow g (bArr L)).setCell ⟨g, k, none⟩ (Value.int .u8 (b.toNat : Int)) = w.setRow g (bArr (L.set k b)) := by
  rw [setCell_eq_setRow _ g k (bArr L) e fr _ (setRow_heap w g C _ e _ hg), setRow_setRow, bArr_set]
theorem tmod_bd (n k : Int) (hk : 0 < k) : -k < n.tmod k ∧ n.tmod k < k := by
  have h1 := Int.tmod_lt_of_pos n hk
  have h2 : (-n).tmod k < k := Int.tmod_lt_of_pos (-n) hk
  rw [Int.neg_tmod] at h2
  omega
theorem tmod_mod (n k : Int) (hk : 0 < k) : n % k = if n.tmod k < 0 then n.tmod k + k else n.tmod k := by
  have hb := tmod_bd n k hk
  have he := Int.tmod_add_mul_tdiv n k
  have hm : n % k = n.tmod k % k := by
    conv => lhs; rw [← he]
    exact Int.add_mul_emod_self_left _ _ _
  split
  · rw [hm, ← Int.add_emod_right, Int.emod_eq_of_lt (by omega) (by omega)]
  · rw [hm, Int.emod_eq_of_lt (by omega) (by omega)]
theorem bx8 (x y : UInt8) : bits .xor .u8 (x.toNat : Int) (y.toNat : Int) = ((x ^^^ y).toNat : Int) := by
  rw [u8_xor_nat _ _ x.toNat_lt y.toNat_lt, UInt8.toNat_xor]
end Go.Proofs.YtgkamdgegfioiaaDoor
