/- What a short form stands for (2.3), as a plain function: the error's number, and what comes out. No program. -/
namespace Go.Proofs.YtfogepoebihnoaaDoor
set_option linter.unusedSimpArgs false
set_option linter.unusedVariables false
/-- k bytes more, each the one that stands d ahead of the end -/
def cpyN (out : List UInt8) (d : Nat) : Nat → List UInt8
  | 0 => out
  | k + 1 => cpyN out d k ++ [(cpyN out d k).getD ((cpyN out d k).length - d) 0]
theorem cpyN_len (out : List UInt8) (d k : Nat) : (cpyN out d k).length = out.length + k := by
  induction k with
  | zero => rfl
  | succ k ih => simp [cpyN, ih]; omega
def dist (r : List UInt8) : Nat := (r.getD 0 0).toNat + 256 * (r.getD 1 0).toNat + 1
def sw (most : Int) : Nat → List UInt8 → List UInt8 → Int × List UInt8
  | 0, _, _ => (0, [])
  | _ + 1, [], out => (0, out)
  | f + 1, t :: r, out =>
    if t.toNat < 128 then
      if r.length < t.toNat + 1 then (7, [])
      else if most < ((out ++ r.take (t.toNat + 1)).length : Int) then (6, [])
      else sw most f (r.drop (t.toNat + 1)) (out ++ r.take (t.toNat + 1))
    else if r.length < 2 then (7, [])
    else if out.length < dist r then (7, [])
    else if most < ((cpyN out (dist r) (t.toNat - 125)).length : Int) then (6, [])
    else sw most f (r.drop 2) (cpyN out (dist r) (t.toNat - 125))
def swell (b : List UInt8) (most : Int) : Int × List UInt8 := if most < 0 then (5, []) else sw most (b.length + 1) b []
section
variable (m : Int) (k : Nat) (t : UInt8) (r out : List UInt8)
theorem sw_nil : sw m (k + 1) [] out = (0, out) := rfl
theorem sw_lit_short (h : t.toNat < 128) (h2 : r.length < t.toNat + 1) : sw m (k + 1) (t :: r) out = (7, []) := by
  show (if _ then _ else _) = _
  rw [if_pos h, if_pos h2]
theorem sw_lit_long (h : t.toNat < 128) (h2 : ¬ r.length < t.toNat + 1) (h3 : m < ((out ++ r.take (t.toNat + 1)).length : Int)) : sw m (k + 1) (t :: r) out = (6, []) := by
  show (if _ then _ else _) = _
  rw [if_pos h, if_neg h2, if_pos h3]
theorem sw_lit_go (h : t.toNat < 128) (h2 : ¬ r.length < t.toNat + 1) (h3 : ¬ m < ((out ++ r.take (t.toNat + 1)).length : Int)) : sw m (k + 1) (t :: r) out = sw m k (r.drop (t.toNat + 1)) (out ++ r.take (t.toNat + 1)) := by
  show (if _ then _ else _) = _
  rw [if_pos h, if_neg h2, if_neg h3]
theorem sw_cp_short (h : ¬ t.toNat < 128) (h2 : r.length < 2) : sw m (k + 1) (t :: r) out = (7, []) := by
  show (if _ then _ else _) = _
  rw [if_neg h, if_pos h2]
theorem sw_cp_far (h : ¬ t.toNat < 128) (h2 : ¬ r.length < 2) (h3 : out.length < dist r) : sw m (k + 1) (t :: r) out = (7, []) := by
  show (if _ then _ else _) = _
  rw [if_neg h, if_neg h2, if_pos h3]
theorem sw_cp_long (h : ¬ t.toNat < 128) (h2 : ¬ r.length < 2) (h3 : ¬ out.length < dist r) (h4 : m < ((cpyN out (dist r) (t.toNat - 125)).length : Int)) : sw m (k + 1) (t :: r) out = (6, []) := by
  show (if _ then _ else _) = _
  rw [if_neg h, if_neg h2, if_neg h3, if_pos h4]
theorem sw_cp_go (h : ¬ t.toNat < 128) (h2 : ¬ r.length < 2) (h3 : ¬ out.length < dist r) (h4 : ¬ m < ((cpyN out (dist r) (t.toNat - 125)).length : Int)) : sw m (k + 1) (t :: r) out = sw m k (r.drop 2) (cpyN out (dist r) (t.toNat - 125)) := by
  show (if _ then _ else _) = _
  rw [if_neg h, if_neg h2, if_neg h3, if_neg h4]
end
end Go.Proofs.YtfogepoebihnoaaDoor
