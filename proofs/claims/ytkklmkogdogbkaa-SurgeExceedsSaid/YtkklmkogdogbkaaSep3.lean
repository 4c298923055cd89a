/-
  The small calculus, third part: what types say, and the operations on abstract values. No condition. (This text proves no statement by itself.)
-/
import Derived.Test.YtkklmkogdogbkaaSep2
namespace Go.Proofs.Ytkklmkogdogbkaa.Sep
open Go
set_option linter.unusedVariables false
set_option linter.unusedSimpArgs false

/-- What is asked of a type: kind 1 struct, 2 array, 3 slice, 4 bool, 5 integer, 6 string, 0 any other. -/
structure Ty where
  kind : Nat
  size : Nat
  bytes : Nat
  zero : List AV
  len : Nat
  elem : TypeId
  offs : List (Nat × TypeId)
  ik : IntKind := .i64

def aggB (P : Program) (T : TypeId) : Bool :=
  match P.underlying T with
  | some (.struct _) | some (.array _ _) => true
  | _ => false

def tyOf (P : Program) (T : TypeId) : Option Ty :=
  match P.info? T, P.underlying T with
  | some i, some d =>
    match i.zero with
    | some z =>
      match d with
      | .struct fs => some { kind := 1, size := i.size, bytes := i.bytes, zero := z.cells.toList.map .lit, len := 0, elem := 0, offs := fs.toList.map fun f => (f.offset, f.type) }
      | .array n e => some { kind := 2, size := i.size, bytes := i.bytes, zero := z.cells.toList.map .lit, len := n, elem := e, offs := [] }
      | .slice e => some { kind := 3, size := i.size, bytes := i.bytes, zero := z.cells.toList.map .lit, len := 0, elem := e, offs := [] }
      | .bool => some { kind := 4, size := i.size, bytes := i.bytes, zero := z.cells.toList.map .lit, len := 0, elem := 0, offs := [] }
      | .int k => some { kind := 5, size := i.size, bytes := i.bytes, zero := z.cells.toList.map .lit, len := 0, elem := 0, offs := [], ik := k }
      | .string => some { kind := 6, size := i.size, bytes := i.bytes, zero := z.cells.toList.map .lit, len := 0, elem := 0, offs := [] }
      | _ => some { kind := 0, size := i.size, bytes := i.bytes, zero := z.cells.toList.map .lit, len := 0, elem := 0, offs := [] }
    | none => none
  | _, _ => none

def Ty.agg (t : Ty) : Bool := t.kind == 1 || t.kind == 2

section ty
variable {P : Program} {T : TypeId} {t : Ty} (h : tyOf P T = some t) (w : World)
include h
theorem tyOf_inv : ∃ i d z, P.info? T = some i ∧ P.underlying T = some d ∧ i.zero = some z ∧ t.size = i.size ∧ t.bytes = i.bytes ∧ t.zero = z.cells.toList.map .lit ∧
    t.agg = (match d with | .struct _ | .array _ _ => true | _ => false) ∧
    (t.kind = 1 → ∃ fs, d = .struct fs ∧ t.offs = fs.toList.map fun f => (f.offset, f.type)) ∧ (t.kind = 2 → d = .array t.len t.elem) ∧ (t.kind = 3 → d = .slice t.elem) ∧ (t.kind = 4 → d = .bool) ∧ (t.kind = 5 → d = .int t.ik) ∧ (t.kind = 6 → d = .string) := by
  unfold tyOf at h
  cases hi : P.info? T with
  | none => simp [hi] at h
  | some i =>
    cases hd : P.underlying T with
    | none => simp [hi, hd] at h
    | some d =>
      cases hz : i.zero with
      | none => simp [hi, hd, hz] at h
      | some z => cases d <;> (simp [hi, hd, hz] at h; subst h; exact ⟨i, _, z, rfl, rfl, hz, rfl, rfl, rfl, by simp [Ty.agg], by simp, by simp, by simp, by simp, by simp, by simp⟩)
theorem run_sizeOf_ty : (sizeOf T).run P w = .ok t.size w := by
  obtain ⟨i, d, z, hi, hd, hz, hs, -⟩ := tyOf_inv h
  simp [sizeOf, typeInfo, hi, hs]
theorem run_isAgg_ty : (isAgg T).run P w = .ok t.agg w := by
  obtain ⟨i, d, z, hi, hd, hz, hs, hb, hzz, ha, -⟩ := tyOf_inv h
  rw [ha]
  cases d <;> simp [isAgg, run_underlying hd]
theorem run_zeroValue_ty : ∃ z, (zeroValue T).run P w = .ok z w ∧ t.zero = z.cells.toList.map .lit := by
  obtain ⟨i, d, z, hi, hd, hz, hs, hb, hzz, -⟩ := tyOf_inv h
  exact ⟨z, by simp [zeroValue, typeInfo, hi, hz], hzz⟩
theorem cellsOf_ty : P.cellsOf T = t.size := by
  obtain ⟨i, d, z, hi, hd, hz, hs, -⟩ := tyOf_inv h
  simp [Program.cellsOf, hi, hs]
end ty

def strip : AV → AV
  | .when _ y => y
  | x => x
def grd : AV → Bool
  | .when g _ => g
  | _ => true

def AV.scalar : AV → Bool
  | .lit v => v.oneCell'
  | .ptr .. | .rptr .. | .vec .. | .vsl .. | .vptr .. | .fn .. => true
  | _ => false
/-- It names no block of our own. -/
def AV.closed : AV → Bool
  | .lit _ | .vsl .. | .vptr .. => true
  | _ => false
def cellsOf? : AV → Option (List AV)
  | .agg cs => some cs
  | .lit (.agg vs) => some (vs.toList.map .lit)
  | .lit (.tuple _) => none
  | .lit v => some [.lit v]
  | .ptr i o => some [.ptr i o]
  | .rptr i s n j => some [.rptr i s n j]
  | .vec i s l n => some [.vec i s l n]
  | .vsl s xs => some [.vsl s xs]
  | .vptr s xs n j => some [.vptr s xs n j]
  | .fn f xs cs => some [.fn f xs cs]
  | _ => none

def splice (cs : List AV) (off : Nat) (new : List AV) : List AV := cs.take off ++ new ++ cs.drop (off + new.length)

def mkIf (b : Bool) : AV → AV → Option AV
  | .lit (.bool p), .lit (.bool q) => some (.lit (.bool (bif b then p else q)))
  | .lit (.int k p), .lit (.int k' q) => if k = k' then some (.lit (.int k (bif b then p else q))) else none
  | _, _ => none

def intBin (op : BinOp) (k : IntKind) (a b : Int) : Option (Prop × Value) :=
  match op with
  | .add => some (True, .int k (k.wrap (a + b)))
  | .sub => some (True, .int k (k.wrap (a - b)))
  | .mul => some (True, .int k (k.wrap (a * b)))
  | .quo => some (b ≠ 0, .int k (k.wrap (a.tdiv b)))
  | .rem => some (b ≠ 0, .int k (a.tmod b))
  | .and => some (True, .int k (k.wrap (BitVec.ofInt k.bits a &&& BitVec.ofInt k.bits b).toNat))
  | .or => some (True, .int k (k.wrap (BitVec.ofInt k.bits a ||| BitVec.ofInt k.bits b).toNat))
  | .xor => some (True, .int k (k.wrap (BitVec.ofInt k.bits a ^^^ BitVec.ofInt k.bits b).toNat))
  | .eql => some (True, .bool (a == b))
  | .neq => some (True, .bool (a != b))
  | .lss => some (True, .bool (decide (a < b)))
  | .leq => some (True, .bool (decide (a ≤ b)))
  | .gtr => some (True, .bool (decide (a > b)))
  | .geq => some (True, .bool (decide (a ≥ b)))
  | _ => none

/-- Equality of rows of integers, bools and strings. -/
def eqVs : List Nat → List Value → List Value → Option Bool
  | [], [], [] => some true
  | 5 :: ks, .int k a :: xs, .int k' b :: ys => if k = k' then (eqVs ks xs ys).map fun r => (a == b) && r else none
  | 4 :: ks, .bool a :: xs, .bool b :: ys => (eqVs ks xs ys).map fun r => (a == b) && r
  | 6 :: ks, .string a :: xs, .string b :: ys => (eqVs ks xs ys).map fun r => (a == b) && r
  | _, _, _ => none
def litsOf : List AV → Option (List Value)
  | [] => some []
  | .lit v :: xs => (litsOf xs).map (v :: ·)
  | _ => none

/-- '==' on values of this type is that of their cells. -/
def EqOK (P : Program) (T : TypeId) (ks : List Nat) : Prop :=
  P.eqGuardType P.depth T = false ∧ ∀ (w : World) (xs ys : List Value) (r : Bool), eqVs ks xs ys = some r → (Op.equal T (.agg xs.toArray) (.agg ys.toArray)).run P w = .ok r w

def kindOf : Value → Nat
  | .bool _ => 4
  | .int _ _ => 5
  | .string _ => 6
  | _ => 0

structure Out where
  cond : Prop
  val : AV
  ri : List Nat := []
  wr : List (Nat × Blk) := []

def binAbs (P : Program) (op : BinOp) (T : TypeId) : AV → AV → Option (Prop × AV)
  | .lit (.int k a), .lit (.int k' b) =>
    match op with
    | .shl => some (0 ≤ b, .lit (.int k (k.wrap (a * 2 ^ (min b.toNat k.bits)))))
    | .shr => some (0 ≤ b, .lit (.int k (a.fdiv (2 ^ (min b.toNat k.bits)))))
    | op => if k = k' then (intBin op k a b).map fun r => (r.1, .lit r.2) else none
  | .lit (.bool a), .lit (.bool b) =>
    match tyOf P T with
    | some t => if t.kind = 4 then
        match op with
        | .eql => some (True, .lit (.bool (a == b)))
        | .neq => some (True, .lit (.bool (!(a == b))))
        | _ => none
      else none
    | none => none
  | .agg xs, .agg ys =>
    match litsOf xs, litsOf ys with
    | some us, some vs =>
      match eqVs (us.map kindOf) us vs, op with
      | some r, .eql => some (EqOK P T (us.map kindOf), .lit (.bool r))
      | some r, .neq => some (EqOK P T (us.map kindOf), .lit (.bool (!r)))
      | _, _ => none
    | _, _ => none
  | _, _ => none

end Go.Proofs.Ytkklmkogdogbkaa.Sep
