/-
  The small calculus, seventh part: composites, slices, append. No condition. (This text proves no statement by itself.)
-/
import Derived.Test.YtkklmkogdogbkaaSep6
import Derived.Laws.Append
namespace Go.Proofs.Ytkklmkogdogbkaa.Sep
open Go
set_option linter.unusedVariables false
set_option linter.unusedSimpArgs false

def fillAbs (place : Nat → Option (Nat × Nat)) : List AV → List (Nat × AV) → Option (Prop × List AV)
  | cells, [] => some (True, cells)
  | cells, (i, x) :: rest =>
    match place i, cellsOf? x with
    | some (off, size), some cs => (fillAbs place (splice cells off cs) rest).map fun q => ((cs.length = size ∧ off + size ≤ cells.length) ∧ q.1, q.2)
    | _, _ => none

def fillRows (sz : Nat) : List (List AV) → List (Nat × AV) → Option (Prop × List (List AV))
  | xs, [] => some (True, xs)
  | xs, (i, x) :: rest =>
    match cellsOf? x with
    | some cs => (fillRows sz (xs.set i cs) rest).map fun q => ((cs.length = sz ∧ i < xs.length ∧ cs.all AV.closed = true) ∧ q.1, q.2)
    | none => none

/-- What an appended slice holds. -/
def contentOf (sz : Nat) (H : Nat → Option Blk) : AV → Option (Prop × List (List AV) × List Nat)
  | .lit (.slice none 0 0) => some (True, [], [])
  | .vsl s ys => if s = sz then some (True, ys, []) else none
  | .vec j s lo n =>
    match H j with
    | some (.row s' xs) => if s = sz ∧ s' = sz then some (lo + n ≤ xs.length, (xs.drop lo).take n, [j]) else none
    | _ => none
  | _ => none

def sliceEnds (r : Operand → AV) (len : Nat) (lo hi : Option Operand) : Option (Prop × Nat × Nat) :=
  match lo, hi with
  | none, none => some (True, 0, len)
  | some l, none =>
    match strip (r l) with
    | .lit (.int _ n) => some (grd (r l) = true ∧ 0 ≤ n ∧ n ≤ len, n.toNat, len)
    | _ => none
  | none, some h =>
    match strip (r h) with
    | .lit (.int _ n) => some (grd (r h) = true ∧ 0 ≤ n ∧ n ≤ len, 0, n.toNat)
    | _ => none
  | some l, some h =>
    match strip (r l), strip (r h) with
    | .lit (.int _ n), .lit (.int _ m) => some (grd (r l) = true ∧ grd (r h) = true ∧ 0 ≤ n ∧ n ≤ m ∧ m ≤ len, n.toNat, m.toNat)
    | _, _ => none

def absMake (P : Program) (o : Op) (id : Nat) (r : Operand → AV) (H : Nat → Option Blk) : Option Out :=
  match o with
  | .build T parts =>
    match tyOf P T with
    | some t =>
      match t.kind with
      | 1 => (fillAbs (fun i => (t.offs[i]?).bind fun p => (tyOf P p.2).map fun u => (p.1, u.size)) t.zero (parts.toList.map fun p => (p.1, strip (r p.2)))).map fun q => { cond := (t.offs.all fun p => (tyOf P p.2).isSome) = true ∧ (∀ p ∈ parts, grd (r p.2) = true) ∧ q.1, val := .agg q.2 }
      | 2 =>
        match tyOf P t.elem with
        | some e => (fillAbs (fun i => some (i * e.size, e.size)) t.zero (parts.toList.map fun p => (p.1, strip (r p.2)))).map fun q => { cond := (∀ p ∈ parts, grd (r p.2) = true) ∧ q.1, val := .agg q.2 }
        | none => none
      | _ => none
    | none => none
  | .buildSlice T len parts =>
    match tyOf P T with
    | some t =>
      if t.kind = 3 then
        match tyOf P t.elem with
        | some e => (fillRows e.size (List.replicate len e.zero) (parts.toList.map fun p => (p.1, strip (r p.2)))).map fun q =>
            { cond := (∀ p ∈ parts, grd (r p.2) = true) ∧ e.zero.length = e.size ∧ 0 < e.size ∧ len * e.size ≤ 2 ^ 24 ∧ q.1, val := .vec id e.size 0 len, wr := [(id, .row e.size q.2)] }
        | none => none
      else none
    | none => none
  | .slice T x lo hi none =>
    match tyOf P T with
    | some t =>
      if t.kind = 3 then
        match tyOf P t.elem, strip (r x) with
        | some e, .vsl sz xs => if sz = e.size then (sliceEnds r xs.length lo hi).map fun q => { cond := grd (r x) = true ∧ q.1, val := .vsl sz ((xs.take q.2.2).drop q.2.1) } else none
        | some e, .vec i sz l n => if sz = e.size then (sliceEnds r n lo hi).map fun q => { cond := grd (r x) = true ∧ q.1, val := .vec i sz (l + q.2.1) (q.2.2 - q.2.1) } else none
        | _, _ => none
      else none
    | none => none
  | .call { callee := .builtin .append, args, argTypes } =>
    match args.toList, argTypes.toList with
    | [x, y], [T, U] =>
      match tyOf P T, tyOf P U with
      | some t, some u =>
        if t.kind = 3 ∧ u.kind = 3 then
          match tyOf P t.elem with
          | some e =>
            match contentOf e.size H (strip (r y)) with
            | some (cy, ys, js) =>
              match strip (r x) with
              | .lit (.slice none 0 0) => some { cond := grd (r x) = true ∧ grd (r y) = true ∧ cy ∧ (ys.all fun cs => cs.all AV.scalar) = true ∧ e.zero.length = e.size ∧ 0 < e.size ∧ 0 < e.bytes ∧ ys.length * e.bytes ≤ 140737488355328, val := .vec id e.size 0 ys.length, ri := js, wr := [(id, .row e.size ys)] }
              | .vec i s 0 n =>
                match H i with
                | some (.row s' xs) =>
                  if s = e.size ∧ s' = e.size then
                    some { cond := grd (r x) = true ∧ grd (r y) = true ∧ cy ∧ (ys.all fun cs => cs.all AV.scalar) = true ∧ e.zero.length = e.size ∧ i ∉ js ∧ n ≤ xs.length ∧ 0 < e.bytes ∧ (n + ys.length) * e.bytes ≤ 140737488355328, val := .vec id e.size 0 (n + ys.length), ri := i :: js, wr := [(i, .dead), (id, .row e.size (xs.take n ++ ys))] }
                  else none
                | _ => none
              | _ => none
            | none => none
          | none => none
        else none
      | _, _ => none
    | _, _ => none
  | _ => none

section
variable {S : Nat → Prop} {ρ : Names} {P : Program} {w : World} {r : Operand → AV} {ev : Operand → Value}

theorem foldl_set (off : Nat) : ∀ (l : List Value) (k : Nat) (cells : Array Value), off + k + l.length ≤ cells.size →
    ((l.zipIdx k).foldl (fun cs p => cs.setIfInBounds (off + p.2) p.1) cells).size = cells.size ∧
    ∀ t : Nat, ((l.zipIdx k).foldl (fun cs p => cs.setIfInBounds (off + p.2) p.1) cells)[t]? = if off + k ≤ t ∧ t < off + k + l.length then l[t - (off + k)]? else cells[t]? := by
  intro l
  induction l with
  | nil => intro k cells _; exact ⟨rfl, fun t => by rw [if_neg (by simp)]; rfl⟩
  | cons v l ih =>
    intro k cells hl
    simp at hl
    obtain ⟨h1, h2⟩ := ih (k + 1) (cells.setIfInBounds (off + k) v) (by simp; omega)
    refine ⟨by simpa using h1, fun t => ?_⟩
    rw [List.zipIdx_cons, List.foldl_cons, h2 t]
    by_cases ht : t = off + k
    · subst ht
      rw [if_neg (by omega), if_pos (by simp)]
      have : off + k < cells.size := by omega
      simp [this]
    · by_cases hc : off + (k + 1) ≤ t ∧ t < off + (k + 1) + l.length
      · rw [if_pos hc, if_pos (by simp; omega)]
        rw [show t - (off + k) = (t - (off + (k + 1))) + 1 by omega]; simp
      · rw [if_neg hc, if_neg (by simp; omega)]
        simp only [Array.getElem?_setIfInBounds]
        rw [if_neg (fun e => ht e.symm)]

theorem fold_cells (off : Nat) (u : Array Value) (cells : Array Value) (h : off + u.size ≤ cells.size) :
    (u.zipIdx.foldl (fun cs (c, j) => cs.setIfInBounds (off + j) c) cells).size = cells.size ∧
    ∀ t : Nat, (u.zipIdx.foldl (fun cs (c, j) => cs.setIfInBounds (off + j) c) cells)[t]? = if off ≤ t ∧ t < off + u.size then u[t - off]? else cells[t]? := by
  have := foldl_set off u.toList 0 cells (by simpa using h)
  rw [← Array.foldl_toList, Array.toList_zipIdx]
  simpa using this

theorem fill_sound (place : Nat → Option (Nat × Nat)) : ∀ (parts : List (Nat × Operand)) (cells : List AV) (vs : Array Value) {c : Prop} {cells' : List AV}, RelCs S w ρ cells vs →
    fillAbs place cells (parts.map fun p => (p.1, strip (r p.2))) = some (c, cells') → c → (∀ p ∈ parts, Rel S w ρ (strip (r p.2)) (ev p.2)) →
    ∃ vs', Instr.fill place vs (parts.map fun p => (p.1, ev p.2)) = some vs' ∧ RelCs S w ρ cells' vs' := by
  intro parts
  induction parts with
  | nil => intro cells vs c cells' h hf hc _; simp [fillAbs] at hf; obtain ⟨-, rfl⟩ := hf; exact ⟨vs, rfl, h⟩
  | cons p parts ih =>
    intro cells vs c cells' h hf hc hp
    simp only [List.map_cons, fillAbs] at hf
    split at hf
    · rename_i off size cs hpl hcs
      simp only [Option.map_eq_some_iff, Prod.mk.injEq] at hf
      obtain ⟨⟨c', q⟩, hq, rfl, rfl⟩ := hf
      obtain ⟨⟨hl, ho⟩, hc'⟩ := hc
      have hr := cells_rel (hp p (by simp)) hcs
      obtain ⟨f1, f2⟩ := fold_cells off (ev p.2).cells vs (by rw [hr.1, h.1]; omega)
      have hnew : RelCs S w ρ (splice cells off cs) ((ev p.2).cells.zipIdx.foldl (fun cs (c, j) => cs.setIfInBounds (off + j) c) vs) := by
        refine ⟨by rw [f1, h.1, splice_length (by omega)], fun k c v h1 h2 => ?_⟩
        rw [splice_get (by omega)] at h1
        rw [f2 k, hr.1] at h2
        split at h1
        · rename_i hin; rw [if_pos hin] at h2; exact hr.2 _ c v h1 h2
        · rename_i hin; rw [if_neg hin] at h2; exact h.2 _ c v h1 h2
      obtain ⟨vs', g1, g2⟩ := ih _ _ hnew hq hc' (fun p' hp' => hp p' (by simp [hp']))
      refine ⟨vs', ?_, g2⟩
      simp only [List.map_cons, Instr.fill, hpl]
      rw [if_neg (by simp [hr.1, h.1]; omega)]
      exact g1
    · cases hf

/-- Rows of elements in an array of cells. -/
def RowRel (S : Nat → Prop) (w : World) (sz : Nat) (xs : List (List AV)) (vs : Array Value) : Prop :=
  (∀ (k : Nat) cs, xs[k]? = some cs → cs.length = sz) ∧ ∀ (k j : Nat) cs c, xs[k]? = some cs → cs[j]? = some c → ∃ v, vs[k * sz + j]? = some v ∧ Rel S w noNames c v

theorem RowRel.mono {S' : Nat → Prop} {w' : World} {sz : Nat} {xs : List (List AV)} {vs : Array Value} (h : RowRel S w sz xs vs) (hk : Kept S w w') (hS : ∀ b, S b → S' b) : RowRel S' w' sz xs vs :=
  ⟨h.1, fun k j cs c h1 h2 => let ⟨v, hv, hr⟩ := h.2 k j cs c h1 h2; ⟨v, hv, hr.mono hk hS (Names.le.refl _)⟩⟩

theorem off_ne {a b sz i : Nat} (hi : i < sz) (h : a ≠ b) : ¬ (b * sz ≤ a * sz + i ∧ a * sz + i < b * sz + sz) := by
  rintro ⟨g1, g2⟩
  rcases Nat.lt_or_gt_of_ne h with hlt | hgt
  · have := mul_lt_off (sz := sz) (j := i) hlt hi; omega
  · have : (b + 1) * sz ≤ a * sz := Nat.mul_le_mul_right _ hgt
    rw [Nat.add_mul] at this
    omega

theorem fillRows_sound (sz : Nat) : ∀ (parts : List (Nat × Operand)) (xs : List (List AV)) (vs : Array Value) {c : Prop} {xs' : List (List AV)}, RowRel S w sz xs vs → vs.size = xs.length * sz →
    fillRows sz xs (parts.map fun p => (p.1, strip (r p.2))) = some (c, xs') → c → (∀ p ∈ parts, Rel S w ρ (strip (r p.2)) (ev p.2)) →
    ∃ vs', Instr.fill (fun i => some (i * sz, sz)) vs (parts.map fun p => (p.1, ev p.2)) = some vs' ∧ RowRel S w sz xs' vs' ∧ vs'.size = vs.size ∧ xs'.length = xs.length := by
  intro parts
  induction parts with
  | nil => intro xs vs c xs' h hs hf hc _; simp [fillRows] at hf; obtain ⟨-, rfl⟩ := hf; exact ⟨vs, rfl, h, rfl, rfl⟩
  | cons p parts ih =>
    intro xs vs c xs' h hs hf hc hp
    simp only [List.map_cons, fillRows] at hf
    split at hf
    · rename_i cs hcs
      simp only [Option.map_eq_some_iff, Prod.mk.injEq] at hf
      obtain ⟨⟨c', q⟩, hq, rfl, rfl⟩ := hf
      obtain ⟨⟨hl, ho, hcl⟩, hc'⟩ := hc
      have hr := cells_rel (hp p (by simp)) hcs
      have hfit : p.1 * sz + sz ≤ vs.size := by
        have : (p.1 + 1) * sz ≤ xs.length * sz := Nat.mul_le_mul_right _ ho
        rw [Nat.add_mul] at this; omega
      obtain ⟨f1, f2⟩ := fold_cells (p.1 * sz) (ev p.2).cells vs (by rw [hr.1]; omega)
      have hnew : RowRel S w sz (xs.set p.1 cs) ((ev p.2).cells.zipIdx.foldl (fun cs (c, j) => cs.setIfInBounds (p.1 * sz + j) c) vs) := by
        refine ⟨fun k cs' hk => ?_, fun k j cs' c h1 h2 => ?_⟩
        · rw [List.getElem?_set] at hk
          split at hk
          · rename_i e; cases hk; exact hl
          · exact h.1 k cs' hk
        · rw [List.getElem?_set] at h1
          split at h1
          · rename_i e
            subst e
            cases h1
            have hj : j < sz := by rw [← hl]; exact (List.getElem?_eq_some_iff.1 h2).1
            have hjlt : j < (ev p.2).cells.size := by rw [hr.1]; omega
            refine ⟨(ev p.2).cells[j], ?_, (hr.2 j c ((ev p.2).cells[j]) h2 (by simp [hjlt])).closed (List.all_eq_true.1 hcl c (List.mem_of_getElem? h2))⟩
            rw [f2, hr.1, if_pos (by omega), Nat.add_sub_cancel_left]
            simp [hjlt]
          · rename_i e
            obtain ⟨v, hv, hvr⟩ := h.2 k j cs' c h1 h2
            refine ⟨v, ?_, hvr⟩
            have hj : j < sz := by rw [← h.1 k _ h1]; exact (List.getElem?_eq_some_iff.1 h2).1
            rw [f2, hr.1, hl, if_neg (off_ne hj (fun x => e x.symm))]
            exact hv
      obtain ⟨vs', g1, g2, g3, g4⟩ := ih _ _ hnew (by rw [f1, hs]; simp) hq hc' (fun p' hp' => hp p' (by simp [hp']))
      refine ⟨vs', ?_, g2, g3.trans f1, by simpa using g4⟩
      simp only [List.map_cons, Instr.fill]
      rw [if_neg (by simp [hr.1]; omega)]
      exact g1
    · cases hf

theorem place_run {P : Program} {w : World} (fs : List Field) : ∀ (_ : ∀ f ∈ fs, ∃ i, P.info? f.type = some i), (fs.mapM (m := Sem) fun f => do pure (f.offset, ← sizeOf f.type)).run P w = .ok (fs.map fun f => (f.offset, P.cellsOf f.type)) w := by
  induction fs with
  | nil => intro _; rfl
  | cons f fs ih =>
    intro h
    obtain ⟨i, hi⟩ := h f (by simp)
    have h1 := ih (fun g hg => h g (by simp [hg]))
    have h2 : (sizeOf f.type).run P w = .ok (P.cellsOf f.type) w := by simp [sizeOf, typeInfo, hi, Program.cellsOf]
    rw [List.mapM_cons]
    simp only [Sem.run_bind, Sem.run_pure, Result.andThen_ok, h2, h1, List.map_cons]

theorem RelCs.zero {T : TypeId} {t : Ty} (ht : tyOf P T = some t) : ∃ z, (zeroValue T).run P w = .ok z w ∧ RelCs S w ρ t.zero z.cells := by
  obtain ⟨z, hz, ez⟩ := run_zeroValue_ty ht w
  refine ⟨z, hz, by rw [ez]; simp, fun k c v h1 h2 => ?_⟩
  rw [ez] at h1
  simp at h1
  obtain ⟨u, hu, rfl⟩ := h1
  rw [h2] at hu; cases hu; exact .lit _

theorem zero_row {T : TypeId} {t : Ty} {z : Value} (ez : t.zero = z.cells.toList.map .lit) (hl : t.zero.length = t.size) (hp : 0 < t.size) (len : Nat) :
    RowRel S w t.size (List.replicate len t.zero) ((Array.range (len * t.size)).map (z.cells[· % z.cells.size]!)) := by
  have hzs : z.cells.size = t.size := by rw [← hl, ez]; simp
  refine ⟨fun k cs h => ?_, fun k j cs c h1 h2 => ?_⟩
  · rw [List.getElem?_replicate] at h
    split at h
    · cases h; exact hl
    · cases h
  · rw [List.getElem?_replicate] at h1
    split at h1
    · rename_i hk
      cases h1
      have hj : j < t.size := by rw [← hl]; exact (List.getElem?_eq_some_iff.1 h2).1
      have hlt : k * t.size + j < len * t.size := mul_lt_off hk hj
      refine ⟨z.cells[j]!, ?_, ?_⟩
      · rw [Array.getElem?_map, Array.getElem?_range, if_pos hlt, Option.map_some, hzs, (div_mod_off hj).2]
      · rw [ez] at h2
        simp at h2
        obtain ⟨u, hu, rfl⟩ := h2
        have : z.cells[j]! = u := by simp [getElem!_def, hu]
        rw [this]; exact .lit _
    · cases h1

theorem sliceEnds_sound {len cap : Nat} {lo hi : Option Operand} {c : Prop} {l h : Nat} (he : sliceEnds r len lo hi = some (c, l, h)) (hc : c) (hcap : len ≤ cap) (hr : ∀ x, Rel S w ρ (r x) (ev x)) :
    (Instr.sliceBounds true len cap (lo.map ev) (hi.map ev) none).run P w = .ok (l, h, cap) w ∧ l ≤ h ∧ h ≤ len := by
  unfold sliceEnds at he
  split at he
  · cases he; exact ⟨by simp [Instr.sliceBounds], by omega, by omega⟩
  · rename_i x
    split at he <;> cases he
    rename_i k n e
    have h0 := (hr x).strip hc.1
    rw [e] at h0
    obtain ⟨-, h1, h2⟩ := hc
    exact ⟨by simp [Instr.sliceBounds, Instr.sliceBound, h0.lit_inv, asIntOf, h1, h2], by omega, by omega⟩
  · rename_i x
    split at he <;> cases he
    rename_i k n e
    have h0 := (hr x).strip hc.1
    rw [e] at h0
    obtain ⟨-, h1, h2⟩ := hc
    have h3 : n ≤ (cap : Int) := by omega
    exact ⟨by simp [Instr.sliceBounds, Instr.sliceBound, h0.lit_inv, asIntOf, h1, h3], by omega, by omega⟩
  · rename_i x y
    split at he <;> cases he
    rename_i k n k' m e e'
    obtain ⟨g1, g2, h1, h2, h3⟩ := hc
    have h0 := (hr x).strip g1
    rw [e] at h0
    have h0' := (hr y).strip g2
    rw [e'] at h0'
    have h4 : m ≤ (cap : Int) := by omega
    have h5 : 0 ≤ m := by omega
    have h6 : n ≤ max m 0 := by omega
    exact ⟨by simp [Instr.sliceBounds, Instr.sliceBound, h0.lit_inv, h0'.lit_inv, asIntOf, h1, h4, h5, h6], by omega, by omega⟩

end
end Go.Proofs.Ytkklmkogdogbkaa.Sep
