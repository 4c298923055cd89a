/-
  The small calculus, eighteenth part: operations on symbolic values that read, write or make memory. No condition. (This text proves no statement by itself.)
-/
import Derived.Test.YtkklmkogdogbkaaSep17
namespace Go.Proofs.Ytkklmkogdogbkaa.Sep
open Go
set_option linter.unusedVariables false
set_option linter.unusedSimpArgs false

inductive SBlk where
  | dead
  | cells (cs : List SV)
  | row (sz n : Nat) (f : Nat → List SV)
def SBlk.den : SBlk → Blk
  | .dead => .dead
  | .cells cs => .cells (SV.denL cs)
  | .row sz n f => .row sz (rowsOf n f)
def denH (H : Nat → Option SBlk) : Nat → Option Blk := fun i => (H i).map SBlk.den

structure SOut where
  ps : List Prop
  val : SV
  ri : List Nat := []
  wr : List (Nat × SBlk) := []
def SOut.den (o : SOut) : Out := { cond := True, val := o.val.den, ri := o.ri, wr := o.wr.map fun p => (p.1, p.2.den) }

def zeroC : AV → SV
  | .lit v => ofVal v
  | _ => .top
def zeroS (l : List AV) : List SV := l.map zeroC
theorem zeroC_le (x : AV) : x.le (zeroC x).den := by
  cases x <;> first | exact AV.le.top _ | skip
  simp only [zeroC, den_ofVal]; exact .refl _
theorem zeroS_le : ∀ l : List AV, LeL l (SV.denL (zeroS l))
  | [] => trivial
  | x :: xs => ⟨zeroC_le x, zeroS_le xs⟩

def partS (t : Ty) (o : Nat) (cs : List SV) : SV := if t.agg then .agg ((cs.drop o).take t.size) else cs.getD o .top
theorem partS_den (t : Ty) (o : Nat) (cs : List SV) : (partS t o cs).den = if t.agg then .agg (((SV.denL cs).drop o).take t.size) else (SV.denL cs).getD o .top := by
  unfold partS
  cases t.agg
  · simp only [Bool.false_eq_true, if_false, denL_getD]
  · simp only [if_true, SV.den, denL_slice]
def spliceS (cs : List SV) (off : Nat) (new : List SV) : List SV := cs.take off ++ new ++ cs.drop (off + new.length)
theorem spliceS_den (cs : List SV) (off : Nat) (new : List SV) : SV.denL (spliceS cs off new) = splice (SV.denL cs) off (SV.denL new) := by
  simp only [spliceS, splice, denL_eq, List.map_append, List.map_take, List.map_drop, List.length_map]

/-- A row with what lies at n replaced. -/
def putRow (f : Nat → List SV) (n : Nat) (cs : List SV) : Nat → List SV := fun k => SV.mergeL (decide (k = n)) cs (f k)
theorem putRow_le {m n : Nat} {f : Nat → List SV} {cs : List SV} : LeLL ((rowsOf m f).set n (SV.denL cs)) (rowsOf m (putRow f n cs)) := by
  refine ⟨by simp [rowsOf], fun k x y h1 h2 => ?_⟩
  rw [rowsOf_get] at h2
  split at h2
  · rename_i hk
    cases h2
    rw [List.getElem?_set] at h1
    split at h1
    · rename_i e
      subst e
      rw [rowsOf_length, if_pos hk] at h1
      cases h1
      simp only [putRow, decide_true]
      exact mergeL_true _ _
    · rename_i e
      rw [rowsOf_get, if_pos hk] at h1
      cases h1
      have : decide (k = n) = false := decide_eq_false (fun h => e h.symm)
      simp only [putRow, this]
      exact mergeL_false _ _
  · cases h2

def memS (P : Program) (o : Op) (id : Nat) (r : Operand → SV) (H : Nat → Option SBlk) : Option SOut :=
  match o with
  | .alloc T => (tyOf P T).map fun t => { ps := [], val := .ptr id 0, wr := [(id, .cells (zeroS t.zero))] }
  | .box _ x => ((r x).strip.cells?).map fun cs => { ps := (r x).grd, val := .ptr id 0, wr := [(id, .cells cs)] }
  | .load T x =>
    match tyOf P T with
    | some t =>
      match (r x).strip with
      | .ptr i off =>
        match H i with
        | some (.cells cs) => if off + t.n ≤ cs.length then some { ps := (r x).grd, val := partS t off cs, ri := [i] } else none
        | _ => none
      | .rptr i s n j =>
        match H i with
        | some (.row sz m f) => if s = sz ∧ j + t.n ≤ s then some { ps := (r x).grd ++ [n < m], val := partS t j (f n), ri := [i] } else none
        | _ => none
      | .sptr s m f n j => if j + t.n ≤ s then some { ps := (r x).grd ++ [n < m], val := partS t j (f n) } else none
      | _ => none
    | none => none
  | .store T x y =>
    match tyOf P T, (r y).strip.cells? with
    | some t, some vs =>
      match (r x).strip with
      | .ptr i off =>
        match H i with
        | some (.cells cs) => if vs.length = t.size ∧ vs.all SV.scalar = true ∧ off + t.size ≤ cs.length then some { ps := (r x).grd ++ (r y).grd, val := .top, ri := [i], wr := [(i, .cells (spliceS cs off vs))] } else none
        | _ => none
      | .rptr i s n j =>
        match H i with
        | some (.row sz m f) => if s = sz ∧ vs.length = t.size ∧ vs.all SV.scalar = true ∧ vs.all SV.closed = true ∧ j + t.size ≤ s then some { ps := (r x).grd ++ ((r y).grd ++ [n < m]), val := .top, ri := [i], wr := [(i, .row sz m (putRow f n (spliceS (f n) j vs)))] } else none
        | _ => none
      | _ => none
    | _, _ => none
  | _ => none

theorem denH_some {H : Nat → Option SBlk} {i : Nat} {b : SBlk} (h : H i = some b) : denH H i = some b.den := by simp [denH, h]

section
variable {P : Program} {r : Operand → SV} {H : Nat → Option SBlk} {id : Nat}

set_option maxHeartbeats 1000000 in
theorem memS_sound {o : Op} {out : SOut} (h : memS P o id r H = some out) (hp : AllP out.ps) : ∃ out', absMem P o id (fun x => (r x).den) (denH H) = some out' ∧ out'.cond ∧ out'.le out.den := by
  cases o <;> simp only [memS, reduceCtorEq] at h <;> simp only [absMem]
  case alloc T =>
    simp only [Option.map_eq_some_iff] at h
    obtain ⟨t, ht, rfl⟩ := h
    simp only [ht, Option.map_some]
    exact ⟨_, rfl, trivial, .refl _, rfl, rfl, .cells (zeroS_le _), trivial⟩
  case box T x =>
    simp only [Option.map_eq_some_iff] at h
    obtain ⟨cs, hcs, rfl⟩ := h
    simp only [den_strip, den_cells hcs, Option.map_some]
    exact ⟨_, rfl, den_grd hp, .refl _, rfl, wrLe.refl _⟩
  case load T x =>
    split at h
    · rename_i t ht
      simp only [ht, den_strip]
      split at h
      · rename_i i off hx
        simp only [hx, SV.den]
        split at h
        · rename_i cs hi
          simp only [denH_some hi, SBlk.den]
          split at h
          · rename_i hl
            cases h
            exact ⟨_, rfl, ⟨den_grd hp, by rw [denL_length]; exact hl⟩, by simp only [SOut.den, partS_den]; exact .refl _, rfl, trivial⟩
          · cases h
        · cases h
      · rename_i i s n j hx
        simp only [hx, SV.den]
        split at h
        · rename_i sz m f hi
          simp only [denH_some hi, SBlk.den]
          split at h
          · rename_i hl
            cases h
            obtain ⟨hp1, hp2⟩ := AllP.app.1 hp
            have hn : n < m := hp2 _ (List.mem_singleton.2 rfl)
            simp only [hl.1, if_true]
            exact ⟨_, rfl, ⟨den_grd hp1, by rw [rowsOf_length]; exact hn, by rw [← hl.1]; exact hl.2⟩, by simp only [SOut.den, partS_den, rowsOf_getD hn]; exact .refl _, rfl, trivial⟩
          · cases h
        · cases h
      · rename_i s m f n j hx
        simp only [hx, SV.den]
        split at h
        · rename_i hl
          cases h
          obtain ⟨hp1, hp2⟩ := AllP.app.1 hp
          have hn : n < m := hp2 _ (List.mem_singleton.2 rfl)
          exact ⟨_, rfl, ⟨den_grd hp1, by rw [rowsOf_length]; exact hn, hl⟩, by simp only [SOut.den, partS_den, rowsOf_getD hn]; exact .refl _, rfl, trivial⟩
        · cases h
      · cases h
    · cases h
  case store T x y =>
    split at h
    · rename_i t vs ht hvs
      simp only [ht, den_strip, den_cells hvs]
      split at h
      · rename_i i off hx
        simp only [hx, SV.den]
        split at h
        · rename_i cs hi
          simp only [denH_some hi, SBlk.den]
          split at h
          · rename_i hl
            cases h
            obtain ⟨hp1, hp2⟩ := AllP.app.1 hp
            refine ⟨_, rfl, ⟨den_grd hp1, den_grd hp2, by rw [denL_length]; exact hl.1, by rw [denL_all_scalar]; exact hl.2.1, by rw [denL_length]; exact hl.2.2⟩, .refl _, rfl, ?_⟩
            simp only [SOut.den, List.map_cons, List.map_nil, SBlk.den, spliceS_den]
            exact wrLe.refl _
          · cases h
        · cases h
      · rename_i i s n j hx
        simp only [hx, SV.den]
        split at h
        · rename_i sz m f hi
          simp only [denH_some hi, SBlk.den]
          split at h
          · rename_i hl
            cases h
            obtain ⟨hp1, hp2⟩ := AllP.app.1 hp
            obtain ⟨hp2, hp3⟩ := AllP.app.1 hp2
            have hn : n < m := hp3 _ (List.mem_singleton.2 rfl)
            simp only [hl.1, if_true]
            refine ⟨_, rfl, ⟨den_grd hp1, den_grd hp2, by rw [denL_length]; exact hl.2.1, by rw [denL_all_scalar]; exact hl.2.2.1, by rw [denL_all_closed]; exact hl.2.2.2.1, by rw [rowsOf_length]; exact hn, by rw [← hl.1]; exact hl.2.2.2.2⟩, .refl _, rfl, ?_⟩
            simp only [SOut.den, List.map_cons, List.map_nil, SBlk.den]
            refine ⟨rfl, .row ?_, trivial⟩
            rw [rowsOf_getD hn, ← spliceS_den]
            exact putRow_le
          · cases h
        · cases h
      · cases h
    · cases h
end

def fillS (place : Nat → Option (Nat × Nat)) : List SV → List (Nat × SV) → Option (List SV)
  | cells, [] => some cells
  | cells, (i, x) :: rest =>
    match place i, x.cells? with
    | some (off, size), some cs => if cs.length = size ∧ off + size ≤ cells.length then fillS place (spliceS cells off cs) rest else none
    | _, _ => none

theorem splice_le {cs ds new : List AV} {off : Nat} (h : LeL cs ds) : LeL (splice cs off new) (splice ds off new) := by
  have e := h.len
  refine .of (by simp [splice, e]) (fun k x y h1 h2 => ?_)
  unfold splice at h1 h2
  by_cases g1 : k < (cs.take off).length
  · have g1' : k < (ds.take off).length := by simpa [e] using g1
    rw [List.append_assoc, List.getElem?_append_left g1] at h1
    rw [List.append_assoc, List.getElem?_append_left g1'] at h2
    rw [List.getElem?_take] at h1 h2
    split at h1
    · rename_i hk
      rw [if_pos hk] at h2
      obtain ⟨x', a1, a2⟩ := h.get h2
      rw [h1] at a1; cases a1; exact a2
    · cases h1
  · have g1' : ¬ k < (ds.take off).length := by simpa [e] using g1
    have el : (cs.take off).length = (ds.take off).length := by simp [e]
    rw [List.append_assoc, List.getElem?_append_right (by omega)] at h1
    rw [List.append_assoc, List.getElem?_append_right (by omega)] at h2
    rw [el] at h1
    by_cases g2 : k - (ds.take off).length < new.length
    · rw [List.getElem?_append_left g2] at h1 h2
      rw [h1] at h2; cases h2; exact .refl _
    · rw [List.getElem?_append_right (by omega)] at h1 h2
      rw [List.getElem?_drop] at h1 h2
      obtain ⟨x', a1, a2⟩ := h.get h2
      rw [h1] at a1; cases a1; exact a2

theorem fillS_sound (place : Nat → Option (Nat × Nat)) (r : Operand → SV) : ∀ (parts : List (Nat × Operand)) (cells : List SV) (cells0 : List AV) {out : List SV}, LeL cells0 (SV.denL cells) → fillS place cells (parts.map fun p => (p.1, (r p.2).strip)) = some out →
    ∃ c out0, fillAbs place cells0 (parts.map fun p => (p.1, strip (r p.2).den)) = some (c, out0) ∧ c ∧ LeL out0 (SV.denL out) := by
  intro parts
  induction parts with
  | nil => intro cells cells0 out h0 h; simp only [List.map_nil, fillS, Option.some.injEq] at h; subst h; exact ⟨True, _, rfl, trivial, h0⟩
  | cons p parts ih =>
    intro cells cells0 out h0 h
    simp only [List.map_cons, fillS] at h
    simp only [List.map_cons, fillAbs]
    split at h
    · rename_i off size cs h1 h2
      split at h
      · rename_i hl
        obtain ⟨c, out0, g1, g2, g3⟩ := ih (spliceS cells off cs) (splice cells0 off (SV.denL cs)) (by rw [spliceS_den]; exact splice_le h0) h
        simp only [h1, den_strip, den_cells h2]
        simp only [den_strip] at g1
        rw [g1]
        exact ⟨_, _, rfl, ⟨⟨by rw [denL_length]; exact hl.1, by rw [h0.len, denL_length]; exact hl.2⟩, g2⟩, g3⟩
      · cases h
    · cases h

def fillRowsS (sz len : Nat) : (Nat → List SV) → List (Nat × SV) → Option (Nat → List SV)
  | f, [] => some f
  | f, (i, x) :: rest =>
    match x.cells? with
    | some cs => if cs.length = sz ∧ i < len ∧ cs.all SV.closed = true then fillRowsS sz len (if len = 1 then fun _ => cs else putRow f i cs) rest else none
    | none => none

theorem LeLL.trans_set {xs ys : List (List AV)} (h : LeLL xs ys) (i : Nat) (cs : List AV) : LeLL (xs.set i cs) (ys.set i cs) := by
  refine ⟨by simp [h.1], fun k x y h1 h2 => ?_⟩
  rw [List.getElem?_set] at h1 h2
  split at h1
  · rename_i e
    rw [if_pos e] at h2
    subst e
    split at h1
    · split at h2
      · cases h1; cases h2; exact .refl _
      · cases h2
    · cases h1
  · rename_i e
    rw [if_neg e] at h2
    exact h.2 k x y h1 h2
theorem AV.le.trans {x y z : AV} (h : x.le y) (h' : y.le z) : x.le z := fun S w ρ v hv => h' S w ρ v (h S w ρ v hv)
theorem LeL.trans : ∀ {xs ys zs : List AV}, LeL xs ys → LeL ys zs → LeL xs zs
  | [], [], [], _, _ => trivial
  | _ :: _, _ :: _, _ :: _, h, h' => ⟨h.1.trans h'.1, h.2.trans h'.2⟩
  | [], [], _ :: _, _, h => h.elim
  | [], _ :: _, _, h, _ => h.elim
  | _ :: _, [], _, h, _ => h.elim
  | _ :: _, _ :: _, [], _, h => h.elim
theorem LeLL.trans {xs ys zs : List (List AV)} (h : LeLL xs ys) (h' : LeLL ys zs) : LeLL xs zs := by
  refine ⟨h.1.trans h'.1, fun k x z h1 h2 => ?_⟩
  have hk : k < ys.length := by rw [h'.1]; exact (List.getElem?_eq_some_iff.1 h2).1
  exact (h.2 k x ys[k] h1 (by simp)).trans (h'.2 k ys[k] z (by simp) h2)
theorem LeLL.refl (xs : List (List AV)) : LeLL xs xs := ⟨rfl, fun k x y h1 h2 => by rw [h1] at h2; cases h2; exact .refl _⟩

theorem fillRowsS_sound (sz len : Nat) (r : Operand → SV) : ∀ (parts : List (Nat × Operand)) (f : Nat → List SV) (xs : List (List AV)) {g : Nat → List SV}, LeLL xs (rowsOf len f) → fillRowsS sz len f (parts.map fun p => (p.1, (r p.2).strip)) = some g →
    ∃ c out0, fillRows sz xs (parts.map fun p => (p.1, strip (r p.2).den)) = some (c, out0) ∧ c ∧ LeLL out0 (rowsOf len g) := by
  intro parts
  induction parts with
  | nil => intro f xs g h0 h; simp only [List.map_nil, fillRowsS, Option.some.injEq] at h; subst h; exact ⟨True, _, rfl, trivial, h0⟩
  | cons p parts ih =>
    intro f xs g h0 h
    simp only [List.map_cons, fillRowsS] at h
    simp only [List.map_cons, fillRows]
    split at h
    · rename_i cs h2
      split at h
      · rename_i hl
        have hstep : LeLL (xs.set p.1 (SV.denL cs)) (rowsOf len (if len = 1 then fun _ => cs else putRow f p.1 cs)) := by
          refine (h0.trans_set p.1 (SV.denL cs)).trans ?_
          by_cases h1 : len = 1
          · subst h1
            have : p.1 = 0 := by omega
            rw [this]
            simp only [if_true]
            simp [rowsOf, List.range_succ]
            exact .refl _
          · rw [if_neg h1]; exact putRow_le
        obtain ⟨c, out0, g1, g2, g3⟩ := ih _ (xs.set p.1 (SV.denL cs)) hstep h
        simp only [den_strip, den_cells h2]
        simp only [den_strip] at g1
        rw [g1]
        exact ⟨_, _, rfl, ⟨⟨by rw [denL_length]; exact hl.1, by rw [h0.1, rowsOf_length]; exact hl.2.1, by rw [denL_all_closed]; exact hl.2.2⟩, g2⟩, g3⟩
      · cases h
    · cases h

/-- What an appended slice holds. -/
def contentS (sz : Nat) (H : Nat → Option SBlk) : SV → Option (List Prop × Nat × (Nat → List SV) × List Nat)
  | .lit (.slice none 0 0) => some ([], 0, fun _ => [], [])
  | .sl s m g => if s = sz then some ([], m, g, []) else none
  | .vec j s lo m =>
    match H j with
    | some (.row s' len f) => if s = sz ∧ s' = sz then some ([lo + m ≤ len], m, fun k => f (lo + k), [j]) else none
    | _ => none
  | _ => none

theorem rows_slice {len lo m : Nat} {f : Nat → List SV} (h : lo + m ≤ len) : ((rowsOf len f).drop lo).take m = rowsOf m (fun k => f (lo + k)) := by
  refine List.ext_getElem? (fun k => ?_)
  rw [List.getElem?_take, rowsOf_get]
  by_cases hk : k < m
  · rw [if_pos hk, if_pos hk, List.getElem?_drop, rowsOf_get, if_pos (by omega)]
  · rw [if_neg hk, if_neg hk]

theorem contentS_sound {sz : Nat} {H : Nat → Option SBlk} {x : SV} {ps : List Prop} {m : Nat} {g : Nat → List SV} {js : List Nat} (h : contentS sz H x = some (ps, m, g, js)) (hp : AllP ps) :
    ∃ c ys, contentOf sz (denH H) x.den = some (c, ys, js) ∧ c ∧ ys = rowsOf m g := by
  unfold contentS at h
  split at h
  · cases h; exact ⟨_, _, rfl, trivial, by simp [rowsOf]⟩
  · split at h
    · rename_i hs; cases h; simp only [SV.den, contentOf, hs, if_true]; exact ⟨_, _, rfl, trivial, rfl⟩
    · cases h
  · split at h
    · rename_i hj
      split at h
      · rename_i hs
        cases h
        simp only [SV.den, contentOf, denH_some hj, SBlk.den, hs, and_self, if_true]
        have hl := hp _ (List.mem_singleton.2 rfl)
        exact ⟨_, _, rfl, by rw [rowsOf_length]; exact hl, rows_slice hl⟩
      · cases h
    · cases h
  · cases h

def sliceEndsS (r : Operand → SV) (len : Nat) (lo hi : Option Operand) : Option (List Prop × Nat × Nat) :=
  match lo, hi with
  | none, none => some ([], 0, len)
  | some l, none =>
    match (r l).strip with
    | .int _ n => some ((r l).grd ++ [0 ≤ n, n ≤ len], n.toNat, len)
    | _ => none
  | none, some h =>
    match (r h).strip with
    | .int _ n => some ((r h).grd ++ [0 ≤ n, n ≤ len], 0, n.toNat)
    | _ => none
  | some l, some h =>
    match (r l).strip, (r h).strip with
    | .int _ n, .int _ m => some ((r l).grd ++ ((r h).grd ++ [0 ≤ n, n ≤ m, m ≤ len]), n.toNat, m.toNat)
    | _, _ => none
theorem sliceEndsS_sound {r : Operand → SV} {len : Nat} {lo hi : Option Operand} {ps : List Prop} {a b : Nat} (h : sliceEndsS r len lo hi = some (ps, a, b)) (hp : AllP ps) :
    ∃ c, sliceEnds (fun x => (r x).den) len lo hi = some (c, a, b) ∧ c ∧ a ≤ b ∧ b ≤ len := by
  unfold sliceEndsS at h
  split at h
  · cases h; exact ⟨_, rfl, trivial, by omega, by omega⟩
  · split at h
    · rename_i hx
      cases h
      obtain ⟨hp1, hp2⟩ := AllP.app.1 hp
      obtain ⟨h1, hp2⟩ := AllP.cons.1 hp2
      obtain ⟨h2, hp2⟩ := AllP.cons.1 hp2
      simp only [sliceEnds, den_strip, hx, SV.den]
      exact ⟨_, rfl, ⟨den_grd hp1, h1, h2⟩, by omega, by omega⟩
    · cases h
  · split at h
    · rename_i hx
      cases h
      obtain ⟨hp1, hp2⟩ := AllP.app.1 hp
      obtain ⟨h1, hp2⟩ := AllP.cons.1 hp2
      obtain ⟨h2, hp2⟩ := AllP.cons.1 hp2
      simp only [sliceEnds, den_strip, hx, SV.den]
      exact ⟨_, rfl, ⟨den_grd hp1, h1, h2⟩, by omega, by omega⟩
    · cases h
  · split at h
    · rename_i hx hy
      cases h
      obtain ⟨hp1, hp2⟩ := AllP.app.1 hp
      obtain ⟨hp2, hp3⟩ := AllP.app.1 hp2
      obtain ⟨h1, hp3⟩ := AllP.cons.1 hp3
      obtain ⟨h2, hp3⟩ := AllP.cons.1 hp3
      obtain ⟨h3, hp3⟩ := AllP.cons.1 hp3
      simp only [sliceEnds, den_strip, hx, hy, SV.den]
      exact ⟨_, rfl, ⟨den_grd hp1, den_grd hp2, h1, h2, h3⟩, by omega, by omega⟩
    · cases h

/-- One row behind the other. -/
def catRow (f : Nat → List SV) (n : Nat) (g : Nat → List SV) : Nat → List SV := fun k => SV.mergeL (decide (k < n)) (f k) (g (k - n))
theorem catRow_le {len n m : Nat} {f g : Nat → List SV} (h : n ≤ len) : LeLL ((rowsOf len f).take n ++ rowsOf m g) (rowsOf (n + m) (catRow f n g)) := by
  have hl : ((rowsOf len f).take n).length = n := by simp [rowsOf_length]; omega
  refine ⟨by rw [List.length_append, hl, rowsOf_length, rowsOf_length], fun k x y h1 h2 => ?_⟩
  rw [rowsOf_get] at h2
  split at h2
  · rename_i hk
    cases h2
    by_cases hkn : k < n
    · rw [List.getElem?_append_left (by omega), List.getElem?_take, if_pos hkn, rowsOf_get, if_pos (by omega)] at h1
      cases h1
      simp only [catRow, decide_eq_true hkn]
      exact mergeL_true _ _
    · rw [List.getElem?_append_right (by omega), hl, rowsOf_get, if_pos (by omega)] at h1
      cases h1
      simp only [catRow, decide_eq_false hkn]
      exact mergeL_false _ _
  · cases h2

def makeS (P : Program) (o : Op) (id : Nat) (r : Operand → SV) (H : Nat → Option SBlk) : Option SOut :=
  match o with
  | .build T parts =>
    match tyOf P T with
    | some t =>
      match t.kind with
      | 1 => if (t.offs.all fun p => (tyOf P p.2).isSome) = true then
          (fillS (fun i => (t.offs[i]?).bind fun p => (tyOf P p.2).map fun u => (p.1, u.size)) (zeroS t.zero) (parts.toList.map fun p => (p.1, (r p.2).strip))).map fun cs => { ps := parts.toList.flatMap fun p => (r p.2).grd, val := .agg cs } else none
      | 2 =>
        match tyOf P t.elem with
        | some e => (fillS (fun i => some (i * e.size, e.size)) (zeroS t.zero) (parts.toList.map fun p => (p.1, (r p.2).strip))).map fun cs => { ps := parts.toList.flatMap fun p => (r p.2).grd, val := .agg cs }
        | none => none
      | _ => none
    | none => none
  | .buildSlice T len parts =>
    match tyOf P T with
    | some t =>
      if t.kind = 3 then
        match tyOf P t.elem with
        | some e => if e.zero.length = e.size ∧ 0 < e.size ∧ len * e.size ≤ 16777216 then
            (fillRowsS e.size len (fun _ => zeroS e.zero) (parts.toList.map fun p => (p.1, (r p.2).strip))).map fun f =>
              { ps := parts.toList.flatMap fun p => (r p.2).grd, val := .vec id e.size 0 len, wr := [(id, .row e.size len f)] } else none
        | none => none
      else none
    | none => none
  | .slice T x lo hi none =>
    match tyOf P T with
    | some t =>
      if t.kind = 3 then
        match tyOf P t.elem, (r x).strip with
        | some e, .sl sz n f => if sz = e.size then (sliceEndsS r n lo hi).map fun q => { ps := (r x).grd ++ q.1, val := .sl sz (q.2.2 - q.2.1) (fun k => f (q.2.1 + k)) } else none
        | some e, .vec i sz l n => if sz = e.size then (sliceEndsS r n lo hi).map fun q => { ps := (r x).grd ++ q.1, val := .vec i sz (l + q.2.1) (q.2.2 - q.2.1) } else none
        | _, _ => none
      else none
    | none => none
  | .call { callee := .builtin .append, args, argTypes } =>
    match args.toList, argTypes.toList with
    | [x, y], [T, U] =>
      match tyOf P T, tyOf P U with
      | some t, some u =>
        if t.kind = 3 ∧ u.kind = 3 then
          match tyOf P t.elem with
          | some e =>
            match contentS e.size H (r y).strip with
            | some (cy, m, g, js) =>
              if e.zero.length = e.size ∧ 0 < e.size ∧ 0 < e.bytes then
              match (r x).strip with
              | .lit (.slice none 0 0) => some { ps := (r x).grd ++ ((r y).grd ++ (cy ++ [∀ k, k < m → (g k).all SV.scalar = true, m * e.bytes ≤ 140737488355328])), val := .vec id e.size 0 m, ri := js, wr := [(id, .row e.size m g)] }
              | .vec i s 0 n =>
                match H i with
                | some (.row s' len f) =>
                  if s = e.size ∧ s' = e.size ∧ js.contains i = false then
                    some { ps := (r x).grd ++ ((r y).grd ++ (cy ++ [∀ k, k < m → (g k).all SV.scalar = true, n ≤ len, (n + m) * e.bytes ≤ 140737488355328])), val := .vec id e.size 0 (n + m), ri := i :: js, wr := [(i, .dead), (id, .row e.size (n + m) (catRow f n g))] }
                  else none
                | _ => none
              | _ => none
              else none
            | none => none
          | none => none
        else none
      | _, _ => none
    | _, _ => none
  | _ => none

theorem rows_scalar {m : Nat} {g : Nat → List SV} (h : ∀ k, k < m → (g k).all SV.scalar = true) : ((rowsOf m g).all fun cs => cs.all AV.scalar) = true := by
  refine List.all_eq_true.2 (fun x hx => ?_)
  obtain ⟨k, hk, rfl⟩ := List.mem_map.1 hx
  rw [denL_all_scalar]
  exact h k (by simpa using hk)
theorem parts_grd {parts : Array (Nat × Operand)} {r : Operand → SV} (h : AllP (parts.toList.flatMap fun p => (r p.2).grd)) : ∀ p ∈ parts, grd (r p.2).den = true := fun p hp =>
  den_grd (fun q hq => h q (List.mem_flatMap.2 ⟨p, by simpa using hp, hq⟩))

section
variable {P : Program} {r : Operand → SV} {H : Nat → Option SBlk} {id : Nat}
set_option maxHeartbeats 2000000 in
theorem makeS_sound {o : Op} {out : SOut} (h : makeS P o id r H = some out) (hp : AllP out.ps) : ∃ out', absMake P o id (fun x => (r x).den) (denH H) = some out' ∧ out'.cond ∧ out'.le out.den := by
  cases o <;> simp only [makeS, reduceCtorEq] at h <;> simp only [absMake]
  case build T parts =>
    split at h
    · rename_i t ht
      simp only [ht]
      split at h
      · rename_i hk
        simp only [hk]
        split at h
        · rename_i ho
          simp only [Option.map_eq_some_iff] at h
          obtain ⟨cs, hcs, rfl⟩ := h
          obtain ⟨c, out0, g1, g2, g3⟩ := fillS_sound _ r parts.toList _ t.zero (zeroS_le _) hcs
          rw [g1]
          exact ⟨_, rfl, ⟨ho, parts_grd hp, g2⟩, by simp only [SOut.den, SV.den]; exact .agg g3, rfl, trivial⟩
        · cases h
      · rename_i hk
        simp only [hk]
        split at h
        · rename_i e he
          simp only [he]
          simp only [Option.map_eq_some_iff] at h
          obtain ⟨cs, hcs, rfl⟩ := h
          obtain ⟨c, out0, g1, g2, g3⟩ := fillS_sound _ r parts.toList _ t.zero (zeroS_le _) hcs
          rw [g1]
          exact ⟨_, rfl, ⟨parts_grd hp, g2⟩, by simp only [SOut.den, SV.den]; exact .agg g3, rfl, trivial⟩
        · cases h
      · cases h
    · cases h
  case buildSlice T len parts =>
    split at h
    · rename_i t ht
      simp only [ht]
      split at h
      · rename_i hk
        simp only [hk, if_true]
        split at h
        · rename_i e he
          simp only [he]
          split at h
          · rename_i hl
            simp only [Option.map_eq_some_iff] at h
            obtain ⟨f, hf, rfl⟩ := h
            have h0 : LeLL (List.replicate len e.zero) (rowsOf len (fun _ => zeroS e.zero)) := by
              refine ⟨by simp [rowsOf], fun k x y h1 h2 => ?_⟩
              rw [rowsOf_get] at h2
              rw [List.getElem?_replicate] at h1
              split at h1
              · rename_i hk'; rw [if_pos hk'] at h2; cases h1; cases h2; exact zeroS_le _
              · cases h1
            obtain ⟨c, out0, g1, g2, g3⟩ := fillRowsS_sound e.size len r parts.toList _ _ h0 hf
            rw [g1]
            exact ⟨_, rfl, ⟨parts_grd hp, hl.1, hl.2.1, hl.2.2, g2⟩, .refl _, rfl, rfl, .row g3, trivial⟩
          · cases h
        · cases h
      · cases h
    · cases h
  case slice T x lo hi mx =>
    cases mx with
    | some m => simp at h
    | none =>
    simp only at h ⊢
    split at h
    · rename_i t ht
      simp only [ht]
      split at h
      · rename_i hk
        simp only [hk, if_true]
        split at h
        · rename_i e sz n f he hx
          simp only [he, den_strip, hx, SV.den]
          split at h
          · rename_i hs
            simp only [Option.map_eq_some_iff] at h
            obtain ⟨⟨ps, a, b⟩, hq, rfl⟩ := h
            obtain ⟨hp1, hp2⟩ := AllP.app.1 hp
            obtain ⟨c, g1, g2, g3, g4⟩ := sliceEndsS_sound hq hp2
            simp only [hs, if_true, List.length_map, List.length_range, g1, Option.map_some]
            refine ⟨_, rfl, ⟨den_grd hp1, g2⟩, ?_, rfl, trivial⟩
            simp only [SOut.den, SV.den]
            have : ((rowsOf n f).take b).drop a = rowsOf (b - a) (fun k => f (a + k)) := by
              rw [List.drop_take]; exact rows_slice (by omega)
            rw [this]; exact .refl _
          · cases h
        · rename_i e i sz l n he hx
          simp only [he, den_strip, hx, SV.den]
          split at h
          · rename_i hs
            simp only [Option.map_eq_some_iff] at h
            obtain ⟨⟨ps, a, b⟩, hq, rfl⟩ := h
            obtain ⟨hp1, hp2⟩ := AllP.app.1 hp
            obtain ⟨c, g1, g2, g3, g4⟩ := sliceEndsS_sound hq hp2
            simp only [hs, if_true, g1, Option.map_some]
            exact ⟨_, rfl, ⟨den_grd hp1, g2⟩, .refl _, rfl, trivial⟩
          · cases h
        · cases h
      · cases h
    · cases h
  case call cl =>
    obtain ⟨callee, args, argTypes⟩ := cl
    cases callee with
    | value f => simp at h
    | invoke a b => simp at h
    | builtin b =>
      cases b <;> simp only [reduceCtorEq] at h ⊢
      split at h
      · rename_i x y T U ha hT
        simp only [ha, hT]
        split at h
        · rename_i t u ht hu
          simp only [ht, hu]
          split at h
          · rename_i hk
            simp only [hk, and_self, if_true]
            split at h
            · rename_i e he
              simp only [he]
              split at h
              · rename_i cy m g js hc
                split at h
                · rename_i hz
                  split at h
                  · rename_i hx
                    cases h
                    obtain ⟨hp1, hp2⟩ := AllP.app.1 hp
                    obtain ⟨hp2, hp3⟩ := AllP.app.1 hp2
                    obtain ⟨hp3, hp4⟩ := AllP.app.1 hp3
                    obtain ⟨h1, hp4⟩ := AllP.cons.1 hp4
                    obtain ⟨h2, hp4⟩ := AllP.cons.1 hp4
                    obtain ⟨c, ys, g1, g2, rfl⟩ := contentS_sound hc hp3
                    simp only [den_strip, g1, hx, SV.den]
                    exact ⟨_, rfl, ⟨den_grd hp1, den_grd hp2, g2, rows_scalar h1, hz.1, hz.2.1, hz.2.2, by rw [rowsOf_length]; exact h2⟩, by simp only [SOut.den, SV.den, rowsOf_length]; exact .refl _, rfl, wrLe.refl _⟩
                  · rename_i i s n hx
                    split at h
                    · rename_i s' len f hi
                      split at h
                      · rename_i hs
                        cases h
                        obtain ⟨hp1, hp2⟩ := AllP.app.1 hp
                        obtain ⟨hp2, hp3⟩ := AllP.app.1 hp2
                        obtain ⟨hp3, hp4⟩ := AllP.app.1 hp3
                        obtain ⟨h1, hp4⟩ := AllP.cons.1 hp4
                        obtain ⟨h2, hp4⟩ := AllP.cons.1 hp4
                        obtain ⟨h3, hp4⟩ := AllP.cons.1 hp4
                        obtain ⟨c, ys, g1, g2, rfl⟩ := contentS_sound hc hp3
                        simp only [den_strip, g1, hx, SV.den, denH_some hi, SBlk.den, hs.1, hs.2.1, and_self, if_true]
                        refine ⟨_, rfl, ⟨den_grd hp1, den_grd hp2, g2, rows_scalar h1, hz.1, ?_, by rw [rowsOf_length]; exact h2, hz.2.2, by rw [rowsOf_length]; exact h3⟩, by simp only [SOut.den, SV.den, rowsOf_length]; exact .refl _, rfl, ?_⟩
                        · intro hm
                          have := List.contains_iff_mem.2 hm
                          rw [hs.2.2] at this; cases this
                        · exact ⟨rfl, .refl _, rfl, .row (catRow_le h2), trivial⟩
                      · cases h
                    · cases h
                  · cases h
                · cases h
              · cases h
            · cases h
          · cases h
        · cases h
      · cases h
end
end Go.Proofs.Ytkklmkogdogbkaa.Sep
