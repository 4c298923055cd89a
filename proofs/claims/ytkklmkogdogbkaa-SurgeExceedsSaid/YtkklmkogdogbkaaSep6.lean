/-
  The small calculus, sixth part: loads, stores, new variables. No condition. (This text proves no statement by itself.)
-/
import Derived.Test.YtkklmkogdogbkaaSep5
namespace Go.Proofs.Ytkklmkogdogbkaa.Sep
open Go
set_option linter.unusedVariables false
set_option linter.unusedSimpArgs false

section
variable {P : Program} {w : World}

theorem cell_of_heap {b off : Nat} {vs : Array Value} {T : TypeId} {fz : Nat × Nat} (h : w.heap[b]? = some (.cells vs T fz)) : w.cell? ⟨b, off, none⟩ = vs[off]? := by simp [World.cell?, h]

theorem heap_setCell (b off : Nat) (v : Value) {cur : Array Value} {T : TypeId} {fz : Nat × Nat} (h : w.heap[b]? = some (.cells cur T fz)) :
    (w.setCell ⟨b, off, none⟩ v).heap[b]? = some (.cells (cur.setIfInBounds off v) T fz) ∧ ∀ c, c ≠ b → (w.setCell ⟨b, off, none⟩ v).heap[c]? = w.heap[c]? := by
  constructor
  · simp only [World.setCell, Array.getElem?_modify, if_true, h, Option.map_some]; simp
  · intro c hc
    simp only [World.setCell, Array.getElem?_modify]
    rw [if_neg (fun e => hc e.symm)]

theorem run_storeCells_at (b off : Nat) {T : TypeId} : ∀ (vs : List Value) (i : Nat) (cur : Array Value) (w : World), w.heap[b]? = some (.cells cur T (0, 0)) → off + i + vs.length ≤ cur.size → (∀ v ∈ vs, v.oneCell' = true) →
    ∃ w' cur', (storeCells ⟨b, off, none⟩ vs i).run P w = .ok () w' ∧ w'.heap.size = w.heap.size ∧ (∀ c, c ≠ b → w'.heap[c]? = w.heap[c]?) ∧ w'.heap[b]? = some (.cells cur' T (0, 0)) ∧ cur'.size = cur.size ∧
      (∀ t : Nat, cur'[t]? = if off + i ≤ t ∧ t < off + i + vs.length then vs[t - (off + i)]? else cur[t]?) ∧ w'.os = w.os ∧ w'.output = w.output := by
  intro vs
  induction vs with
  | nil =>
    intro i cur w hb _ _
    exact ⟨w, cur, rfl, rfl, fun _ _ => rfl, hb, rfl, fun t => by rw [if_neg (by simp)], rfl, rfl⟩
  | cons v rest ih =>
    intro i cur w hb hl h1
    have hlen : off + i < cur.size := by simp at hl; omega
    have hst : (store ((⟨b, off, none⟩ : Addr).add i) v).run P w = .ok () (w.setCell ⟨b, off + i, none⟩ v) := by
      rw [add_off, run_store P w _ v _ (h1 v (by simp))]
      simp [cell_of_heap hb, hlen, World.frozen?, hb]
    obtain ⟨h2, h3⟩ := heap_setCell (w := w) b (off + i) v hb
    obtain ⟨w', cur', r1, r2, r3, r4, r5, r6, r7, r8⟩ := ih (i + 1) _ _ h2 (by simp at hl ⊢; omega) (fun x hx => h1 x (by simp [hx]))
    refine ⟨w', cur', by simp [storeCells, hst, r1], by simpa using r2, fun c hc => (r3 c hc).trans (h3 c hc), r4, by simpa using r5, fun t => ?_, r7.trans rfl, r8.trans rfl⟩
    rw [r6 t]
    by_cases ht : t = off + i
    · subst ht
      rw [if_neg (by omega), if_pos (by simp)]
      simp [hlen]
    · by_cases hc : off + (i + 1) ≤ t ∧ t < off + (i + 1) + rest.length
      · rw [if_pos hc, if_pos (by simp; omega)]
        rw [show t - (off + i) = (t - (off + (i + 1))) + 1 by omega]; simp
      · rw [if_neg hc, if_neg (by simp; omega)]
        simp only [Array.getElem?_setIfInBounds]
        rw [if_neg (fun e => ht e.symm)]

theorem run_loadVar_fn {T : TypeId} {t : Ty} (ht : tyOf P T = some t) {b off : Nat} (f : Nat → Value) (h : ∀ k, k < (if t.agg then t.size else 1) → w.cell? ⟨b, off + k, none⟩ = some (f k)) :
    (loadVar T ⟨b, off, none⟩).run P w = .ok (if t.agg then .agg ((List.range t.size).map f).toArray else f 0) w := by
  have ha := run_isAgg_ty ht w
  have hs := run_sizeOf_ty ht w
  cases hg : t.agg
  · rw [hg] at ha h
    have := h 0 (by simp)
    simp only [Nat.add_zero] at this
    simp [loadVar, ha, this]
  · rw [hg] at ha h
    have := run_loadCells (P := P) w ⟨b, off, none⟩ t.size f (fun j hj => by rw [add_off]; exact h j (by simpa using hj))
    simp [loadVar, ha, hs, this]

end

def Ty.n (t : Ty) : Nat := if t.agg then t.size else 1

def absMem (P : Program) (o : Op) (id : Nat) (r : Operand → AV) (H : Nat → Option Blk) : Option Out :=
  match o with
  | .alloc T => (tyOf P T).map fun t => { cond := True, val := .ptr id 0, wr := [(id, .cells t.zero)] }
  | .box _ x => (cellsOf? (strip (r x))).map fun cs => { cond := grd (r x) = true, val := .ptr id 0, wr := [(id, .cells cs)] }
  | .load T x =>
    match tyOf P T with
    | some t =>
      match strip (r x) with
      | .ptr i off =>
        match H i with
        | some (.cells cs) => some { cond := grd (r x) = true ∧ off + t.n ≤ cs.length, val := if t.agg then .agg ((cs.drop off).take t.size) else cs.getD off .top, ri := [i] }
        | _ => none
      | .rptr i s n j =>
        match H i with
        | some (.row sz xs) => if s = sz then some { cond := grd (r x) = true ∧ n < xs.length ∧ j + t.n ≤ s, val := if t.agg then .agg (((xs.getD n []).drop j).take t.size) else (xs.getD n []).getD j .top, ri := [i] } else none
        | _ => none
      | .vptr s xs n j => some { cond := grd (r x) = true ∧ n < xs.length ∧ j + t.n ≤ s, val := if t.agg then .agg (((xs.getD n []).drop j).take t.size) else (xs.getD n []).getD j .top }
      | _ => none
    | none => none
  | .store T x y =>
    match tyOf P T, cellsOf? (strip (r y)) with
    | some t, some vs =>
      match strip (r x) with
      | .ptr i off =>
        match H i with
        | some (.cells cs) => some { cond := grd (r x) = true ∧ grd (r y) = true ∧ vs.length = t.size ∧ vs.all AV.scalar = true ∧ off + t.size ≤ cs.length, val := .top, ri := [i], wr := [(i, .cells (splice cs off vs))] }
        | _ => none
      | .rptr i s n j =>
        match H i with
        | some (.row sz xs) => if s = sz then some { cond := grd (r x) = true ∧ grd (r y) = true ∧ vs.length = t.size ∧ vs.all AV.scalar = true ∧ vs.all AV.closed = true ∧ n < xs.length ∧ j + t.size ≤ s, val := .top, ri := [i], wr := [(i, .row sz (xs.set n (splice (xs.getD n []) j vs)))] } else none
        | _ => none
      | _ => none
    | _, _ => none
  | _ => none

theorem splice_length {cs new : List AV} {off : Nat} (h : off + new.length ≤ cs.length) : (splice cs off new).length = cs.length := by
  simp [splice]; omega
theorem splice_get {cs new : List AV} {off : Nat} (h : off + new.length ≤ cs.length) (k : Nat) : (splice cs off new)[k]? = if off ≤ k ∧ k < off + new.length then new[k - off]? else cs[k]? := by
  have hl : (cs.take off).length = off := by simp; omega
  unfold splice
  by_cases h1 : k < off
  · rw [if_neg (by omega), List.append_assoc, List.getElem?_append_left (by omega), List.getElem?_take, if_pos h1]
  · by_cases h2 : k < off + new.length
    · rw [if_pos (by omega), List.append_assoc, List.getElem?_append_right (by omega), hl, List.getElem?_append_left (by omega)]
    · rw [if_neg (by omega), List.getElem?_append_right (by simp; omega), List.getElem?_drop]
      congr 1; simp; omega


section
variable {C : Ctx} {ρ : Names} {S : Nat → Prop} {H : Nat → Option Blk} {nx : Nat → Prop} {w : World} {id : Nat} {P : Program} {r : Operand → AV} {ev : Operand → Value}

theorem shape?_cells {b : Nat} {vs : Array Value} {T : TypeId} {fz : Nat × Nat} (h : w.heap[b]? = some (.cells vs T fz)) : w.shape? b = some (T, vs.size) := by simp [World.shape?, h]

/-- What a load gives, of cells that are known. -/
theorem load_val {t : Ty} {cs : List AV} {ρ' : Names} {o : Nat} (f : Nat → Value) (hn : o + t.n ≤ cs.length) (hf : ∀ k c, k < t.n → cs[o + k]? = some c → Rel S w ρ' c (f k)) :
    Rel S w ρ' (if t.agg then .agg ((cs.drop o).take t.size) else cs.getD o .top) (if t.agg then .agg ((List.range t.size).map f).toArray else f 0) := by
  unfold Ty.n at hn hf
  cases hg : t.agg
  · rw [hg] at hn hf
    simp at hn
    have hlt : o < cs.length := by omega
    have := hf 0 cs[o] (by simp) (by simp [hlt])
    simpa [List.getD, hlt] using this
  · rw [hg] at hn hf
    simp at hn
    simp only [if_true]
    refine .agg (by simp; omega) (fun k c v h1 h2 => ?_)
    simp only [List.getElem?_take, List.getElem?_drop] at h1
    simp only [List.getElem?_toArray, List.getElem?_map] at h2
    split at h1
    · rename_i hk
      rw [List.getElem?_range hk] at h2
      simp at h2
      subst h2
      exact hf k c (by simpa using hk) h1
    · cases h1

theorem mul_lt_off {n m sz j : Nat} (hn : n < m) (hj : j < sz) : n * sz + j < m * sz := by
  have : (n + 1) * sz ≤ m * sz := Nat.mul_le_mul_right _ hn
  rw [Nat.add_mul] at this
  omega

theorem div_mod_off {n sz j : Nat} (hj : j < sz) : (n * sz + j) / sz = n ∧ (n * sz + j) % sz = j := by
  have h0 : 0 < sz := by omega
  constructor
  · rw [Nat.mul_comm, Nat.mul_add_div h0, Nat.div_eq_of_lt hj]; omega
  · rw [Nat.mul_comm, Nat.mul_add_mod, Nat.mod_eq_of_lt hj]

set_option maxHeartbeats 1000000 in
theorem absLoad_sound {T : TypeId} {x : Operand} {out : Out} (h : absMem P (.load T x) id r H = some out) (hc : out.cond) (hm : Mem C ρ S H nx w) (hr : Rel S w ρ (r x) (ev x)) :
    out.wr = [] ∧ ∃ b u, ev x = .pointer (some b) ∧ (loadVar T b).run P w = .ok u w ∧ Rel S w ρ out.val u := by
  simp only [absMem] at h
  split at h
  · rename_i t ht
    split at h
    · rename_i i off he
      split at h <;> cases h
      rename_i cs hH
      have h0 := hr.strip hc.1
      rw [he] at h0
      obtain ⟨b, hb, e⟩ := h0.ptr_inv
      obtain ⟨n, vs, T', hn, hheap, hl, hrel⟩ := hm.blk i _ hH
      rw [hb] at hn; cases hn
      have hcell : ∀ k, k < t.n → w.cell? ⟨b, off + k, none⟩ = some (vs.getD (off + k) undef) := fun k hk => by
        have := hc.2
        rw [cell_of_heap hheap]
        have hlt : off + k < vs.size := by rw [hl]; omega
        simp [hlt]
      refine ⟨rfl, _, (if t.agg then .agg ((List.range t.size).map fun k => vs.getD (off + k) undef).toArray else vs.getD (off + 0) undef), e, ?_, ?_⟩
      · have := run_loadVar_fn (w := w) ht (b := b) (off := off) (fun k => vs.getD (off + k) undef) hcell
        simpa using this
      · refine load_val (fun k => vs.getD (off + k) undef) hc.2 (fun k c hk hcs => hrel _ c _ hcs ?_)
        have hlt : off + k < vs.size := by rw [hl]; exact (List.getElem?_eq_some_iff.1 hcs).1
        simp [hlt]
    · rename_i i s n j he
      split at h
      · rename_i sz xs hH
        split at h <;> cases h
        rename_i hs
        subst hs
        have h0 := hr.strip hc.1
        rw [he] at h0
        obtain ⟨b, hb, e⟩ := h0.rptr_inv
        obtain ⟨hpos, hz, hblk⟩ := hm.blk i _ hH
        rcases hblk with ⟨h1, -⟩ | ⟨n', vs, T', hn', hheap, hrel⟩
        · rw [hb] at h1; cases h1
        rw [hb] at hn'; cases hn'
        have hxn : xs[n]? = some (xs.getD n []) := by simp [List.getD, hc.2.1]
        have hlen := hz n _ hxn
        have hcell : ∀ k, k < t.n → w.cell? ⟨b, n * s + j + k, none⟩ = some (vs.getD (n * s + j + k) undef) := fun k hk => by
          have hc2 := hc.2.2
          have hjk : j + k < (xs.getD n []).length := by rw [hlen]; omega
          obtain ⟨v, hv, -⟩ := hrel n (j + k) _ ((xs.getD n [])[j + k]) hxn (by simp)
          rw [← Nat.add_assoc] at hv
          rw [cell_of_heap hheap]
          simp [hv]
        refine ⟨rfl, _, (if t.agg then .agg ((List.range t.size).map fun k => vs.getD (n * s + j + k) undef).toArray else vs.getD (n * s + j + 0) undef), e, ?_, ?_⟩
        · have := run_loadVar_fn (w := w) ht (b := b) (off := n * s + j) (fun k => vs.getD (n * s + j + k) undef) hcell
          simpa using this
        · refine Rel.up (load_val (fun k => vs.getD (n * s + j + k) undef) (by rw [hlen]; exact hc.2.2) (fun k c hk hcs => ?_))
          obtain ⟨v, hv, hvr⟩ := hrel n (j + k) _ c hxn hcs
          rw [← Nat.add_assoc] at hv
          simpa [hv] using hvr
      · cases h
    · rename_i s xs n j he
      cases h
      have h0 := hr.strip hc.1
      rw [he] at h0
      obtain ⟨b, off, e, hSb, hz, vs, hv, hvr⟩ := h0.vptr_inv
      have hxn : xs[n]? = some (xs.getD n []) := by simp [List.getD, hc.2.1]
      have hlen := hz n _ hxn
      have hcell : ∀ k, k < t.n → w.cell? ⟨b, off + n * s + j + k, none⟩ = some (vs n (j + k)) := fun k hk => by
        have hc2 := hc.2.2
        have hjk : j + k < (xs.getD n []).length := by rw [hlen]; omega
        have := hv n (j + k) _ ((xs.getD n [])[j + k]) hxn (by simp)
        rwa [← Nat.add_assoc] at this
      refine ⟨rfl, _, (if t.agg then .agg ((List.range t.size).map fun k => vs n (j + k)).toArray else vs n (j + 0)), e, ?_, ?_⟩
      · have := run_loadVar_fn (w := w) ht (b := b) (off := off + n * s + j) (fun k => vs n (j + k)) hcell
        simpa using this
      · exact Rel.up (load_val (fun k => vs n (j + k)) (by rw [hlen]; exact hc.2.2) (fun k c hk hcs => hvr n (j + k) _ c hxn hcs))
    · cases h
  · cases h

set_option maxHeartbeats 4000000 in
theorem absMem_sound {o : Oper} {out : Out} (h : absMem P o.op id r H = some out) (hc : out.cond) (hm : Mem C ρ S H nx w) (hid : nx id) (hr : ∀ x, Rel S w ρ (r x) (ev x)) :
    Good C ρ S H nx w out id ((execOp ev o).run P w) := by
  obtain ⟨dst, op, ty, pos, after, guard⟩ := o
  cases op <;> simp only [absMem, reduceCtorEq] at h
  case alloc T =>
    simp only [Option.map_eq_some_iff] at h
    obtain ⟨t, ht, rfl⟩ := h
    obtain ⟨z, hz, ez⟩ := run_zeroValue_ty ht w
    refine Good.var (vs := z.cells) (T := T) hm hid (by simp [execOp, Instr.alloc, hz, newVar, newRow]) ⟨?_, ?_⟩ rfl rfl
    · rw [ez]; simp
    · intro k c v h1 h2
      rw [ez] at h1
      simp at h1
      obtain ⟨u, hu, rfl⟩ := h1
      rw [h2] at hu; cases hu; exact .lit _
  case box T x =>
    simp only [Option.map_eq_some_iff] at h
    obtain ⟨cs, hcs, rfl⟩ := h
    exact Good.var (vs := (ev x).cells) (T := T) hm hid (by simp [execOp, Instr.box, newVar, newRow]) (cells_rel ((hr x).strip hc) hcs) rfl rfl
  case load T x =>
    obtain ⟨hw, b, u, e, h1, h2⟩ := absLoad_sound (id := id) (ev := ev) (r := r) (T := T) (x := x) h hc hm (hr x)
    exact Good.pure hm (by simp [execOp, Instr.loadAt, e, Instr.sureAddr, h1]) h2 hw
  case store T x y =>
    split at h
    · rename_i t vs ht hvs
      split at h
      · rename_i i off he
        split at h <;> cases h
        rename_i cs hH
        obtain ⟨hc1, hc2, hc3, hc4, hc5⟩ := hc
        have h0 := (hr x).strip hc1
        rw [he] at h0
        have hy := cells_rel ((hr y).strip hc2) hvs
        obtain ⟨b, hb, e⟩ := h0.ptr_inv
        have hblk := hm.blk i _ hH
        obtain ⟨n, us, T', hn, hheap, hl, hrel⟩ := hblk
        rw [hb] at hn; cases hn
        obtain ⟨w', us', r1, r2, r3, r4, r5, r6, hio⟩ := run_storeCells_at (P := P) b off (ev y).cells.toList 0 us w hheap (by simp [hy.1]; omega) (cells_scalar hy hc4)
        have hshape : w'.shape? b = w.shape? b := by rw [shape?_cells r4, shape?_cells hheap, r5]
        have hk := Kept.store (hm.own i _ b hH rfl hb) r2 r3 hshape hio
        have hnew : BlkRel S w' ρ (some b) (.cells (splice cs off vs)) := by
          refine ⟨b, us', T', rfl, r4, ?_, fun k c v h1 h2 => ?_⟩
          · rw [r5, hl, splice_length (by omega)]
          · rw [splice_get (by omega)] at h1
            rw [r6 k] at h2
            simp only [Nat.add_zero, Array.length_toList, hy.1] at h2
            split at h1
            · rename_i hin
              rw [if_pos (by omega)] at h2
              refine (hy.2 _ c v h1 (by simpa using h2)).mono hk (fun _ e => e) (Names.le.refl _)
            · rename_i hin
              rw [if_neg (by omega)] at h2
              exact (hrel k c v h1 h2).mono hk (fun _ e => e) (Names.le.refl _)
        refine ⟨ρ, undef, w', .inr ⟨?_, rfl⟩, Names.le.refl _, hk, (hm.store hH rfl hb r2 r3 hshape hnew hio).less (fun _ h => h.1), .top _, fun n e' => ?_⟩
        · simp [execOp, Instr.storeAt, e, Instr.sureAddr, storeVar, run_sizeOf_ty ht, hy.1, hc3, r1]
        · by_cases hnb : n = b
          · subst hnb; rw [hheap] at e'; cases e'
          · rw [r3 n hnb]; exact e'
      · rename_i i s n j he
        split at h
        · rename_i sz xs hH
          split at h <;> cases h
          rename_i hs
          subst hs
          obtain ⟨hc1, hc2, hc3, hc4, hc5, hc6, hc7⟩ := hc
          have h0 := (hr x).strip hc1
          rw [he] at h0
          have hy := cells_rel ((hr y).strip hc2) hvs
          obtain ⟨b, hb, e⟩ := h0.rptr_inv
          obtain ⟨hpos, hz, hblk⟩ := hm.blk i _ hH
          rcases hblk with ⟨h1, -⟩ | ⟨n', us, T', hn', hheap, hrel⟩
          · rw [hb] at h1; cases h1
          rw [hb] at hn'; cases hn'
          have hxn : xs[n]? = some (xs.getD n []) := by simp [List.getD, hc6]
          have hlen := hz n _ hxn
          have hsz : n * s + j + vs.length ≤ us.size := by
            by_cases h00 : vs.length = 0
            · have hpos' : 0 < s := hpos
              obtain ⟨v, hv, -⟩ := hrel n 0 _ ((xs.getD n [])[0]'(by omega)) hxn (by simp)
              obtain ⟨v', hv', -⟩ := hrel n (s - 1) _ ((xs.getD n [])[s - 1]'(by omega)) hxn (by simp)
              have := (Array.getElem?_eq_some_iff.1 hv').1
              omega
            · obtain ⟨v, hv, -⟩ := hrel n (j + vs.length - 1) _ ((xs.getD n [])[j + vs.length - 1]'(by omega)) hxn (by simp)
              have := (Array.getElem?_eq_some_iff.1 hv).1
              omega
          obtain ⟨w', us', r1, r2, r3, r4, r5, r6, hio⟩ := run_storeCells_at (P := P) b (n * s + j) (ev y).cells.toList 0 us w hheap (by simp [hy.1]; omega) (cells_scalar hy hc4)
          have hshape : w'.shape? b = w.shape? b := by rw [shape?_cells r4, shape?_cells hheap, r5]
          have hk := Kept.store (hm.own i _ b hH rfl hb) r2 r3 hshape hio
          have hnew : BlkRel S w' ρ (some b) (.row s (xs.set n (splice (xs.getD n []) j vs))) := by
            refine ⟨hpos, fun k cs hk' => ?_, .inr ⟨b, us', T', rfl, r4, fun k q cs c h1 h2 => ?_⟩⟩
            · rw [List.getElem?_set] at hk'
              split at hk'
              · rename_i hkn
                cases hk'
                rw [splice_length (by omega)]; exact hlen
              · exact hz k cs hk'
            · rw [List.getElem?_set] at h1
              split at h1
              · rename_i hkn
                subst hkn
                cases h1
                rw [splice_get (by omega)] at h2
                split at h2
                · rename_i hin
                  have hlt : q - j < (ev y).cells.size := by rw [hy.1]; omega
                  refine ⟨(ev y).cells[q - j], ?_, ?_⟩
                  · rw [r6]
                    simp only [Nat.add_zero, Array.length_toList, hy.1]
                    rw [if_pos (by omega), show n * s + q - (n * s + j) = q - j by omega]
                    simp [hlt]
                  · have hcl := (hy.2 _ c ((ev y).cells[q - j]) h2 (by simp [hlt])).closed (List.all_eq_true.1 hc5 c (List.mem_of_getElem? h2))
                    exact hcl.mono hk (fun _ e => e) (Names.le.refl _)
                · rename_i hin
                  obtain ⟨v, hv, hvr⟩ := hrel n q _ c hxn h2
                  refine ⟨v, ?_, hvr.mono hk (fun _ e => e) (Names.le.refl _)⟩
                  rw [r6]
                  simp only [Nat.add_zero, Array.length_toList, hy.1]
                  rw [if_neg (by omega)]; exact hv
              · rename_i hkn
                obtain ⟨v, hv, hvr⟩ := hrel k q _ c h1 h2
                refine ⟨v, ?_, hvr.mono hk (fun _ e => e) (Names.le.refl _)⟩
                rw [r6]
                simp only [Nat.add_zero, Array.length_toList, hy.1]
                rw [if_neg ?_]
                · exact hv
                · have hq : q < s := by rw [← hz k _ h1]; exact (List.getElem?_eq_some_iff.1 h2).1
                  rintro ⟨g1, g2⟩
                  rcases Nat.lt_or_gt_of_ne hkn with hlt | hgt
                  · have := mul_lt_off (j := j + vs.length - 1) (sz := s) hlt
                    by_cases h00 : vs.length = 0
                    · omega
                    · have := this (by omega); omega
                  · have := mul_lt_off (j := q) (sz := s) hgt hq
                    omega
          refine ⟨ρ, undef, w', .inr ⟨?_, rfl⟩, Names.le.refl _, hk, (hm.store hH rfl hb r2 r3 hshape hnew hio).less (fun _ h => h.1), .top _, fun n e' => ?_⟩
          · simp [execOp, Instr.storeAt, e, Instr.sureAddr, storeVar, run_sizeOf_ty ht, hy.1, hc3, r1]
          · by_cases hnb : n = b
            · subst hnb; rw [hheap] at e'; cases e'
            · rw [r3 n hnb]; exact e'
        · cases h
      · cases h
    · cases h

end
end Go.Proofs.Ytkklmkogdogbkaa.Sep
