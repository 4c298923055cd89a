/-
  The small calculus, eighth part: composites, slices and append stand for the machine's. No condition. (This text proves no statement by itself.)
-/
import Derived.Test.YtkklmkogdogbkaaSep7
namespace Go.Proofs.Ytkklmkogdogbkaa.Sep
open Go
set_option linter.unusedVariables false
set_option linter.unusedSimpArgs false

section
variable {C : Ctx} {ρ : Names} {S : Nat → Prop} {H : Nat → Option Blk} {nx : Nat → Prop} {w : World} {id : Nat} {P : Program} {r : Operand → AV} {ev : Operand → Value}

theorem lt_of_row {sz n m t : Nat} (h : t < n * sz) (hn : n ≤ m) : t / sz < m ∧ t % sz < sz ∧ t / sz * sz + t % sz = t := by
  have h0 : 0 < sz := by rcases Nat.eq_zero_or_pos sz with e | e; · subst e; simp at h
                         · exact e
  have h1 : t / sz < n := (Nat.div_lt_iff_lt_mul h0).2 h
  exact ⟨by omega, Nat.mod_lt _ h0, Nat.div_add_mod' t sz⟩

/-- A part of a row, cell by cell. -/
theorem RowRel.cell {sz : Nat} {xs : List (List AV)} {vs : Array Value} (h : RowRel S w sz xs vs) {lo n t : Nat} (hn : lo + n ≤ xs.length) (ht : t < n * sz) :
    ∃ c v cs, xs[lo + t / sz]? = some cs ∧ cs[t % sz]? = some c ∧ vs[lo * sz + t]? = some v ∧ Rel S w noNames c v := by
  obtain ⟨h1, h2, h3⟩ := lt_of_row ht (Nat.le_refl n)
  have hk : lo + t / sz < xs.length := by omega
  have hx : xs[lo + t / sz]? = some xs[lo + t / sz] := by simp [hk]
  have hl := h.1 _ _ hx
  have hc : (xs[lo + t / sz])[t % sz]? = some ((xs[lo + t / sz])[t % sz]'(by omega)) := by simp
  obtain ⟨v, hv, hr⟩ := h.2 _ _ _ _ hx hc
  refine ⟨_, v, _, hx, hc, ?_, hr⟩
  rw [show (lo + t / sz) * sz + t % sz = lo * sz + t by rw [Nat.add_mul]; omega] at hv
  exact hv

theorem run_firstCells_fn {b off n c sz : Nat} (f : Nat → Value) (h : ∀ t, t < n * sz → w.cell? ⟨b, off + t, none⟩ = some (f t)) :
    (Builtin.firstCells sz n (.slice (some ⟨b, off, none⟩) n c)).run P w = .ok ((List.range (n * sz)).map f).toArray w := by
  simp only [Builtin.firstCells]
  exact run_loadCells w _ _ f (fun j hj => by rw [add_off]; exact h j hj)

/-- What is appended, as the machine finds it. -/
theorem content_sound {sz : Nat} {y : AV} {v : Value} {cy : Prop} {ys : List (List AV)} {js : List Nat} (hm : Mem C ρ S H nx w) (h : contentOf sz H y = some (cy, ys, js)) (hc : cy) (hv : Rel S w ρ y v) :
    ∃ a c, v = .slice a ys.length c ∧ ∃ news : List Value, news.length = ys.length * sz ∧ (∀ w'' : World, w''.heap = w.heap → (Builtin.firstCells sz ys.length v).run P w'' = .ok news.toArray w'') ∧
      (∀ (k : Nat) cs, ys[k]? = some cs → cs.length = sz) ∧ (∀ (k j : Nat) cs c, ys[k]? = some cs → cs[j]? = some c → ∃ u, news[k * sz + j]? = some u ∧ Rel S w noNames c u) := by
  unfold contentOf at h
  split at h
  · cases h
    obtain rfl := hv.lit_inv
    exact ⟨none, 0, rfl, [], by simp, fun w'' _ => by simp [Builtin.firstCells], fun k cs e => by simp at e, fun k j cs c e => by simp at e⟩
  · split at h <;> cases h
    rename_i hs
    have hs' := hs.symm
    subst hs'
    obtain ⟨a, c, rfl, hh⟩ := hv.vsl_inv
    by_cases h0 : 0 < ys.length
    · obtain ⟨b, off, rfl, hS, hcap, hz, vs, hcell, hr⟩ := hh h0
      refine ⟨_, c, rfl, (List.range (ys.length * sz)).map fun t => vs (t / sz) (t % sz), by simp, fun w'' hw => ?_, hz, fun k j cs d h1 h2 => ?_⟩
      · refine run_firstCells_fn _ (fun t ht => ?_)
        obtain ⟨g1, g2, g3⟩ := lt_of_row ht (Nat.le_refl _)
        have hx : ys[t / sz]? = some ys[t / sz] := by simp [g1]
        have hl := hz _ _ hx
        have := hcell (t / sz) (t % sz) _ ((ys[t / sz])[t % sz]'(by omega)) hx (by simp)
        rw [Nat.add_assoc, g3] at this
        simpa [World.cell?, hw] using this
      · have hj : j < sz := by rw [← hz k _ h1]; exact (List.getElem?_eq_some_iff.1 h2).1
        have hk : k < ys.length := (List.getElem?_eq_some_iff.1 h1).1
        have hlt := mul_lt_off (sz := sz) hk hj
        refine ⟨vs k j, ?_, hr k j cs d h1 h2⟩
        rw [List.getElem?_map, List.getElem?_range hlt]
        simp [div_mod_off hj]
    · have : ys = [] := by cases ys <;> simp_all
      subst this
      exact ⟨a, c, rfl, [], by simp, fun w'' _ => by cases a <;> simp [Builtin.firstCells, loadCells, loadCellsFrom], fun k cs e => by simp at e, fun k j cs c e => by simp at e⟩
  · rename_i j s lo n
    split at h
    · rename_i s' xs hH
      split at h <;> cases h
      rename_i hs
      obtain ⟨hs1, hs2⟩ := hs
      have hs1' := hs1.symm
      have hs2' := hs2.symm
      subst hs1'
      subst hs2'
      have hlen : ((xs.drop lo).take n).length = n := by simp; omega
      obtain ⟨hpos, hz, hblk⟩ := hm.blk j _ hH
      rcases hv.vec_inv with ⟨a, rfl, rfl⟩ | ⟨b, T, m, cap, hb, hsh, hcap, hl, rfl⟩
      · simp only [List.take_zero]
        exact ⟨a, 0, rfl, [], by simp, fun w'' _ => by cases a <;> simp [Builtin.firstCells, loadCells, loadCellsFrom], fun k cs e => by simp at e, fun k j cs c e => by simp at e⟩
      · rcases hblk with ⟨h1, -⟩ | ⟨n', vs, T', hn', hheap, hrel⟩
        · rw [hb] at h1; cases h1
        rw [hb] at hn'; cases hn'
        have hrow : RowRel S w sz xs vs := ⟨hz, hrel⟩
        rw [hlen]
        refine ⟨_, cap, rfl, (List.range (n * sz)).map fun t => vs.getD (lo * sz + t) undef, by simp, fun w'' hw => ?_, fun k cs h1 => ?_, fun k q cs d h1 h2 => ?_⟩
        · refine run_firstCells_fn _ (fun t ht => ?_)
          obtain ⟨c, v, cs, -, -, h3, -⟩ := hrow.cell hc ht
          have : w''.heap[b]? = some (.cells vs T' (0, 0)) := by rw [hw]; exact hheap
          rw [cell_of_heap this, h3]; simp [h3]
        · simp only [List.getElem?_take, List.getElem?_drop] at h1
          split at h1
          · exact hz _ _ h1
          · cases h1
        · simp only [List.getElem?_take, List.getElem?_drop] at h1
          split at h1
          · rename_i hk
            have hq : q < sz := by rw [← hz _ _ h1]; exact (List.getElem?_eq_some_iff.1 h2).1
            obtain ⟨v, hv', hvr⟩ := hrel _ q _ _ h1 h2
            refine ⟨v, ?_, hvr⟩
            have hlt := mul_lt_off (sz := sz) hk hq
            rw [List.getElem?_map, List.getElem?_range hlt]
            rw [Nat.add_mul, Nat.add_assoc] at hv'
            simp [hv']
          · cases h1
    · cases h
  · cases h

theorem news_scalar {sz : Nat} {ys : List (List AV)} {news : List Value} (hl : news.length = ys.length * sz) (hz : ∀ (k : Nat) cs, ys[k]? = some cs → cs.length = sz)
    (hr : ∀ (k j : Nat) cs c, ys[k]? = some cs → cs[j]? = some c → ∃ u, news[k * sz + j]? = some u ∧ Rel S w noNames c u) (hs : (ys.all fun cs => cs.all AV.scalar) = true) : ∀ v ∈ news, v.oneCell' = true := by
  intro v hv
  obtain ⟨t, ht⟩ := List.mem_iff_getElem?.1 hv
  have hlt : t < ys.length * sz := by rw [← hl]; exact (List.getElem?_eq_some_iff.1 ht).1
  obtain ⟨h1, h2, h3⟩ := lt_of_row hlt (Nat.le_refl _)
  have hx : ys[t / sz]? = some ys[t / sz] := by simp [h1]
  have hln := hz _ _ hx
  obtain ⟨u, hu, hrel⟩ := hr _ (t % sz) _ ((ys[t / sz])[t % sz]'(by omega)) hx (by simp)
  rw [h3, ht] at hu
  cases hu
  exact hrel.oneCell (List.all_eq_true.1 (List.all_eq_true.1 hs _ (List.getElem_mem h1)) _ (List.getElem_mem _))

/-- The row behind an append. -/
theorem append_row {sz n : Nat} {xs ys : List (List AV)} {vs us : Array Value} {news : List Value} (hrow : RowRel S w sz xs vs) (hn : n ≤ xs.length) (hl : news.length = ys.length * sz) (hz : ∀ (k : Nat) cs, ys[k]? = some cs → cs.length = sz)
    (hr : ∀ (k j : Nat) cs c, ys[k]? = some cs → cs[j]? = some c → ∃ u, news[k * sz + j]? = some u ∧ Rel S w noNames c u)
    (hu1 : ∀ t, t < n * sz → us[t]? = vs[t]?) (hu2 : ∀ t, t < news.length → us[n * sz + t]? = news[t]?) : RowRel S w sz (xs.take n ++ ys) us := by
  have hlen : (xs.take n).length = n := by simp; omega
  refine ⟨fun k cs h => ?_, fun k j cs c h1 h2 => ?_⟩
  · rw [List.getElem?_append] at h
    split at h
    · rw [List.getElem?_take] at h
      split at h
      · exact hrow.1 _ _ h
      · cases h
    · exact hz _ _ h
  · rw [List.getElem?_append] at h1
    split at h1
    · rename_i hk
      rw [hlen] at hk
      rw [List.getElem?_take, if_pos hk] at h1
      have hj : j < sz := by rw [← hrow.1 _ _ h1]; exact (List.getElem?_eq_some_iff.1 h2).1
      obtain ⟨v, hv, hvr⟩ := hrow.2 k j cs c h1 h2
      exact ⟨v, by rw [hu1 _ (mul_lt_off hk hj)]; exact hv, hvr⟩
    · rename_i hk
      rw [hlen] at hk h1
      have hj : j < sz := by rw [← hz _ _ h1]; exact (List.getElem?_eq_some_iff.1 h2).1
      have hkl : k - n < ys.length := (List.getElem?_eq_some_iff.1 h1).1
      obtain ⟨v, hv, hvr⟩ := hr (k - n) j cs c h1 h2
      refine ⟨v, ?_, hvr⟩
      have := hu2 ((k - n) * sz + j) (by rw [hl]; exact mul_lt_off hkl hj)
      rw [show n * sz + ((k - n) * sz + j) = k * sz + j by rw [← Nat.add_assoc, ← Nat.add_mul]; congr 2; omega] at this
      rw [this]; exact hv

set_option maxHeartbeats 1000000 in
/-- 'append(s, x...)' at a slice of our own: its row, and what is behind. -/
theorem append_sound {T U : TypeId} {ty : TypeId} {e : Ty} {sv xv : Value} {n : Nat} {xs ys : List (List AV)} {ob : Option Nat} {i : Nat} {Hd : Nat → Option Blk}
    (hm : Mem C ρ S H nx w) (hid : nx id) (hT : P.underlying T = some (.slice (P.elem T))) (hU : ∃ u, P.underlying U = some (.slice u)) (hE : tyOf P (P.elem T) = some e) (hzl : e.zero.length = e.size) (hpos : 0 < e.size) (hb0 : 0 < e.bytes) (hfit : (n + ys.length) * e.bytes ≤ 140737488355328)
    {a : Option Addr} {c : Nat} (hx : xv = .slice a ys.length c) {news : List Value} (hl : news.length = ys.length * e.size) (hfirst : ∀ w'' : World, w''.heap = w.heap → (Builtin.firstCells e.size ys.length xv).run P w'' = .ok news.toArray w'')
    (hz : ∀ (k : Nat) cs, ys[k]? = some cs → cs.length = e.size) (hr : ∀ (k j : Nat) cs c, ys[k]? = some cs → cs[j]? = some c → ∃ u, news[k * e.size + j]? = some u ∧ Rel S w noNames c u) (hsc : ∀ v ∈ news, v.oneCell' = true)
    (hs : (n = 0 ∧ ob = none ∧ (∃ a, sv = .slice a 0 0) ∧ Hd = H) ∨ (∃ b T' m cap vs k, ob = some b ∧ ρ i = some b ∧ H i = some k ∧ k.live = true ∧ Hd = updH H i .dead ∧ w.heap[b]? = some (.cells vs T' (0, 0)) ∧ w.shape? b = some (T', m) ∧ cap * e.size ≤ m ∧ n ≤ cap ∧ n ≤ xs.length ∧ RowRel S w e.size xs vs ∧ sv = .slice (some ⟨b, 0, none⟩) n cap)) :
    ∃ ρ' v w', (Builtin.append_ #[T, U] ty #[sv, xv]).run P w = .ok v w' ∧ ρ.le ρ' ∧ Kept S w w' ∧ Mem C ρ' S (updH Hd id (.row e.size (xs.take n ++ ys))) (lessOne nx id) w' ∧ Rel S w' ρ' (.vec id e.size 0 (n + ys.length)) v ∧
      (∀ n : Nat, w.heap[n]? = some (.deferred (some [])) → w'.heap[n]? = some (.deferred (some []))) := by
  obtain ⟨u, hU⟩ := hU
  subst hx
  obtain ⟨i0, d, z, hi, hd, hzz, hsz, hby, hze, -⟩ := tyOf_inv hE
  have hHd : Mem C ρ S Hd nx w := by
    rcases hs with ⟨-, -, -, rfl⟩ | ⟨b, T', m, cap, vs, k, -, -, hk, -, rfl, -⟩
    · exact hm
    · exact hm.kill hk
  have hsv : ∃ sb cap, sv = .slice sb n cap ∧ n ≤ cap := by
    rcases hs with ⟨rfl, -, ⟨a, rfl⟩, -⟩ | ⟨b, T', m, cap, vs, k, -, -, -, -, -, -, -, -, h1, -, -, rfl⟩
    · exact ⟨_, _, rfl, Nat.le_refl _⟩
    · exact ⟨_, _, rfl, h1⟩
  obtain ⟨sb, cap, rfl, hncap⟩ := hsv
  by_cases hroom : n + ys.length ≤ cap
  · -- within the capacity
    rcases hs with ⟨rfl, -, ⟨a', e'⟩, rfl⟩ | ⟨b, T', m, cap', vs, k, hob, hb, hk, hlive, rfl, hheap, hsh, hcap, -, hnx, hrow, e'⟩
    · cases e'
      have h0 : ys = [] := by cases ys with | nil => rfl | cons _ _ => simp at hroom
      subst h0
      have hn0 : news = [] := by cases news with | nil => rfl | cons _ _ => simp at hl
      subst hn0
      refine ⟨ρ, .slice sb 0 0, w, ?_, Names.le.refl _, Kept.refl _ _, ?_, ?_, fun _ e => e⟩
      · have hf := hfirst w rfl
        simp only [List.length_nil] at hf
        cases sb <;> simp [Builtin.append_, run_underlying hT, run_underlying hU, sizeOf, typeInfo, hi, Builtin.lenOf, storeCells, ← hsz, hf]
      · have hHid := (hm.free id hid).1
        have hρid := (hm.free id hid).2
        refine hm.step (fun _ => False) (Nat.le_refl _) (fun _ _ e => e) (fun _ _ _ => rfl) (fun _ e => e.elim) (Names.le.refl _) (fun _ _ e => .inl ⟨_, e⟩) (fun _ e => e) (fun _ e => .inl e) ?_ ?_ ?_ ?_
        · intro j l e
          by_cases hj : j = id
          · subst hj; simp [updH] at e; subst e; exact .inr ⟨hpos, fun k cs e => by simp at e, .inl ⟨hρid, by simp⟩⟩
          · simp [updH, hj] at e; exact .inl ⟨e, fun b e' => ⟨e', fun x => x⟩⟩
        · intro j l c e hll e' hsS
          by_cases hj : j = id
          · subst hj; rw [hρid] at e'; cases e'
          · simp [updH, hj] at e; exact hm.own j l c e hll e' hsS
        · intro j1 j2 l1 l2 c e1 hl1 e2 hl2 r1 r2
          by_cases h1 : j1 = id
          · subst h1; rw [hρid] at r1; cases r1
          · by_cases h2 : j2 = id
            · subst h2; rw [hρid] at r2; cases r2
            · simp [updH, h1] at e1; simp [updH, h2] at e2
              exact hm.inj j1 j2 l1 l2 c e1 hl1 e2 hl2 r1 r2
        · rintro j ⟨hj, hne⟩
          simp [updH, hne, hm.free j hj]
      · simpa using Rel.vec0 (S := S) (w := w) (ρ := ρ) (i := id) (sz := e.size) (lo := 0) (a := sb)
    · cases e'
      have hms : m = vs.size := by rw [shape?_cells hheap] at hsh; cases hsh; rfl
      have hle : (n + ys.length) * e.size ≤ cap * e.size := Nat.mul_le_mul_right _ hroom
      rw [Nat.add_mul] at hle
      obtain ⟨w', cur', r1, r2, r3, r4, r5, r6, hio⟩ := run_storeCells_at (P := P) b (n * e.size) news 0 vs w hheap (by rw [hl]; omega) hsc
      have hshape : w'.shape? b = w.shape? b := by rw [shape?_cells r4, shape?_cells hheap, r5]
      have hS : ¬ S b := hm.own i k b hk hlive hb
      have hkept := Kept.store hS r2 r3 hshape hio
      have hnew : RowRel S w' e.size (xs.take n ++ ys) cur' := by
        refine (append_row hrow hnx hl hz hr (us := cur') (fun t ht => ?_) (fun t ht => ?_)).mono hkept (fun _ e => e)
        · rw [r6 t, if_neg (by omega)]
        · rw [r6, if_pos (by omega)]; congr 1; omega
      have hHid := (hm.free id hid).1
      have hρid := (hm.free id hid).2
      have hne : id ≠ i := fun e => by rw [e, hk] at hHid; cases hHid
      refine ⟨updN ρ id b, .slice (some ⟨b, 0, none⟩) (n + ys.length) cap, w', ?_, updN_le hρid, hkept, ?_, ?_, ?_⟩
      · have hf := hfirst w rfl
        simp [Builtin.append_, run_underlying hT, run_underlying hU, sizeOf, typeInfo, hi, Builtin.lenOf, hroom, ← hsz, hf, add_off, r1]
      · refine hm.step (fun c => c = b) (by omega) (shp_all hio fun c s e => ?_) (fun c _ hc => r3 c hc) (fun c e => .inl ⟨i, k, hk, hlive, e ▸ hb⟩) (updN_le hρid) ?_ (fun _ e => e) (fun _ e => .inl e) ?_ ?_ ?_ ?_
        · by_cases hc : c = b
          · subst hc; exact shape?_keep hshape e
          · exact shape?_keep (shape?_of_heap (r3 c hc)) e
        · intro j c e
          by_cases hj : j = id
          · subst hj; simp [updN] at e; subst e; exact .inl ⟨i, hb⟩
          · simp [updN, hj] at e; exact .inl ⟨_, e⟩
        · intro j l e
          by_cases hj : j = id
          · subst hj; simp [updH] at e; subst e; refine .inr ⟨hpos, hnew.1, .inr ⟨b, cur', T', by simp [updN], r4, hnew.2⟩⟩
          · simp [updH, hj] at e
            by_cases hji : j = i
            · subst hji; simp at e; subst e; exact .inr trivial
            · simp [hji] at e
              by_cases hll : l.live = true
              · refine .inl ⟨e, fun c e' => ?_⟩
                simp [updN, hj] at e'
                exact ⟨e', fun ec => hji (hm.inj j i l k b e hll hk hlive (ec ▸ e') hb)⟩
              · refine .inr ?_
                cases l with
                | dead => trivial
                | _ => simp [Blk.live] at hll
        · intro j l c e hll e' hsS
          by_cases hj : j = id
          · subst hj; simp [updN] at e'; subst e'; exact hS hsS
          · simp [updN, hj] at e'
            simp [updH, hj] at e
            by_cases hji : j = i
            · subst hji; simp at e; subst e; simp [Blk.live] at hll
            · simp [hji] at e; exact hm.own j l c e hll e' hsS
        · intro j1 j2 l1 l2 c e1 hl1 e2 hl2 r1 r2
          have key : ∀ j l, j ≠ id → updH (updH H i .dead) id (.row e.size (xs.take n ++ ys)) j = some l → l.live = true → j ≠ i ∧ H j = some l := fun j l hj e hl' => by
            simp [updH, hj] at e
            by_cases hji : j = i
            · subst hji; simp at e; subst e; simp [Blk.live] at hl'
            · simp [hji] at e; exact ⟨hji, e⟩
          by_cases h1 : j1 = id <;> by_cases h2 : j2 = id
          · rw [h1, h2]
          · obtain ⟨g1, g2⟩ := key j2 l2 h2 e2 hl2
            subst h1; simp [updN] at r1; simp [updN, h2] at r2; subst r1
            exact absurd (hm.inj j2 i l2 k b g2 hl2 hk hlive r2 hb) g1
          · obtain ⟨g1, g2⟩ := key j1 l1 h1 e1 hl1
            subst h2; simp [updN] at r2; simp [updN, h1] at r1; subst r2
            exact absurd (hm.inj j1 i l1 k b g2 hl1 hk hlive r1 hb) g1
          · obtain ⟨g1, g2⟩ := key j1 l1 h1 e1 hl1
            obtain ⟨g3, g4⟩ := key j2 l2 h2 e2 hl2
            simp [updN, h1] at r1; simp [updN, h2] at r2
            exact hm.inj j1 j2 l1 l2 c g2 hl1 g4 hl2 r1 r2
        · rintro j ⟨hj, hne'⟩
          have hji : j ≠ i := fun e => by subst e; rw [(hm.free j hj).1] at hk; cases hk
          simp [updH, updN, hne', hji, hm.free j hj]
      · have := Rel.vec (S := S) (w := w') (ρ := updN ρ id b) (i := id) (sz := e.size) (lo := 0) (b := b) (cap := cap) (len := n + ys.length) (by simp [updN]) (shape?_cells r4) (by rw [r5]; omega) hroom
        simpa using this
      · intro q e'
        by_cases hqb : q = b
        · subst hqb; rw [hheap] at e'; cases e'
        · rw [r3 q hqb]; exact e'
  · -- a new array
    have hneed : cap < n + ys.length := by omega
    have h48 := growslice_fits hneed hfit
    rw [hby] at h48 hb0
    have hbne : i0.bytes ≠ 0 := by omega
    have holds : ∃ olds : List Value, olds.length = n * e.size ∧ (∀ w'' : World, w''.heap = w.heap → (Builtin.firstCells e.size n (.slice sb n cap)).run P w'' = .ok olds.toArray w'') ∧
        ∀ us : Array Value, (∀ t, t < n * e.size → us[t]? = olds[t]?) → (∀ t, t < news.length → us[n * e.size + t]? = news[t]?) → RowRel S w e.size (xs.take n ++ ys) us := by
      rcases hs with ⟨rfl, -, ⟨a', e'⟩, rfl⟩ | ⟨b, T', m, cap', vs, k, hob, hb, hk, hlive, rfl, hheap, hsh, hcap, -, hnx, hrow, e'⟩
      · cases e'
        refine ⟨[], by simp, fun w'' _ => by cases sb <;> simp [Builtin.firstCells, loadCells, loadCellsFrom], fun us _ h2 => ?_⟩
        have := append_row (S := S) (w := w) (n := 0) (xs := []) (vs := #[]) ⟨fun k cs h => by simp at h, fun k j cs c h => by simp at h⟩ (Nat.le_refl _) hl hz hr (us := us) (fun t ht => by simp at ht) h2
        simpa using this
      · cases e'
        refine ⟨(List.range (n * e.size)).map fun t => vs.getD t undef, by simp, fun w'' hw => ?_, fun us h1 h2 => ?_⟩
        · have := run_firstCells_fn (P := P) (w := w'') (b := b) (off := 0) (n := n) (c := cap) (sz := e.size) (fun t => vs.getD t undef) (fun t ht => by
            obtain ⟨c', v, cs', -, -, h3, -⟩ := hrow.cell (lo := 0) (n := n) (by omega) ht
            rw [cell_of_heap (by rw [hw]; exact hheap)]
            simp only [Nat.zero_mul, Nat.zero_add] at h3
            simp [h3])
          exact this
        · refine append_row hrow hnx hl hz hr (us := us) (fun t ht => ?_) h2
          obtain ⟨c', v, cs', -, -, h3, -⟩ := hrow.cell (lo := 0) (n := n) (by omega) ht
          simp only [Nat.zero_mul, Nat.zero_add] at h3
          rw [h1 t ht, List.getElem?_map, List.getElem?_range ht]
          simp [h3]
    obtain ⟨olds, hol, hofirst, hrow'⟩ := holds
    obtain ⟨w', hw'⟩ : ∃ w', w' = w.drew.alloc (.cells (olds.toArray ++ news.toArray ++ Builtin.zeroCells z.cells (grownCap w (n + ys.length) cap (P.elem T) - (n + ys.length))) (P.elem T)) := ⟨_, rfl⟩
    have hrun : (Builtin.append_ #[T, U] ty #[.slice sb n cap, .slice a ys.length c]).run P w = .ok (.slice (some ⟨w.heap.size, 0, none⟩) (n + ys.length) (grownCap w (n + ys.length) cap (P.elem T))) w' := by
      have hn : ¬ (n + ys.length ≤ cap) := hroom
      have h48' : ¬ (281474976710656 < Builtin.nextslicecap (n + ys.length) cap * i0.bytes) := by omega
      have hf := hfirst w.drew rfl
      have hfo := hofirst w.drew rfl
      rw [hsz] at hf hfo
      simp [Builtin.append_, run_underlying hT, run_underlying hU, sizeOf, typeInfo, zeroValue, hi, hzz, Builtin.lenOf, hn, hbne, h48', Question.forced, hf, hfo, newRow, grownCap, hw']
      congr 2
      apply Array.ext'
      simp [List.append_assoc]
    have hmd := hHd.drew
    have hidd : nx id := hid
    have hk' : Kept S w w' := by
      rw [hw']
      exact (Kept.drew S w).trans (Kept.alloc hmd.sin _) (fun _ e => e)
    have hcapn : n + ys.length ≤ grownCap w (n + ys.length) cap (P.elem T) := by
      exact Nat.le_add_right _ _
    have hrowN : RowRel S w e.size (xs.take n ++ ys) (olds.toArray ++ news.toArray ++ Builtin.zeroCells z.cells (grownCap w (n + ys.length) cap (P.elem T) - (n + ys.length))) := by
      refine hrow' _ (fun t ht => ?_) (fun t ht => ?_)
      · rw [Array.getElem?_append_left (by simp [hol]; omega), Array.getElem?_append_left (by simp [hol]; omega)]; simp
      · rw [Array.getElem?_append_left (by simp [hol]; omega), Array.getElem?_append_right (by simp [hol])]
        simp [hol]
    have hrow2 := hrowN.mono hk' (fun _ e => e)
    refine ⟨updN ρ id w.heap.size, _, w', hrun, updN_le (hm.free id hid).2, hk', ?_, ?_, ?_⟩
    · rw [hw'] at hrow2 ⊢
      exact hmd.alloc (i := id) hid ⟨hpos, hrow2.1, .inr ⟨w.heap.size, _, _, rfl, heap_alloc_at, hrow2.2⟩⟩
    · have hzc : z.cells.size = e.size := by rw [← hzl, hze]; simp
      have hcells := heap_alloc_at (w := w.drew) (o := .cells (olds.toArray ++ news.toArray ++ Builtin.zeroCells z.cells (grownCap w (n + ys.length) cap (P.elem T) - (n + ys.length))) (P.elem T))
      rw [← hw'] at hcells
      have := Rel.vec (S := S) (w := w') (ρ := updN ρ id w.heap.size) (i := id) (sz := e.size) (lo := 0) (b := w.heap.size) (cap := grownCap w (n + ys.length) cap (P.elem T)) (len := n + ys.length) (by simp [updN]) (shape?_cells hcells) (by
        simp only [Array.size_append, List.size_toArray, hol, hl, Builtin.zeroCells, Array.size_map, Array.size_range, hzc]
        rw [Nat.zero_mul, Nat.zero_add, ← Nat.add_mul, ← Nat.add_mul]
        exact Nat.mul_le_mul_right _ (by omega)) hcapn
      simpa using this
    · intro q e'
      rw [hw', heap_alloc_lt (by exact (Array.getElem?_eq_some_iff.1 e').1)]
      exact e'

theorem parts_rel {parts : Array (Nat × Operand)} (hg : ∀ p ∈ parts, grd (r p.2) = true) (hr : ∀ x, Rel S w ρ (r x) (ev x)) : ∀ p ∈ parts.toList, Rel S w ρ (strip (r p.2)) (ev p.2) :=
  fun p hp => (hr p.2).strip (hg p (by simpa using hp))

theorem run_fields {fs : Array Field} (h : ∀ f ∈ fs.toList, ∃ i, P.info? f.type = some i) : (fs.mapM (m := Sem) fun f => do pure (f.offset, ← sizeOf f.type)).run P w = .ok (fs.map fun f => (f.offset, P.cellsOf f.type)) w := by
  rw [Array.mapM_eq_mapM_toList]
  simp only [Sem.run_map, place_run fs.toList h, Result.andThen_ok]
  congr 1
  apply Array.ext'
  simp

set_option maxHeartbeats 2000000 in
theorem absMake_sound {o : Oper} {out : Out} (h : absMake P o.op id r H = some out) (hc : out.cond) (hm : Mem C ρ S H nx w) (hid : nx id) (hr : ∀ x, Rel S w ρ (r x) (ev x)) :
    Good C ρ S H nx w out id ((execOp ev o).run P w) := by
  obtain ⟨dst, op, ty, pos, after, guard⟩ := o
  cases op <;> simp only [absMake, reduceCtorEq] at h
  case build T parts =>
    split at h
    · rename_i t ht
      split at h
      · rename_i hk
        simp only [Option.map_eq_some_iff] at h
        obtain ⟨⟨c', cells'⟩, hf, rfl⟩ := h
        obtain ⟨hall, hg, hc'⟩ := hc
        obtain ⟨z, hz, hzr⟩ := RelCs.zero (S := S) (ρ := ρ) (w := w) ht
        obtain ⟨i, d, zz, hi, hd, -, -, -, -, -, h1, -⟩ := tyOf_inv ht
        obtain ⟨fs, rfl, hoffs⟩ := h1 hk
        have hinfo : ∀ f ∈ fs.toList, ∃ i u, P.info? f.type = some i ∧ tyOf P f.type = some u := fun f hf => by
          have := List.all_eq_true.1 hall (f.offset, f.type) (by rw [hoffs]; exact List.mem_map.2 ⟨f, hf, rfl⟩)
          obtain ⟨u, hu⟩ := Option.isSome_iff_exists.1 this
          obtain ⟨i, d, z, hi, -⟩ := tyOf_inv hu
          exact ⟨i, u, hi, hu⟩
        obtain ⟨vs', hfill, hrel⟩ := fill_sound (S := S) (w := w) (ρ := ρ) (ev := ev) (r := r) _ parts.toList t.zero z.cells hzr hf hc' (parts_rel hg hr)
        refine Good.pure (v := .agg vs') hm ?_ (.agg hrel.1 hrel.2) rfl
        have hpl : (fun (i : Nat) => (t.offs[i]?).bind fun (p : Nat × TypeId) => (tyOf P p.2).map fun u => (p.1, u.size)) = ((fs.map fun f => (f.offset, P.cellsOf f.type))[·]?) := by
          funext i
          rw [hoffs]
          simp only [List.getElem?_map, Array.getElem?_map, Array.getElem?_toList]
          cases hfi : fs[i]? with
          | none => rfl
          | some f =>
            obtain ⟨_, u, -, hu⟩ := hinfo f (by simpa using Array.mem_of_getElem? hfi)
            simp [hu, cellsOf_ty hu]
        rw [hpl] at hfill
        have hrun := run_fields (P := P) (w := w) (fs := fs) (fun f hf => let ⟨i, _, hi, _⟩ := hinfo f hf; ⟨i, hi⟩)
        have hmap : (parts.map fun p => (p.1, ev p.2)).toList = parts.toList.map fun p => (p.1, ev p.2) := by simp
        simp only [execOp, Instr.build, Sem.run_bind, hz, Result.andThen_ok, run_underlying hd, hrun, hmap, hfill, Sem.run_pure]
      · rename_i hk
        split at h
        · rename_i e he
          simp only [Option.map_eq_some_iff] at h
          obtain ⟨⟨c', cells'⟩, hf, rfl⟩ := h
          obtain ⟨hg, hc'⟩ := hc
          obtain ⟨z, hz, hzr⟩ := RelCs.zero (S := S) (ρ := ρ) (w := w) ht
          obtain ⟨i, d, zz, hi, hd, -, -, -, -, -, -, h2, -⟩ := tyOf_inv ht
          obtain rfl := h2 hk
          obtain ⟨vs', hfill, hrel⟩ := fill_sound (S := S) (w := w) (ρ := ρ) (ev := ev) (r := r) _ parts.toList t.zero z.cells hzr hf hc' (parts_rel hg hr)
          refine Good.pure (v := .agg vs') hm ?_ (.agg hrel.1 hrel.2) rfl
          have hmap : (parts.map fun p => (p.1, ev p.2)).toList = parts.toList.map fun p => (p.1, ev p.2) := by simp
          simp only [execOp, Instr.build, Sem.run_bind, hz, Result.andThen_ok, run_underlying hd, run_sizeOf_ty he, hmap, hfill, Sem.run_pure]
        · cases h
      · cases h
    · cases h
  case buildSlice T len parts =>
    split at h
    · rename_i t ht
      split at h
      · rename_i hk
        split at h
        · rename_i e he
          simp only [Option.map_eq_some_iff] at h
          obtain ⟨⟨c', xs'⟩, hf, rfl⟩ := h
          obtain ⟨hg, hzl, hpos, hlim, hc'⟩ := hc
          obtain ⟨i, d, zz, hi, hd, -, -, -, -, -, -, -, h3, -⟩ := tyOf_inv ht
          obtain rfl := h3 hk
          obtain ⟨z, hz, ez⟩ := run_zeroValue_ty he w
          have hrow0 := zero_row (S := S) (w := w) (T := t.elem) ez hzl hpos len
          obtain ⟨vs', hfill, hrow, hsz, hlen⟩ := fillRows_sound (S := S) (w := w) (ρ := ρ) (ev := ev) (r := r) e.size parts.toList _ _ hrow0 (by simp) hf hc' (parts_rel hg hr)
          have hmap : (parts.map fun p => (p.1, ev p.2)).toList = parts.toList.map fun p => (p.1, ev p.2) := by simp
          have hlim' : ¬ (len * e.size > 2 ^ 24) := by omega
          have hrun : (execOp ev ⟨dst, .buildSlice T len parts, ty, pos, after, guard⟩).run P w = .ok (.value (.slice (some ⟨w.heap.size, 0, none⟩) len len)) (w.alloc (.cells vs' t.elem)) := by
            simp only [execOp, Instr.buildSlice, Sem.run_bind, run_underlying hd, Result.andThen_ok, run_sizeOf_ty he, Sem.run_ite, if_neg hlim', Sem.run_pure]
            by_cases h0 : len * e.size = 0
            · have hl0 : len = 0 := by rcases Nat.mul_eq_zero.1 h0 with h | h; · exact h
                                       · omega
              subst hl0
              simp only [h0, if_true, Sem.run_pure, Result.andThen_ok]
              have hempty : ((Array.range 0).map fun x => (#[] : Array Value)[x % (#[] : Array Value).size]!) = (Array.range (0 * e.size)).map (z.cells[· % z.cells.size]!) := by simp
              rw [hempty]
              simp only [hmap, hfill, Sem.run_bind, newRow, run_newObj_alloc, Result.andThen_ok, Sem.run_pure]
            · simp only [h0, if_false, Sem.run_bind, hz, Result.andThen_ok, Sem.run_pure, hmap, hfill, newRow, run_newObj_alloc]
          have hk := Kept.alloc hm.sin (.cells vs' t.elem)
          have hrow' := hrow.mono hk (fun _ e => e)
          have hvs : vs'.size = len * e.size := by rw [hsz]; simp
          refine Good.alloc (k := .row e.size xs') hm hid hrun ⟨hpos, hrow'.1, .inr ⟨_, _, _, rfl, heap_alloc_at, hrow'.2⟩⟩ rfl ?_
          have := Rel.vec (S := S) (w := w.alloc (.cells vs' t.elem)) (ρ := updN ρ id w.heap.size) (i := id) (sz := e.size) (lo := 0) (b := w.heap.size) (cap := len) (len := len) (by simp [updN]) (shape?_cells heap_alloc_at) (by rw [hvs]; omega) (Nat.le_refl _)
          simpa using this
        · cases h
      · cases h
    · cases h
  case slice T x lo hi mx =>
    cases mx with
    | some m => simp only [reduceCtorEq] at h
    | none =>
    simp only at h
    split at h
    · rename_i t ht
      split at h
      · rename_i hk
        obtain ⟨i0, d, zz, hi0, hd, -, -, -, -, -, -, -, h3, -⟩ := tyOf_inv ht
        obtain rfl := h3 hk
        split at h
        · rename_i e sz xs he hx
          split at h
          · rename_i hsz
            subst hsz
            simp only [Option.map_eq_some_iff] at h
            obtain ⟨⟨c', l, hh⟩, hq, rfl⟩ := h
            obtain ⟨hg, hc'⟩ := hc
            have h0 := (hr x).strip hg
            rw [hx] at h0
            obtain ⟨a, cap, e0, hne⟩ := h0.vsl_inv
            have hcap : xs.length ≤ cap := by
              by_cases h00 : 0 < xs.length
              · obtain ⟨b, off, -, -, hcap, -⟩ := hne h00; exact hcap
              · omega
            obtain ⟨hb, hlh, hhl⟩ := sliceEnds_sound (P := P) (w := w) (ρ := ρ) (S := S) hq hc' hcap hr
            refine Good.pure (v := .slice (if cap = l then a else a.map (·.add (l * e.size))) (hh - l) (cap - l)) hm ?_ ?_ rfl
            · simp [execOp, Instr.sliceAt, run_underlying hd, Instr.slice, e0, hb, run_sizeOf_ty he]
            · by_cases h00 : 0 < hh - l
              · obtain ⟨b, off, rfl, hS, -, hz, vs, hv, hvr⟩ := hne (by omega)
                rw [if_neg (by omega)]
                have hlen : ((xs.take hh).drop l).length = hh - l := by simp; omega
                have hget : ∀ (k : Nat) cs, ((xs.take hh).drop l)[k]? = some cs → xs[l + k]? = some cs := fun k cs h => by
                  rw [List.getElem?_drop, List.getElem?_take] at h
                  split at h
                  · exact h
                  · cases h
                have := Rel.vsl (S := S) (w := w) (ρ := ρ) (sz := e.size) (b := b) (off := off + l * e.size) (cap := cap - l) (xs := (xs.take hh).drop l) (fun k j => vs (l + k) j) (by omega) hS (fun k cs h => hz _ _ (hget k cs h))
                  (fun k j cs c h1 h2 => by have := hv _ _ _ _ (hget k cs h1) h2; rw [Nat.add_mul, ← Nat.add_assoc] at this; exact this) (fun k j cs c h1 h2 => hvr _ _ _ _ (hget k cs h1) h2)
                rw [hlen] at this
                simpa [add_off] using this
              · have hnil : (xs.take hh).drop l = [] := by simp; omega
                have hz0 : hh - l = 0 := by omega
                rw [hnil, hz0]
                exact .vslNil
          · cases h
        · rename_i e i sz l0 n he hx
          split at h
          · rename_i hsz
            subst hsz
            simp only [Option.map_eq_some_iff] at h
            obtain ⟨⟨c', l, hh⟩, hq, rfl⟩ := h
            obtain ⟨hg, hc'⟩ := hc
            have h0 := (hr x).strip hg
            rw [hx] at h0
            rcases h0.vec_inv with ⟨a, e0, rfl⟩ | ⟨b, T', m, cap, hb, hsh, hcap, hl, e0⟩
            · obtain ⟨hbd, hlh, hhl⟩ := sliceEnds_sound (P := P) (w := w) (ρ := ρ) (S := S) (cap := 0) hq hc' (Nat.le_refl _) hr
              refine Good.pure (v := .slice (if 0 = l then a else a.map (·.add (l * e.size))) (hh - l) (0 - l)) hm ?_ ?_ rfl
              · simp [execOp, Instr.sliceAt, run_underlying hd, Instr.slice, e0, hbd, run_sizeOf_ty he]
              · have h1 : hh - l = 0 := by omega
                have h2 : 0 - l = 0 := by omega
                simp only [h1, h2]
                exact .vec0
            · obtain ⟨hbd, hlh, hhl⟩ := sliceEnds_sound (P := P) (w := w) (ρ := ρ) (S := S) (cap := cap) hq hc' hl hr
              refine Good.pure (v := .slice (if cap = l then some ⟨b, l0 * e.size, none⟩ else (some (⟨b, l0 * e.size, none⟩ : Addr)).map (·.add (l * e.size))) (hh - l) (cap - l)) hm ?_ ?_ rfl
              · simp [execOp, Instr.sliceAt, run_underlying hd, Instr.slice, e0, hbd, run_sizeOf_ty he]
              · by_cases hcl : cap = l
                · have h1 : hh - l = 0 := by omega
                  have h2 : cap - l = 0 := by omega
                  simp only [h1, h2]
                  exact .vec0
                · rw [if_neg hcl]
                  have := Rel.vec (S := S) (w := w) (ρ := ρ) (i := i) (sz := e.size) (lo := l0 + l) (b := b) (cap := cap - l) (len := hh - l) hb hsh (by
                    rw [← Nat.add_mul, show l0 + l + (cap - l) = l0 + cap by omega, Nat.add_mul]; exact hcap) (by omega)
                  simpa [add_off, Nat.add_mul] using this
          · cases h
        · cases h
      · cases h
    · cases h
  case call cl =>
    obtain ⟨callee, args, argTypes⟩ := cl
    cases callee with
    | value f => simp at h
    | invoke a b => simp at h
    | builtin b =>
      cases b <;> simp only [reduceCtorEq] at h
      split at h
      · rename_i x y T U ha hT
        obtain rfl := arr2 ha
        obtain rfl := arr2 hT
        split at h
        · rename_i t u ht hu
          split at h
          · rename_i hk
            obtain ⟨i0, d, zz, hi0, hd, -, -, -, -, -, -, -, h3, -⟩ := tyOf_inv ht
            obtain rfl := h3 hk.1
            obtain ⟨i0', d', zz', hi0', hd', -, -, -, -, -, -, -, h3', -⟩ := tyOf_inv hu
            obtain rfl := h3' hk.2
            have hel : P.elem T = t.elem := by simp [Program.elem, hd]
            have hdT : P.underlying T = some (.slice (P.elem T)) := by rw [hel]; exact hd
            split at h
            · rename_i e he
              rw [← hel] at he
              split at h
              · rename_i cy ys js hcont
                have hrun : ∀ {v w'}, (Builtin.append_ #[T, U] ty #[ev x, ev y]).run P w = .ok v w' → (execOp ev ⟨dst, .call ⟨.builtin .append, #[x, y], #[T, U]⟩, ty, pos, after, guard⟩).run P w = .ok (.value v) w' := fun h => by
                  simp [execOp, resolve, invoke, builtin, h]
                split at h
                · rename_i hx
                  cases h
                  obtain ⟨g1, g2, g3, g4, g5, g6, g7, g8⟩ := hc
                  have h0 := (hr x).strip g1
                  rw [hx] at h0
                  obtain ⟨a, c, ey, news, k1, k2, k3, k4⟩ := content_sound (P := P) hm hcont g3 ((hr y).strip g2)
                  obtain ⟨ρ', v, w', r1, r2, r3, r4, r5, r6⟩ := append_sound (P := P) (U := U) (ty := ty) (n := 0) (xs := []) (ob := none) (i := 0) (Hd := H) hm hid hdT ⟨_, hd'⟩ he g5 g6 g7 (by simpa using g8) ey k1 k2 k3 k4 (news_scalar k1 k3 k4 g4) (.inl ⟨rfl, rfl, ⟨none, h0.lit_inv⟩, rfl⟩)
                  refine ⟨ρ', v, w', .inl (hrun r1), r2, r3, ?_, by simpa using r5, r6⟩
                  simpa using r4
                · rename_i i s n hx
                  split at h
                  · rename_i s' xs hH
                    split at h <;> cases h
                    rename_i hs
                    obtain ⟨hs1, hs2⟩ := hs
                    subst hs1
                    subst hs2
                    obtain ⟨g1, g2, g3, g4, g5, g6, g7, g8, g9⟩ := hc
                    have h0 := (hr x).strip g1
                    rw [hx] at h0
                    obtain ⟨a, c, ey, news, k1, k2, k3, k4⟩ := content_sound (P := P) hm hcont g3 ((hr y).strip g2)
                    obtain ⟨hpos, hz, hblk⟩ := hm.blk i _ hH
                    have hkilled : Mem C ρ S (updH H i .dead) nx w := hm.kill hH
                    rcases h0.vec_inv with ⟨a', e0, rfl⟩ | ⟨b, T', m, cap, hb, hsh, hcap, hl, e0⟩
                    · obtain ⟨ρ', v, w', r1, r2, r3, r4, r5, r6⟩ := append_sound (P := P) (U := U) (ty := ty) (n := 0) (xs := []) (ob := none) (i := 0) (Hd := updH H i .dead) hkilled hid hdT ⟨_, hd'⟩ he g5 hpos g8 (by simpa using g9) ey k1 k2 k3 k4 (news_scalar k1 k3 k4 g4) (.inl ⟨rfl, rfl, ⟨a', e0⟩, rfl⟩)
                      refine ⟨ρ', v, w', .inl (hrun r1), r2, r3, ?_, by simpa using r5, r6⟩
                      simpa using r4
                    · rcases hblk with ⟨h1, -⟩ | ⟨n', vs, T'', hn', hheap, hrel⟩
                      · rw [hb] at h1; cases h1
                      rw [hb] at hn'; cases hn'
                      have hTT : T'' = T' := by rw [shape?_cells hheap] at hsh; cases hsh; rfl
                      subst hTT
                      simp only [Nat.zero_mul, Nat.zero_add] at hcap e0
                      obtain ⟨ρ', v, w', r1, r2, r3, r4, r5, r6⟩ := append_sound (P := P) (U := U) (ty := ty) (n := n) (xs := xs) (ob := some b) (i := i) (Hd := updH H i .dead) hm hid hdT ⟨_, hd'⟩ he g5 hpos g8 g9 ey k1 k2 k3 k4 (news_scalar k1 k3 k4 g4)
                        (.inr ⟨b, T'', m, cap, vs, _, rfl, hb, hH, rfl, rfl, hheap, hsh, hcap, hl, g7, ⟨hz, hrel⟩, e0⟩)
                      exact ⟨ρ', v, w', .inl (hrun r1), r2, r3, r4, r5, r6⟩
                  · cases h
                · cases h
              · cases h
            · cases h
          · cases h
        · cases h
      · cases h

end
end Go.Proofs.Ytkklmkogdogbkaa.Sep
