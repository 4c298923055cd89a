/-
  The small calculus, fifth part: the operations that touch no memory. No condition. (This text proves no statement by itself.)
-/
import Derived.Test.YtkklmkogdogbkaaSep4
namespace Go.Proofs.Ytkklmkogdogbkaa.Sep
open Go
set_option linter.unusedVariables false
set_option linter.unusedSimpArgs false

section
variable {S : Nat → Prop} {ρ : Names} {P : Program} {w : World} {r : Operand → AV} {ev : Operand → Value}

theorem mkIf_rel {b : Bool} {x y z : AV} {u v : Value} (h : mkIf b x y = some z) (hx : b = true → Rel S w ρ x u) (hy : b = false → Rel S w ρ y v) : Rel S w ρ z (if b then u else v) := by
  unfold mkIf at h
  split at h
  · cases h
    cases b
    · simpa using (hy rfl).lit_inv ▸ Rel.lit _
    · simpa using (hx rfl).lit_inv ▸ Rel.lit _
  · split at h
    · cases h
      rename_i hk; subst hk
      cases b
      · simpa using (hy rfl).lit_inv ▸ Rel.lit _
      · simpa using (hx rfl).lit_inv ▸ Rel.lit _
    · cases h
  · cases h

theorem add_off (b off n : Nat) : (⟨b, off, none⟩ : Addr).add n = ⟨b, off + n, none⟩ := by
  unfold Addr.add; split <;> simp_all

theorem run_intBin {op : BinOp} {k : IntKind} {a b : Int} {c : Prop} {v : Value} (T : TypeId) (h : intBin op k a b = some (c, v)) (hc : c) : (binOp op T (.int k a) (.int k b)).run P w = .ok v w := by
  cases op <;> simp only [intBin, Option.some.injEq, Prod.mk.injEq, reduceCtorEq] at h <;> first
    | (obtain ⟨rfl, rfl⟩ := h; simp [binOp, Op.intArith, Op.intBits, Op.intCmp]; done)
    | (obtain ⟨rfl, rfl⟩ := h; simp [binOp, Op.intDiv, hc]; done)

theorem eqGuard_int (op : BinOp) (T : TypeId) (x y : Operand) (k k' : IntKind) (a b : Int) : (eqGuard op T x y (.int k a) (.int k' b)).run P w = .ok () w := by
  cases op <;> simp [eqGuard]
theorem eqGuard_bool (op : BinOp) (T : TypeId) (x y : Operand) (a b : Bool) : (eqGuard op T x y (.bool a) (.bool b)).run P w = .ok () w := by
  cases op <;> simp [eqGuard]
theorem eqGuard_agg (op : BinOp) (T : TypeId) (x y : Operand) (a b : Array Value) (h : P.eqGuardType P.depth T = false) : (eqGuard op T x y (.agg a) (.agg b)).run P w = .ok () w := by
  cases op <;> simp [eqGuard, h]

theorem run_equalIn_bool (d : Nat) {T : TypeId} (h : P.underlying T = some .bool) (a b : Bool) : (Op.equalIn (d + 1) T (.bool a) (.bool b)).run P w = .ok (a == b) w := by
  simp [Op.equalIn, run_underlying h]
theorem run_equal_bool {T : TypeId} (h : P.underlying T = some .bool) (a b : Bool) : (Op.equal T (.bool a) (.bool b)).run P w = .ok (a == b) w := run_equalIn_bool 9999 h a b

theorem litsOf_rel {xs : List AV} {us : List Value} {vs : Array Value} (h : litsOf xs = some us) (hr : RelCs S w ρ xs vs) : vs.toList = us := by
  have key : ∀ (xs : List AV) (us : List Value), litsOf xs = some us → us.length = xs.length ∧ ∀ (k : Nat) c, xs[k]? = some c → ∃ u, us[k]? = some u ∧ c = AV.lit u := by
    intro xs
    induction xs with
    | nil => intro us h; simp [litsOf] at h; subst h; exact ⟨rfl, fun k c h => by simp at h⟩
    | cons x xs ih =>
      intro us h
      cases x <;> simp [litsOf] at h
      obtain ⟨us', h1, rfl⟩ := h
      obtain ⟨h2, h3⟩ := ih us' h1
      refine ⟨by simp [h2], fun k c hk => ?_⟩
      cases k with
      | zero => simp at hk; subst hk; exact ⟨_, by simp, rfl⟩
      | succ k => simp at hk; simpa using h3 k c hk
  obtain ⟨h1, h2⟩ := key xs us h
  apply List.ext_getElem?
  intro k
  by_cases hk : k < xs.length
  · obtain ⟨u, hu, e⟩ := h2 k xs[k] (by simp [hk])
    have hk' : k < vs.size := by rw [hr.1]; exact hk
    have hv : vs[k]? = some vs[k] := by simp [hk']
    have := hr.2 k xs[k] _ (by simp [hk]) hv
    rw [e] at this
    have := this.lit_inv
    rw [hu, ← this]; simp [hk']
  · rw [List.getElem?_eq_none (by simp [hr.1]; omega), List.getElem?_eq_none (by omega)]

theorem binAbs_sound {op : BinOp} {T : TypeId} {x y z : AV} {a b : Operand} {u v : Value} {c : Prop} (h : binAbs P op T x y = some (c, z)) (hc : c) (hx : Rel S w ρ x u) (hy : Rel S w ρ y v) :
    ∃ q, (do eqGuard op T a b u v; binOp op T u v : Sem Value).run P w = .ok q w ∧ Rel S w ρ z q := by
  unfold binAbs at h
  split at h
  · obtain rfl := hx.lit_inv
    obtain rfl := hy.lit_inv
    split at h
    · cases h
      exact ⟨_, by simp [eqGuard_int, binOp, Op.shift, Int.not_lt.2 hc], .lit _⟩
    · cases h
      exact ⟨_, by simp [eqGuard_int, binOp, Op.shift, Int.not_lt.2 hc], .lit _⟩
    · split at h
      · rename_i hk; subst hk
        simp only [Option.map_eq_some_iff, Prod.mk.injEq] at h
        obtain ⟨⟨c', q⟩, h1, rfl, rfl⟩ := h
        exact ⟨_, by simp [eqGuard_int, run_intBin T h1 hc], .lit _⟩
      · cases h
  · obtain rfl := hx.lit_inv
    obtain rfl := hy.lit_inv
    split at h
    · rename_i t ht
      split at h
      · rename_i hk
        obtain ⟨i, d, zz, hi, hd, -, -, -, -, -, -, -, -, h4, -⟩ := tyOf_inv ht
        obtain rfl := h4 hk
        split at h
        · cases h
          exact ⟨_, by simp [eqGuard_bool, binOp, run_equal_bool hd], .lit _⟩
        · cases h
          exact ⟨_, by simp [eqGuard_bool, binOp, run_equal_bool hd], .lit _⟩
        · cases h
      · cases h
    · cases h
  · obtain ⟨vs, rfl, hl, hr⟩ := hx.agg_inv
    obtain ⟨vs', rfl, hl', hr'⟩ := hy.agg_inv
    split at h
    · rename_i us us' h1 h2
      have e1 := litsOf_rel h1 ⟨hl, hr⟩
      have e2 := litsOf_rel h2 ⟨hl', hr'⟩
      split at h
      · rename_i r hr0
        cases h
        have := hc.2 w us us' r hr0
        rw [← e1, ← e2] at this
        exact ⟨_, by simp [eqGuard_agg _ _ _ _ _ _ hc.1, binOp]; simpa using congrArg (fun q => q.andThen fun a w' => Result.ok (Value.bool a) w') this, .lit _⟩
      · rename_i r hr0
        cases h
        have := hc.2 w us us' r hr0
        rw [← e1, ← e2] at this
        exact ⟨_, by simp [eqGuard_agg _ _ _ _ _ _ hc.1, binOp]; simpa using congrArg (fun q => q.andThen fun a w' => Result.ok (Value.bool (!a)) w') this, .lit _⟩
      · cases h
    · cases h
  · cases h


theorem rptr' {i sz n j b m : Nat} (h : ρ i = some b) (e : m = n * sz + j) : Rel S w ρ (.rptr i sz n j) (.pointer (some ⟨b, m, none⟩)) := by subst e; exact .rptr h
theorem vptr' {sz b off n j m : Nat} {xs : List (List AV)} (vs : Nat → Nat → Value) (hS : S b) (hz : ∀ (k : Nat) cs, xs[k]? = some cs → cs.length = sz)
    (hv : ∀ (k j : Nat) cs c, xs[k]? = some cs → cs[j]? = some c → w.cell? ⟨b, off + k * sz + j, none⟩ = some (vs k j))
    (hr : ∀ (k j : Nat) cs c, xs[k]? = some cs → cs[j]? = some c → Rel S w noNames c (vs k j)) (e : m = off + n * sz + j) : Rel S w ρ (.vptr sz xs n j) (.pointer (some ⟨b, m, none⟩)) := by subst e; exact .vptr vs hS hz hv hr
theorem rel_drop_take {cs : List AV} {vs : Array Value} (h : RelCs S w ρ cs vs) {o n : Nat} (hn : o + n ≤ cs.length) : Rel S w ρ (.agg ((cs.drop o).take n)) (.agg (vs.extract o (o + n))) := by
  refine .agg (by simp [h.1]; omega) (fun k c v h1 h2 => ?_)
  simp only [List.getElem?_take, List.getElem?_drop] at h1
  split at h1
  · rename_i hk
    have h3 : vs[o + k]? = some v := by
      rw [Array.getElem?_extract] at h2
      split at h2
      · exact h2
      · cases h2
    exact h.2 _ _ _ h1 h3
  · cases h1

theorem part_rel {cs : List AV} {vs : Array Value} {T : TypeId} {u : Ty} {o : Nat} (h : RelCs S w ρ cs vs) (hu : tyOf P T = some u)
    (hn : o + (if u.agg then u.size else 1) ≤ cs.length) : ∃ q, (part T vs o).run P w = .ok q w ∧ Rel S w ρ (if u.agg then .agg ((cs.drop o).take u.size) else cs.getD o .top) q := by
  have ha := run_isAgg_ty hu w
  have hs := run_sizeOf_ty hu w
  cases hg : u.agg
  · rw [hg] at ha hn
    simp at hn
    obtain ⟨v, h1, h2⟩ := h.at (k := o) (by omega)
    exact ⟨v, by simp [part, ha, h1], by simpa using h2⟩
  · rw [hg] at ha hn
    simp at hn
    exact ⟨.agg (vs.extract o (o + u.size)), by simp [part, ha, hs], by simpa using rel_drop_take h hn⟩

theorem rel_map {ops : Array Operand} (hr : ∀ x ∈ ops, grd (r x) = true) (h : ∀ x, Rel S w ρ (r x) (ev x)) : RelCs S w ρ (ops.toList.map fun x => strip (r x)) (ops.map ev) := by
  refine ⟨by simp, fun k c v h1 h2 => ?_⟩
  simp at h1 h2
  obtain ⟨x, hx, rfl⟩ := h1
  obtain ⟨y, hy, rfl⟩ := h2
  rw [hx] at hy; cases hy
  exact (h x).strip (hr x (Array.mem_of_getElem? hx))

theorem arr1 {α : Type} {xs : Array α} {x : α} (h : xs.toList = [x]) : xs = #[x] := by cases xs; simp_all
theorem arr2 {α : Type} {xs : Array α} {x y : α} (h : xs.toList = [x, y]) : xs = #[x, y] := by cases xs; simp_all
theorem arr3 {α : Type} {xs : Array α} {x y z : α} (h : xs.toList = [x, y, z]) : xs = #[x, y, z] := by cases xs; simp_all
theorem max_if (a b : Int) : (if b > a then b else a) = max a b := by split <;> omega
theorem min_if (a b : Int) : (if b < a then b else a) = min a b := by split <;> omega

set_option maxHeartbeats 2000000 in
theorem absCall_sound {o : Oper} {cl : Call} {c : Prop} {z : AV} (ho : o.op = .call cl) (h : absPure P (.call cl) r = some (c, z)) (hc : c) (hr : ∀ x, Rel S w ρ (r x) (ev x)) :
    ∃ q, (execOp ev o).run P w = .ok (.value q) w ∧ Rel S w ρ z q := by
  obtain ⟨callee, args, argTypes⟩ := cl
  have hx : execOp ev o = (do let d ← resolve ev ⟨callee, args, argTypes⟩ o.type; invoke d.target d.args) := by
    unfold execOp; rw [ho]
  rw [hx]
  clear hx
  cases callee with
  | value f => simp [absPure] at h
  | invoke a b => simp [absPure] at h
  | builtin b =>
    cases b <;> simp only [absPure, reduceCtorEq] at h
    case len =>
      split at h
      · rename_i x T ha hT
        obtain rfl := arr1 ha
        obtain rfl := arr1 hT
        have hk3 : ∀ t : Ty, tyOf P T = some t → t.kind = 3 → P.underlying T = some (.slice t.elem) := fun t ht hk => by
          obtain ⟨i0, d, zz, hi, hd, -, -, -, -, -, -, -, h3, -⟩ := tyOf_inv ht
          rw [hd, h3 hk]
        split at h
        · rename_i t sz xs ht he
          split at h <;> cases h
          rename_i hk
          have h0 := (hr x).strip hc
          rw [he] at h0
          obtain ⟨a, cap, e, -⟩ := h0.vsl_inv
          exact ⟨_, by simp [resolve, invoke, builtin, Builtin.len_, run_underlying (hk3 _ ht hk), e, goInt], .lit _⟩
        · rename_i t k sz lo len ht he
          split at h <;> cases h
          rename_i hk
          have h0 := (hr x).strip hc
          rw [he] at h0
          refine ⟨.int .i64 len, ?_, .lit _⟩
          rcases h0.vec_inv with ⟨a, e, rfl⟩ | ⟨b, T', n', cap, hb, hsh, hcap, hl, e⟩
          · simp [resolve, invoke, builtin, Builtin.len_, run_underlying (hk3 _ ht hk), e, goInt]
          · simp [resolve, invoke, builtin, Builtin.len_, run_underlying (hk3 _ ht hk), e, goInt]
        · rename_i t a n cap ht he
          split at h <;> cases h
          rename_i hk
          have h0 := (hr x).strip hc
          rw [he] at h0
          exact ⟨_, by simp [resolve, invoke, builtin, Builtin.len_, run_underlying (hk3 _ ht hk), h0.lit_inv, goInt], .lit _⟩
        · rename_i t ht _ _ _
          split at h <;> cases h
          rename_i hk
          obtain ⟨i0, d, zz, hi, hd, -, -, -, -, -, -, h2, -⟩ := tyOf_inv ht
          obtain rfl := h2 hk
          exact ⟨_, by simp [resolve, invoke, builtin, Builtin.len_, run_underlying hd, goInt], .lit _⟩
        · cases h
      · cases h
    case max =>
      split at h
      · rename_i x y ha
        obtain rfl := arr2 ha
        split at h <;> cases h
        rename_i k a k' b he1 he2
        have h1 := (hr x).strip hc.1
        have h2 := (hr y).strip hc.2
        rw [he1] at h1
        rw [he2] at h2
        exact ⟨_, by simp [resolve, invoke, builtin, Builtin.max_, Builtin.max2, h1.lit_inv, h2.lit_inv, max_if], .lit _⟩
      · rename_i x y y' ha
        obtain rfl := arr3 ha
        split at h <;> cases h
        rename_i k a k' b k'' d he1 he2 he3
        have h1 := (hr x).strip hc.1
        have h2 := (hr y).strip hc.2.1
        have h3 := (hr y').strip hc.2.2
        rw [he1] at h1
        rw [he2] at h2
        rw [he3] at h3
        exact ⟨_, by simp [resolve, invoke, builtin, Builtin.max_, Builtin.max2, h1.lit_inv, h2.lit_inv, h3.lit_inv, max_if], .lit _⟩
      · cases h
    case min =>
      split at h
      · rename_i x y ha
        obtain rfl := arr2 ha
        split at h <;> cases h
        rename_i k a k' b he1 he2
        have h1 := (hr x).strip hc.1
        have h2 := (hr y).strip hc.2
        rw [he1] at h1
        rw [he2] at h2
        exact ⟨_, by simp [resolve, invoke, builtin, Builtin.min_, Builtin.min2, h1.lit_inv, h2.lit_inv, min_if], .lit _⟩
      · rename_i x y y' ha
        obtain rfl := arr3 ha
        split at h <;> cases h
        rename_i k a k' b k'' d he1 he2 he3
        have h1 := (hr x).strip hc.1
        have h2 := (hr y).strip hc.2.1
        have h3 := (hr y').strip hc.2.2
        rw [he1] at h1
        rw [he2] at h2
        rw [he3] at h3
        exact ⟨_, by simp [resolve, invoke, builtin, Builtin.min_, Builtin.min2, h1.lit_inv, h2.lit_inv, h3.lit_inv, min_if], .lit _⟩
      · cases h

set_option maxHeartbeats 2000000 in
theorem absPure_sound {o : Oper} {c : Prop} {z : AV} (h : absPure P o.op r = some (c, z)) (hc : c) (hr : ∀ x, Rel S w ρ (r x) (ev x)) :
    ∃ q, (execOp ev o).run P w = .ok (.value q) w ∧ Rel S w ρ z q := by
  obtain ⟨dst, op, ty, pos, after, guard⟩ := o
  cases op <;> simp only [absPure, reduceCtorEq] at h
  case move x => cases h; exact ⟨_, rfl, (hr x).strip hc⟩
  case assign x => cases h; exact ⟨_, rfl, (hr x).strip hc⟩
  case pick cc a b =>
    split at h
    · rename_i cb hcb
      simp only [Option.map_eq_some_iff, Prod.mk.injEq] at h
      obtain ⟨z', hz, rfl, rfl⟩ := h
      have h0 := (hr cc).strip hc.1
      rw [hcb] at h0
      refine ⟨if cb then ev a else ev b, ?_, mkIf_rel hz (fun e => (hr a).strip (hc.2.1 e)) (fun e => (hr b).strip (hc.2.2 e))⟩
      simp [execOp, h0.lit_inv, asBool]
    · cases h
  case fieldAddr T x f =>
    split at h
    · rename_i t ht
      split at h
      · rename_i o U hk hf
        obtain ⟨i, d, zz, hi, hd, -, -, -, -, -, h1, -⟩ := tyOf_inv ht
        obtain ⟨fs, rfl, hoffs⟩ := h1 hk
        rw [hoffs] at hf
        simp at hf
        obtain ⟨g, hg, rfl, rfl⟩ := hf
        split at h
        · rename_i u hu
          split at h
          · cases h
          · rename_i hsz
            have hs := run_sizeOf_ty hu w
            split at h <;> cases h
            · rename_i i off he
              have h0 := (hr x).strip hc
              rw [he] at h0
              obtain ⟨b, hb, e⟩ := h0.ptr_inv
              exact ⟨_, by simp [execOp, Instr.fieldAt, run_underlying hd, hg, e, Instr.sureAddr, fieldPlace, hs, hsz, add_off], .ptr hb⟩
            · rename_i i s n j he
              have h0 := (hr x).strip hc
              rw [he] at h0
              obtain ⟨b, hb, e⟩ := h0.rptr_inv
              exact ⟨.pointer (some ⟨b, n * s + j + g.offset, none⟩), by simp [execOp, Instr.fieldAt, run_underlying hd, hg, e, Instr.sureAddr, fieldPlace, hs, hsz, add_off], rptr' hb (by omega)⟩
            · rename_i s xs n j he
              have h0 := (hr x).strip hc
              rw [he] at h0
              obtain ⟨b, off, e, hS, hz, vs, hv, hr'⟩ := h0.vptr_inv
              exact ⟨.pointer (some ⟨b, off + n * s + j + g.offset, none⟩), by simp [execOp, Instr.fieldAt, run_underlying hd, hg, e, Instr.sureAddr, fieldPlace, hs, hsz, add_off], vptr' vs hS hz hv hr' (by omega)⟩
        · cases h
      · cases h
    · cases h
  case nilCheck x =>
    split at h <;> cases h
    · rename_i i off he
      have h0 := (hr x).strip hc
      rw [he] at h0
      obtain ⟨b, hb, e⟩ := h0.ptr_inv
      exact ⟨_, by simp [execOp, e], .ptr hb⟩
    · rename_i i s n j he
      have h0 := (hr x).strip hc
      rw [he] at h0
      obtain ⟨b, hb, e⟩ := h0.rptr_inv
      exact ⟨_, by simp [execOp, e], .rptr hb⟩
    · rename_i s xs n j he
      have h0 := (hr x).strip hc
      rw [he] at h0
      obtain ⟨b, off, e, hS, hz, vs, hv, hr'⟩ := h0.vptr_inv
      exact ⟨_, by simp [execOp, e], .vptr vs hS hz hv hr'⟩
    · rename_i f xs cs he
      have h0 := (hr x).strip hc
      rw [he] at h0
      obtain ⟨ys, vs, e, h1, h2, h3, h4⟩ := h0.fn_inv
      exact ⟨_, by simp [execOp, e], .fn h1 h2 h3 h4⟩
    · rename_i f xs cs he
      have h0 := (hr x).strip hc
      rw [he] at h0
      exact ⟨_, by simp [execOp, h0.lit_inv], .lit _⟩
  case binOp op T x y T' =>
    simp only [Option.map_eq_some_iff, Prod.mk.injEq] at h
    obtain ⟨⟨c', z'⟩, h1, rfl, rfl⟩ := h
    obtain ⟨q, hq, hrel⟩ := binAbs_sound (a := x) (b := y) h1 hc.2.2 ((hr x).strip hc.1) ((hr y).strip hc.2.1)
    exact ⟨q, by simp only [execOp, Sem.run_bind, hq, Result.andThen_ok, Sem.run_pure], hrel⟩
  case unOp op T x =>
    split at h <;> cases h
    · rename_i k n he
      have h0 := (hr x).strip hc
      rw [he] at h0
      exact ⟨_, by simp [execOp, h0.lit_inv, Op.unary, Op.intArith], .lit _⟩
    · rename_i k he
      have h0 := (hr x).strip hc
      rw [he] at h0
      exact ⟨_, by simp [execOp, h0.lit_inv, Op.unary], .lit _⟩
  case convert U T x =>
    split at h
    · rename_i s t k n hs ht he
      split at h
      · rename_i hk
        cases h
        have h0 := (hr x).strip hc
        rw [he] at h0
        obtain ⟨i, d, zz, hi, hd, -⟩ := tyOf_inv hs
        obtain ⟨i', d', zz', hi', hd', -, -, -, -, -, -, -, -, -, h5, -⟩ := tyOf_inv ht
        obtain rfl := h5 hk
        exact ⟨_, by simp [execOp, h0.lit_inv, convert, run_underlying hd, run_underlying hd', Conv.intToInt], .lit _⟩
      · cases h
    · cases h
  case makeFunc f first cap =>
    cases h
    obtain ⟨a1, a2⟩ := rel_map (ev := ev) hc.1 hr
    obtain ⟨b1, b2⟩ := rel_map (ev := ev) hc.2 hr
    exact ⟨_, by simp [execOp, Instr.makeFunc], .fn a1 a2 b1 b2⟩
  case extract x k =>
    split at h
    · rename_i cs he
      simp only [Option.map_eq_some_iff, Prod.mk.injEq] at h
      obtain ⟨c', h1, rfl, rfl⟩ := h
      have h0 := (hr x).strip hc
      rw [he] at h0
      obtain ⟨vs, e, hl, hh⟩ := h0.tup_inv
      have hk : k < vs.size := by rw [hl]; exact (List.getElem?_eq_some_iff.1 h1).1
      exact ⟨vs[k], by simp [execOp, e, Instr.extract, hk], hh k c' _ h1 (by simp [hk])⟩
    · cases h
  case field T x f =>
    split at h
    · rename_i t cs ht he
      split at h
      · rename_i o U hk hf
        split at h
        · rename_i u hu
          cases h
          obtain ⟨i, d, zz, hi, hd, -, -, -, -, -, h1, -⟩ := tyOf_inv ht
          obtain ⟨fs, rfl, hoffs⟩ := h1 hk
          rw [hoffs] at hf
          simp at hf
          obtain ⟨g, hg, rfl, rfl⟩ := hf
          have h0 := (hr x).strip hc.1
          rw [he] at h0
          obtain ⟨vs, e, hl, hh⟩ := h0.agg_inv
          obtain ⟨q, hq, hrel⟩ := part_rel ⟨hl, hh⟩ hu hc.2
          exact ⟨q, by simp [execOp, Instr.field, run_underlying hd, hg, e, asAgg, hq], hrel⟩
        · cases h
      · cases h
    · cases h
  case index T x i =>
    split at h
    · rename_i t cs k n ht he hi'
      split at h
      · rename_i hk
        split at h
        · rename_i u hu
          cases h
          obtain ⟨i0, d, zz, hi, hd, -, -, -, -, -, -, h2, -⟩ := tyOf_inv ht
          obtain rfl := h2 hk
          have h0 := (hr x).strip hc.1
          rw [he] at h0
          have hi0 := (hr i).strip hc.2.1
          rw [hi'] at hi0
          obtain ⟨vs, e, hl, hh⟩ := h0.agg_inv
          obtain ⟨q, hq, hrel⟩ := part_rel ⟨hl, hh⟩ hu hc.2.2.2.2
          exact ⟨q, by simp [execOp, Instr.index, run_underlying hd, e, hi0.lit_inv, asIntOf, hc.2.2.1, hc.2.2.2.1, run_sizeOf_ty hu, hq], hrel⟩
        · cases h
      · cases h
    · cases h
  case indexAddr T x i =>
    split at h
    · rename_i t k n ht hi'
      split at h
      · rename_i u hu
        obtain ⟨i0, d, zz, hi, hd, -, -, -, -, -, -, h2, h3, -⟩ := tyOf_inv ht
        have hs := run_sizeOf_ty hu w
        split at h
        · rename_i hk
          obtain rfl := h3 hk
          split at h
          · rename_i sz xs he
            split at h
            · rename_i hsz
              cases h
              subst hsz
              have h0 := (hr x).strip hc.1
              rw [he] at h0
              have hi0 := (hr i).strip hc.2.1
              rw [hi'] at hi0
              obtain ⟨a, cap, e, hh⟩ := h0.vsl_inv
              obtain ⟨b, off, rfl, hS, hcap, hz, vs, hv, hr'⟩ := hh (by omega)
              refine ⟨_, by simp [execOp, Instr.indexAt, run_underlying hd, e, hi0.lit_inv, asIntOf, hc.2.2.1, hc.2.2.2, hs, add_off]; rfl, ?_⟩
              exact .vptr (j := 0) vs hS hz hv hr'
            · cases h
          · rename_i j sz lo len he
            split at h
            · rename_i hsz
              cases h
              subst hsz
              have h0 := (hr x).strip hc.1
              rw [he] at h0
              have hi0 := (hr i).strip hc.2.1
              rw [hi'] at hi0
              rcases h0.vec_inv with ⟨a, -, e0⟩ | ⟨b, T', n', cap, hb, hsh, hcap, hl, e⟩
              · omega
              · refine ⟨_, by simp [execOp, Instr.indexAt, run_underlying hd, e, hi0.lit_inv, asIntOf, hc.2.2.1, hc.2.2.2, hs, add_off]; rfl, ?_⟩
                have := Rel.rptr (S := S) (w := w) (sz := u.size) (n := lo + n.toNat) (j := 0) hb
                simpa [Nat.add_mul] using this
            · cases h
          · cases h
        · split at h
          · rename_i hk3 hk
            obtain rfl := h2 hk
            have htiny : ∀ c : Prop, c → True := fun _ _ => trivial
            split at h <;> cases h
            · rename_i j off he
              have h0 := (hr x).strip hc.1
              rw [he] at h0
              have hi0 := (hr i).strip hc.2.1
              rw [hi'] at hi0
              obtain ⟨b, hb, e⟩ := h0.ptr_inv
              exact ⟨_, by simp [execOp, Instr.indexAt, run_underlying hd, e, hi0.lit_inv, asIntOf, Instr.sureAddr, hc.2.2.1, hc.2.2.2, hs, add_off], .ptr hb⟩
            · rename_i j s m jj he
              have h0 := (hr x).strip hc.1
              rw [he] at h0
              have hi0 := (hr i).strip hc.2.1
              rw [hi'] at hi0
              obtain ⟨b, hb, e⟩ := h0.rptr_inv
              exact ⟨.pointer (some ⟨b, m * s + jj + n.toNat * u.size, none⟩), by simp [execOp, Instr.indexAt, run_underlying hd, e, hi0.lit_inv, asIntOf, Instr.sureAddr, hc.2.2.1, hc.2.2.2, hs, add_off], rptr' hb (by omega)⟩
            · rename_i s xs m jj he
              have h0 := (hr x).strip hc.1
              rw [he] at h0
              have hi0 := (hr i).strip hc.2.1
              rw [hi'] at hi0
              obtain ⟨b, off, e, hS, hz, vs, hv, hr'⟩ := h0.vptr_inv
              exact ⟨.pointer (some ⟨b, off + m * s + jj + n.toNat * u.size, none⟩), by simp [execOp, Instr.indexAt, run_underlying hd, e, hi0.lit_inv, asIntOf, Instr.sureAddr, hc.2.2.1, hc.2.2.2, hs, add_off], vptr' vs hS hz hv hr' (by omega)⟩
          · cases h
      · cases h
    · cases h
  case call cl => exact absCall_sound (o := ⟨dst, .call cl, ty, pos, after, guard⟩) rfl h hc hr

end
end Go.Proofs.Ytkklmkogdogbkaa.Sep
