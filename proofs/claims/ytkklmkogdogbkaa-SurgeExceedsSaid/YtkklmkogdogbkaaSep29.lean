/-
  The small calculus, twenty-ninth part: '==' of structs. No condition. (This text proves no statement by itself.)
-/
import Derived.Test.YtkklmkogdogbkaaSep28
import Derived.Laws.StructEq
namespace Go.Proofs.Ytkklmkogdogbkaa.Sep
open Go
set_option linter.unusedVariables false
set_option linter.unusedSimpArgs false

/-- The kinds of the cells of a type that '==' compares cell by cell. -/
def eqFs (P : Program) (eq : TypeId → Option (List Nat)) : Nat → List Field → Option (List Nat)
  | _, [] => some []
  | o, f :: fs =>
    match f.name == "_", Nat.beq f.offset o, eq f.type, tyOf P f.type with
    | false, true, some ks, some u =>
      match Nat.beq (if u.agg then u.size else 1) ks.length && Nat.blt 0 ks.length with
      | true => match eqFs P eq (o + ks.length) fs with
        | some r => some (ks ++ r)
        | none => none
      | false => none
    | _, _, _, _ => none
def eqKs (P : Program) : Nat → TypeId → Option (List Nat)
  | 0, _ => none
  | d + 1, T =>
    match P.underlying T with
    | some .bool => some [4]
    | some (.int _) => some [5]
    | some .string => some [6]
    | some (.struct fs) => match P.stoodInHeld T with
      | false => eqFs P (eqKs P d) 0 fs.toList
      | true => none
    | _ => none
def isSt (P : Program) (T : TypeId) : Bool := match P.underlying T with
  | some (.struct _) => true
  | _ => false
def eqCk (P : Program) (T : TypeId) (ks : List Nat) : Bool := !(P.eqGuardType P.depth T) && isSt P T && decide (eqKs P 100 T = some ks)

theorem eqVs_cons {k : Nat} {ks : List Nat} {xs ys : List Value} {r : Bool} (h : eqVs (k :: ks) xs ys = some r) : ∃ x y xs' ys' a b, xs = x :: xs' ∧ ys = y :: ys' ∧ eqVs ks xs' ys' = some b ∧ r = (a && b) ∧ ∀ ls us vs q, eqVs ls us vs = some q → eqVs (k :: ls) (x :: us) (y :: vs) = some (a && q) := by
  unfold eqVs at h
  split at h
  · have := ‹k :: ks = []›; cases this
  · have e := ‹k :: ks = 5 :: _›
    obtain ⟨rfl, rfl⟩ := List.cons.inj e
    split at h
    · rename_i hk
      simp only [Option.map_eq_some_iff] at h
      obtain ⟨q, hq, rfl⟩ := h
      exact ⟨_, _, _, _, _, q, rfl, rfl, hq, rfl, fun ls us vs q' h' => by simp only [eqVs, hk, if_true, h', Option.map_some]⟩
    · cases h
  · have e := ‹k :: ks = 4 :: _›
    obtain ⟨rfl, rfl⟩ := List.cons.inj e
    simp only [Option.map_eq_some_iff] at h
    obtain ⟨q, hq, rfl⟩ := h
    exact ⟨_, _, _, _, _, q, rfl, rfl, hq, rfl, fun ls us vs q' h' => by simp only [eqVs, h', Option.map_some]⟩
  · have e := ‹k :: ks = 6 :: _›
    obtain ⟨rfl, rfl⟩ := List.cons.inj e
    simp only [Option.map_eq_some_iff] at h
    obtain ⟨q, hq, rfl⟩ := h
    exact ⟨_, _, _, _, _, q, rfl, rfl, hq, rfl, fun ls us vs q' h' => by simp only [eqVs, h', Option.map_some]⟩
  · cases h
theorem eqVs_len : ∀ {ks : List Nat} {xs ys : List Value} {r : Bool}, eqVs ks xs ys = some r → xs.length = ks.length ∧ ys.length = ks.length := by
  intro ks
  induction ks with
  | nil => intro xs ys r h; cases xs <;> cases ys <;> simp [eqVs] at h ⊢
  | cons k ks ih =>
    intro xs ys r h
    obtain ⟨x, y, xs', ys', a, b, rfl, rfl, h1, -, -⟩ := eqVs_cons h
    have := ih h1
    simp [this]
theorem eqVs_append : ∀ {ks ls : List Nat} {xs ys : List Value} {r : Bool}, eqVs (ks ++ ls) xs ys = some r → ∃ a b, eqVs ks (xs.take ks.length) (ys.take ks.length) = some a ∧ eqVs ls (xs.drop ks.length) (ys.drop ks.length) = some b ∧ r = (a && b) := by
  intro ks
  induction ks with
  | nil => intro ls xs ys r h; exact ⟨true, r, rfl, by simpa using h, by simp⟩
  | cons k ks ih =>
    intro ls xs ys r h
    obtain ⟨x, y, xs', ys', a, b, rfl, rfl, h1, rfl, h3⟩ := eqVs_cons h
    obtain ⟨c, d, h4, h5, rfl⟩ := ih h1
    exact ⟨_, d, by simpa using h3 _ _ _ _ h4, by simpa using h5, by rw [Bool.and_assoc]⟩
theorem eqVs_4 {x y : Value} {r : Bool} (h : eqVs [4] [x] [y] = some r) : ∃ a b, x = .bool a ∧ y = .bool b ∧ r = (a == b) := by
  cases x <;> cases y <;> simp [eqVs] at h ⊢ <;> exact h.symm
theorem eqVs_5 {x y : Value} {r : Bool} (h : eqVs [5] [x] [y] = some r) : ∃ k a b, x = .int k a ∧ y = .int k b ∧ r = (a == b) := by
  cases x <;> cases y <;> simp [eqVs] at h
  obtain ⟨rfl, h2⟩ := h
  exact ⟨_, _, _, rfl, rfl, h2.symm⟩
theorem eqVs_6 {x y : Value} {r : Bool} (h : eqVs [6] [x] [y] = some r) : ∃ a b, x = .string a ∧ y = .string b ∧ r = (a == b) := by
  cases x <;> cases y <;> simp [eqVs] at h ⊢ <;> exact h.symm
theorem eqVs_one {ks : List Nat} {xs ys : List Value} {r : Bool} {k : Nat} (hk : ks = [k]) (h : eqVs ks xs ys = some r) : ∃ x y, xs = [x] ∧ ys = [y] := by
  have := eqVs_len h
  subst hk
  obtain ⟨h1, h2⟩ := this
  match xs, ys, h1, h2 with
  | [x], [y], _, _ => exact ⟨x, y, rfl, rfl⟩

/-- The value with these cells. -/
def valOf (agg : Bool) (xs : List Value) : Value := if agg then .agg xs.toArray else xs.getD 0 undef

theorem run_part {P : Program} {T : TypeId} {u : Ty} (hu : tyOf P T = some u) {xs : List Value} {o : Nat} {n : Nat} (hn : (if u.agg then u.size else 1) = n) (hl : o + n ≤ xs.length) (w : World) : (part T xs.toArray o).run P w = .ok (valOf u.agg ((xs.drop o).take n)) w := by
  have ha := run_isAgg_ty hu w
  have hs := run_sizeOf_ty hu w
  cases hg : u.agg
  · rw [hg] at ha hn
    simp at hn
    subst hn
    have : o < xs.length := by omega
    simp [part, ha, valOf, this, List.getD, List.head?_drop]
  · rw [hg] at ha hn
    simp at hn
    simp [part, ha, hs, valOf, hn]

theorem eqFs_run {P : Program} {d D : Nat} (ih : ∀ (T : TypeId) (ks : List Nat) (u : Ty), eqKs P d T = some ks → tyOf P T = some u → ∀ (w : World) (xs ys : List Value) (r : Bool), eqVs ks xs ys = some r → (Op.equalIn D T (valOf u.agg xs) (valOf u.agg ys)).run P w = .ok r w) :
    ∀ (fs : List Field) (o : Nat) (ks : List Nat), eqFs P (eqKs P d) o fs = some ks → ∀ (w : World) (xs ys : List Value) (r : Bool), eqVs ks (xs.drop o) (ys.drop o) = some r → (Op.eqFields D xs.toArray ys.toArray fs).run P w = .ok r w := by
  intro fs
  induction fs with
  | nil => intro o ks h w xs ys r hr; simp only [eqFs, Option.some.injEq] at h; subst h; have := eqVs_len hr; simp at this; obtain ⟨h1, h2⟩ := this
           have e1 : xs.drop o = [] := List.drop_eq_nil_of_le (by omega)
           have e2 : ys.drop o = [] := List.drop_eq_nil_of_le (by omega)
           rw [e1, e2] at hr
           simp [eqVs] at hr; subst hr
           simp [Op.eqFields]
  | cons f fs ihf =>
    intro o ks h w xs ys r hr
    simp only [eqFs] at h
    split at h
    · rename_i ks1 u hname hoff hk1 hu
      have hoff := beq_true hoff
      split at h
      · rename_i hlen
        simp only [Bool.and_eq_true] at hlen
        have hpos := blt_true hlen.2
        have hlen := beq_true hlen.1
        split at h
        · rename_i r' hr'
          cases h
          have hl := eqVs_len hr
          simp at hl
          obtain ⟨a, b, e1, e2, rfl⟩ := eqVs_append hr
          have hne : f.name ≠ "_" := by simpa using hname
          have p1 := run_part hu (xs := xs) (o := o) hlen (by omega) w
          have p2 := run_part hu (xs := ys) (o := o) hlen (by omega) w
          have p3 := ih f.type ks1 u hk1 hu w _ _ a e1
          have p4 := ihf (o + ks1.length) r' hr' w xs ys b (by rw [List.drop_drop] at e2; rw [List.drop_drop] at e2; exact e2)
          simp only [Op.eqFields, hne, ne_eq, not_false_eq_true, if_true, Sem.run_bind, hoff, p1, p2, p3, Result.andThen_ok, Sem.run_ite]
          cases a
          · simp
          · simp [p4]
        · cases h
      · cases h
    · cases h

theorem eqKs_run {P : Program} : ∀ (d D : Nat), d ≤ D → ∀ (T : TypeId) (ks : List Nat) (u : Ty), eqKs P d T = some ks → tyOf P T = some u → ∀ (w : World) (xs ys : List Value) (r : Bool), eqVs ks xs ys = some r → (Op.equalIn D T (valOf u.agg xs) (valOf u.agg ys)).run P w = .ok r w := by
  intro d
  induction d with
  | zero => intro D _ T ks u h; cases h
  | succ d ih =>
    intro D hD T ks u h hu w xs ys r hr
    obtain ⟨D, rfl⟩ : ∃ E, D = E + 1 := ⟨D - 1, by omega⟩
    obtain ⟨i0, dd, zz, hi, hd, -, -, -, -, hagg, -⟩ := tyOf_inv hu
    simp only [eqKs] at h
    rw [hd] at h
    split at h
    · rename_i e; cases e; cases h
      obtain ⟨x, y, rfl, rfl⟩ := eqVs_one rfl hr
      simp only at hagg
      simp only [valOf, hagg, Bool.false_eq_true, if_false, List.getD_cons_zero]
      obtain ⟨a, b, rfl, rfl, rfl⟩ := eqVs_4 hr
      exact run_equalIn_bool' w D T _ _ hd
    · rename_i e; cases e; cases h
      obtain ⟨x, y, rfl, rfl⟩ := eqVs_one rfl hr
      simp only at hagg
      simp only [valOf, hagg, Bool.false_eq_true, if_false, List.getD_cons_zero]
      obtain ⟨k, a, b, rfl, rfl, rfl⟩ := eqVs_5 hr
      exact run_equalIn_int w D T _ _ _ _ hd
    · rename_i e; cases e; cases h
      obtain ⟨x, y, rfl, rfl⟩ := eqVs_one rfl hr
      simp only at hagg
      simp only [valOf, hagg, Bool.false_eq_true, if_false, List.getD_cons_zero]
      obtain ⟨a, b, rfl, rfl, rfl⟩ := eqVs_6 hr
      rw [beq_toListBytes]
      exact run_equalIn_string w D T _ _ hd
    · rename_i fs e; cases e
      split at h
      · rename_i hst
        simp only at hagg
        simp only [valOf, hagg, if_true]
        have hfs : P.fieldsOf T = fs := by simp [Program.fieldsOf, hd]
        rw [run_equalIn_agg w D T _ _ (by rw [hfs]; exact hd) hst, hfs]
        exact eqFs_run (fun T ks u h1 h2 => ih D (by omega) T ks u h1 h2) fs.toList 0 ks h w xs ys r (by simpa using hr)
      · cases h
    · cases h

theorem eqCk_ok {P : Program} {T : TypeId} {ks : List Nat} (h : eqCk P T ks = true) (hu : (tyOf P T).isSome = true) : EqOK P T ks := by
  simp only [eqCk, Bool.and_eq_true, Bool.not_eq_true', decide_eq_true_eq] at h
  obtain ⟨⟨h1, h2⟩, h3⟩ := h
  refine ⟨h1, fun w xs ys r hr => ?_⟩
  obtain ⟨u, hu⟩ := Option.isSome_iff_exists.1 hu
  have hagg : u.agg = true := by
    obtain ⟨i0, dd, zz, hi, hd, -, -, -, -, hagg, -⟩ := tyOf_inv hu
    unfold isSt at h2
    rw [hd] at h2
    rw [hagg]
    split at h2
    · rename_i e; cases e; rfl
    · cases h2
  have := eqKs_run 100 10000 (by omega) T ks u h3 hu w xs ys r hr
  simp only [valOf, hagg, if_true] at this
  exact this
end Go.Proofs.Ytkklmkogdogbkaa.Sep
