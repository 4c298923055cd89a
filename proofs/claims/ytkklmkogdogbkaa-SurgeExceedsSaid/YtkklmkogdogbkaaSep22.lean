/-
  The small calculus, twenty-second part: one state fits another one, its blocks renamed and some forgotten. No condition. (This text proves no statement by itself.)
-/
import Derived.Test.YtkklmkogdogbkaaSep21
namespace Go.Proofs.Ytkklmkogdogbkaa.Sep
open Go
set_option linter.unusedVariables false
set_option linter.unusedSimpArgs false

/-- New numbers for old ones; none for a slice that is nil. -/
abbrev Sg := List (Nat × Option Nat)
def sgAt : Sg → Nat → Option (Option Nat)
  | [], _ => none
  | p :: r, t => match Nat.beq p.1 t with
    | true => some p.2
    | false => sgAt r t
def sgUsed : Sg → Nat → Bool
  | [], _ => false
  | p :: r, i => match p.2 with
    | some k => match Nat.beq k i with
      | true => true
      | false => sgUsed r i
    | none => sgUsed r i
def renS (m : Nat) (σ : Sg) (ρ : Names) : Names := fun j => if j < m then ρ j else match sgAt σ j with | some (some i) => ρ i | _ => none

def bindS (m : Nat) (j i : Nat) (σ : Sg) (K : Sg → Prop) : Prop :=
  match Nat.blt j m with
  | true => match Nat.beq i j with
    | true => K σ
    | false => False
  | false => match sgAt σ j with
    | some (some i') => match Nat.beq i i' with
      | true => K σ
      | false => False
    | some none => False
    | none => match Nat.ble m i with
      | true => match sgUsed σ i with
        | true => False
        | false => K ((j, some i) :: σ)
      | false => False
def bindNil (m : Nat) (j : Nat) (σ : Sg) (K : Sg → Prop) : Prop :=
  match Nat.blt j m with
  | true => False
  | false => match sgAt σ j with
    | some (some _) => False
    | some none => K σ
    | none => K ((j, none) :: σ)

def fit1 (m : Nat) (x y : SV) (σ : Sg) (K : Sg → Prop) : Prop :=
  match y with
  | .top => K σ
  | .ptr j o' => match x with
    | .ptr i o => match Nat.beq o o' with
      | true => bindS m j i σ K
      | false => False
    | _ => False
  | .vec j sz' lo' n' => match x with
    | .vec i sz lo n => match Nat.beq sz sz' with
      | true => lo = lo' ∧ n = n' ∧ bindS m j i σ K
      | false => False
    | .lit (.slice none 0 0) => n' = 0 ∧ bindNil m j σ K
    | _ => False
  | .sptr s' n' g k' j' => match x with
    | .sptr s n f k j => match Nat.beq s s' with
      | true => match Nat.beq j j' with
        | true => n = n' ∧ k = k' ∧ (∀ q, q < n → leRow le1 (f q) (g q)) ∧ K σ
        | false => False
      | false => False
    | _ => False
  | y => le1 x y ∧ K σ
def fitRow (g : SV → SV → Sg → (Sg → Prop) → Prop) : List SV → List SV → Sg → (Sg → Prop) → Prop
  | [], [], σ, K => K σ
  | x :: xs, y :: ys, σ, K => g x y σ fun σ => fitRow g xs ys σ K
  | _, _, _, _ => False
def fit2 (m : Nat) (x y : SV) (σ : Sg) (K : Sg → Prop) : Prop :=
  match y with
  | .agg ds => match x with
    | .agg cs => fitRow (fit1 m) cs ds σ K
    | _ => False
  | .fn f' ys ds => match x with
    | .fn f xs cs => match Nat.beq f f' with
      | true => fitRow (fit1 m) xs ys σ fun σ => fitRow (fit1 m) cs ds σ K
      | false => False
    | _ => False
  | y => fit1 m x y σ K
def fitA (m : Nat) (A : SSlots) : SSlots → Sg → (Sg → Prop) → Prop
  | [], σ, K => K σ
  | p :: r, σ, K => fit2 m (getS A p.1) p.2 σ fun σ => fitA m A r σ K
def fitB (m : Nat) (x y : SBlk) (σ : Sg) (K : Sg → Prop) : Prop :=
  match y with
  | .dead => K σ
  | .cells ds => match x with
    | .cells cs => fitRow (fit2 m) cs ds σ K
    | _ => False
  | .row s' n' g => match x with
    | .row s n f => match Nat.beq s s' with
      | true => n = n' ∧ (∀ k, k < n → leRow leA (f k) (g k)) ∧ K σ
      | false => False
    | _ => False
def fitH (m : Nat) (H : SBlks) : SBlks → Sg → (Sg → Prop) → Prop
  | [], σ, K => K σ
  | p :: r, σ, K =>
    match Nat.blt p.1 m with
    | true => match getB H p.1 with
      | some c => fitB m c p.2 σ fun σ => fitH m H r σ K
      | none => False
    | false => match sgAt σ p.1 with
      | some (some i) => match getB H i with
        | some c => fitB m c p.2 σ fun σ => fitH m H r σ K
        | none => False
      | some none => match p.2 with
        | .row sz n _ => match Nat.blt 0 sz with
          | true => n = 0 ∧ fitH m H r σ K
          | false => False
        | _ => False
      | none => False
/-- One state fits another one. -/
def fit (N m : Nat) (A : SSlots) (H : SBlks) (A' : SSlots) (H' : SBlks) (n' : Nat) : Prop :=
  fitA m A A' [] fun σ => fitH m H H' σ fun σ =>
    match (σ.all fun p => Nat.blt p.1 n') && (H'.all fun p => Nat.blt p.1 n') && (A'.all fun p => Nat.blt p.1 N) && Nat.ble m n' with
    | true => True
    | false => False

def Ext (σ σ' : Sg) : Prop := ∀ j v, sgAt σ j = some v → sgAt σ' j = some v
theorem Ext.refl (σ : Sg) : Ext σ σ := fun _ _ h => h
theorem Ext.trans {σ σ' σ'' : Sg} (h : Ext σ σ') (h' : Ext σ' σ'') : Ext σ σ'' := fun j v e => h' j v (h j v e)
structure Fair (m : Nat) (σ : Sg) : Prop where
  inj : ∀ j j' i, sgAt σ j = some (some i) → sgAt σ j' = some (some i) → j = j'
  low : ∀ j i, sgAt σ j = some (some i) → m ≤ i
theorem sgAt_mem {σ : Sg} {j : Nat} {v : Option Nat} (h : sgAt σ j = some v) : (j, v) ∈ σ := by
  induction σ with
  | nil => cases h
  | cons p σ ih =>
    simp only [sgAt] at h
    split at h
    · rename_i e; cases h; rw [← beq_true e]; simp
    · exact List.mem_cons_of_mem _ (ih h)
theorem sgUsed_not {σ : Sg} {i : Nat} (h : sgUsed σ i = false) : ∀ j, sgAt σ j ≠ some (some i) := by
  intro j e
  have := sgAt_mem e
  clear e
  induction σ with
  | nil => cases this
  | cons p σ ih =>
    simp only [sgUsed] at h
    rcases List.mem_cons.1 this with e | e
    · subst e
      simp only at h
      split at h
      · cases h
      · rename_i hb; exact beq_false hb rfl
    · split at h
      · split at h
        · cases h
        · exact ih h e
      · exact ih h e
theorem blt_true {a b : Nat} (h : Nat.blt a b = true) : a < b := Nat.le_of_ble_eq_true h
theorem blt_false {a b : Nat} (h : Nat.blt a b = false) : b ≤ a := by
  rcases Nat.lt_or_ge a b with h' | h'
  · have := Nat.ble_eq_true_of_le (show a + 1 ≤ b from h')
    unfold Nat.blt at h
    rw [h] at this; cases this
  · exact h'
theorem Ext.cons {σ : Sg} {j : Nat} {v : Option Nat} (h : sgAt σ j = none) : Ext σ ((j, v) :: σ) := fun k u e => by
  simp only [sgAt]
  split
  · rename_i hb
    have hb : j = k := beq_true hb
    subst hb; rw [h] at e; cases e
  · exact e
theorem sgAt_cons {σ : Sg} {j k : Nat} {v u : Option Nat} (h : sgAt ((j, v) :: σ) k = some u) : (k = j ∧ u = v) ∨ sgAt σ k = some u := by
  simp only [sgAt] at h
  split at h
  · rename_i hb; cases h; exact .inl ⟨(beq_true hb).symm, rfl⟩
  · exact .inr h
theorem sgAt_here {σ : Sg} {j : Nat} {v : Option Nat} : sgAt ((j, v) :: σ) j = some v := by
  simp [sgAt]

theorem bindS_ok {m j i : Nat} {σ : Sg} {K : Sg → Prop} (h : bindS m j i σ K) (hf : Fair m σ) : ∃ σ', K σ' ∧ Ext σ σ' ∧ Fair m σ' ∧ ∀ σ'', Ext σ' σ'' → ∀ ρ, renS m σ'' ρ j = ρ i := by
  unfold bindS at h
  split at h
  · rename_i hj
    split at h
    · rename_i hi
      have := beq_true hi
      subst this
      exact ⟨σ, h, .refl _, hf, fun σ'' _ ρ => by simp [renS, blt_true hj]⟩
    · exact h.elim
  · rename_i hj
    have hj' : ¬ j < m := Nat.not_lt.2 (blt_false hj)
    split at h
    · rename_i i' hi'
      split at h
      · rename_i e
        have := beq_true e
        subst this
        exact ⟨σ, h, .refl _, hf, fun σ'' hx ρ => by simp [renS, hj', hx _ _ hi']⟩
      · exact h.elim
    · exact h.elim
    · rename_i hn
      split at h
      · rename_i hm
        split at h
        · exact h.elim
        · rename_i hu
          refine ⟨_, h, Ext.cons hn, ⟨fun a b k e1 e2 => ?_, fun a k e => ?_⟩, fun σ'' hx ρ => by simp [renS, hj', hx _ _ sgAt_here]⟩
          · rcases sgAt_cons e1 with ⟨rfl, h1⟩ | h1 <;> rcases sgAt_cons e2 with ⟨rfl, h2⟩ | h2
            · rfl
            · cases h1; exact absurd h2 (sgUsed_not hu _)
            · cases h2; exact absurd h1 (sgUsed_not hu _)
            · exact hf.inj _ _ _ h1 h2
          · rcases sgAt_cons e with ⟨-, h1⟩ | h1
            · cases h1; exact Nat.le_of_ble_eq_true hm
            · exact hf.low _ _ h1
      · exact h.elim
theorem bindNil_ok {m j : Nat} {σ : Sg} {K : Sg → Prop} (h : bindNil m j σ K) (hf : Fair m σ) : ∃ σ', K σ' ∧ Ext σ σ' ∧ Fair m σ' := by
  unfold bindNil at h
  split at h
  · exact h.elim
  · split at h
    · exact h.elim
    · exact ⟨σ, h, .refl _, hf⟩
    · rename_i hn
      refine ⟨_, h, Ext.cons hn, ⟨fun a b k e1 e2 => ?_, fun a k e => ?_⟩⟩
      · rcases sgAt_cons e1 with ⟨-, h1⟩ | h1
        · cases h1
        · rcases sgAt_cons e2 with ⟨-, h2⟩ | h2
          · cases h2
          · exact hf.inj _ _ _ h1 h2
      · rcases sgAt_cons e with ⟨-, h1⟩ | h1
        · cases h1
        · exact hf.low _ _ h1

/-- What stands for x under the old names stands for y under the new ones. -/
def Turns (m : Nat) (σ : Sg) (x y : SV) : Prop := ∀ S w ρ v, Rel S w ρ x.den v → Rel S w (renS m σ ρ) y.den v
def FitOK (m : Nat) (g : SV → SV → Sg → (Sg → Prop) → Prop) : Prop := ∀ x y σ K, g x y σ K → Fair m σ → ∃ σ', K σ' ∧ Ext σ σ' ∧ Fair m σ' ∧ ∀ σ'', Ext σ' σ'' → Turns m σ'' x y

theorem le1_noid {x y : SV} (h : le1 x y) : y = .top ∨ noid1 y = true := by
  unfold le1 at h
  split at h
  · exact .inr rfl
  · unfold le0 at h
    split at h
    · exact .inl rfl
    · exact .inr rfl
    · exact .inr rfl
    · exact .inr rfl
    · exact h.elim
theorem noid1_idless {y : SV} (h : noid1 y = true) : y.den.idless = true := by
  cases y <;> first | (simp [noid1] at h; done) | simp [SV.den, AV.idless]
theorem Turns.le1 {m : Nat} {σ : Sg} {x y : SV} (h : le1 x y) : Turns m σ x y := fun S w ρ v hv => by
  have h1 := le1_ok _ _ h _ _ _ _ hv
  rcases le1_noid h with rfl | hn
  · exact .top v
  · exact (h1.idless (noid1_idless hn)).mono (Kept.refl _ _) (fun _ e => e) (fun _ _ e => by cases e)

theorem fit1_ok (m : Nat) : FitOK m (fit1 m) := by
  intro x y σ K h hf
  unfold fit1 at h
  split at h
  · exact ⟨σ, h, .refl _, hf, fun σ'' _ S w ρ v _ => .top v⟩
  · split at h
    · split at h
      · rename_i ho
        have := beq_true ho
        subst this
        obtain ⟨σ', h1, h2, h3, h4⟩ := bindS_ok h hf
        refine ⟨σ', h1, h2, h3, fun σ'' hx S w ρ v hv => ?_⟩
        obtain ⟨b, hb, rfl⟩ := hv.ptr_inv
        exact .ptr (by rw [h4 σ'' hx]; exact hb)
      · exact h.elim
    · exact h.elim
  · split at h
    · split at h
      · rename_i ho
        have := beq_true ho
        subst this
        obtain ⟨rfl, rfl, h⟩ := h
        obtain ⟨σ', h1, h2, h3, h4⟩ := bindS_ok h hf
        refine ⟨σ', h1, h2, h3, fun σ'' hx S w ρ v hv => ?_⟩
        rcases hv.vec_inv with ⟨a, rfl, rfl⟩ | ⟨b, T, n', cap, g1, g2, g3, g4, rfl⟩
        · exact .vec0
        · exact .vec (by rw [h4 σ'' hx]; exact g1) g2 g3 g4
      · exact h.elim
    · obtain ⟨rfl, h⟩ := h
      obtain ⟨σ', h1, h2, h3⟩ := bindNil_ok h hf
      refine ⟨σ', h1, h2, h3, fun σ'' hx S w ρ v hv => ?_⟩
      obtain rfl := Rel.lit_inv hv
      exact .vec0
    · exact h.elim
  · split at h
    · split at h
      · rename_i hs
        have := beq_true hs
        subst this
        split at h
        · rename_i hj
          have := beq_true hj
          subst this
          obtain ⟨rfl, rfl, hr, h⟩ := h
          refine ⟨σ, h, .refl _, hf, fun σ'' hx S w ρ v hv => ?_⟩
          have := AV.le.vptr (rows_le (fun k hk => leRow_ok le1_ok _ _ (hr k hk))) _ _ _ _ hv
          have := this.idless (by simp [AV.idless])
          exact this.mono (Kept.refl _ _) (fun _ e => e) (fun _ _ e => by cases e)
        · exact h.elim
      · exact h.elim
    · exact h.elim
  · obtain ⟨h1, h2⟩ := h
    exact ⟨σ, h2, .refl _, hf, fun σ'' _ => .le1 h1⟩

theorem fitRow_ok {m : Nat} {g : SV → SV → Sg → (Sg → Prop) → Prop} (hg : FitOK m g) : ∀ (xs ys : List SV) (σ : Sg) (K : Sg → Prop), fitRow g xs ys σ K → Fair m σ → ∃ σ', K σ' ∧ Ext σ σ' ∧ Fair m σ' ∧ xs.length = ys.length ∧
    ∀ σ'', Ext σ' σ'' → ∀ (k : Nat) x y, xs[k]? = some x → ys[k]? = some y → Turns m σ'' x y := by
  intro xs
  induction xs with
  | nil =>
    intro ys σ K h hf
    cases ys with
    | nil => exact ⟨σ, h, .refl _, hf, rfl, fun _ _ k x y e => by simp at e⟩
    | cons y ys => exact h.elim
  | cons x xs ih =>
    intro ys σ K h hf
    cases ys with
    | nil => exact h.elim
    | cons y ys =>
      obtain ⟨σ1, h1, h2, h3, h4⟩ := hg _ _ _ _ h hf
      obtain ⟨σ2, g1, g2, g3, g4, g5⟩ := ih ys σ1 K h1 h3
      refine ⟨σ2, g1, h2.trans g2, g3, by simp [g4], fun σ'' hx k a b e1 e2 => ?_⟩
      cases k with
      | zero => simp at e1 e2; subst e1; subst e2; exact h4 _ (g2.trans hx)
      | succ k => simp at e1 e2; exact g5 σ'' hx k a b e1 e2
theorem denL_get_inv {cs : List SV} {k : Nat} {c : AV} (h : (SV.denL cs)[k]? = some c) : ∃ y, cs[k]? = some y ∧ c = y.den := by
  rw [denL_getElem] at h
  cases hc : cs[k]? with
  | none => rw [hc] at h; cases h
  | some y => rw [hc] at h; cases h; exact ⟨y, rfl, rfl⟩
theorem turns_row {m : Nat} {σ : Sg} {xs ys : List SV} {S : Nat → Prop} {w : World} {ρ : Names} {vs : Array Value} (hl : xs.length = ys.length) (h : ∀ (k : Nat) x y, xs[k]? = some x → ys[k]? = some y → Turns m σ x y)
    (hr : RelCs S w ρ (SV.denL xs) vs) : RelCs S w (renS m σ ρ) (SV.denL ys) vs := by
  refine ⟨by rw [hr.1, denL_length, denL_length, hl], fun k c v e1 e2 => ?_⟩
  obtain ⟨y, e3, rfl⟩ := denL_get_inv e1
  have hk : k < xs.length := by rw [hl]; exact (List.getElem?_eq_some_iff.1 e3).1
  have hx : xs[k]? = some xs[k] := by simp
  exact h k _ _ hx e3 _ _ _ _ (hr.2 k _ v (by rw [denL_getElem, hx]; rfl) e2)

theorem fit2_ok (m : Nat) : FitOK m (fit2 m) := by
  intro x y σ K h hf
  unfold fit2 at h
  split at h
  · split at h
    · obtain ⟨σ', h1, h2, h3, h4, h5⟩ := fitRow_ok (fit1_ok m) _ _ _ _ h hf
      refine ⟨σ', h1, h2, h3, fun σ'' hx S w ρ v hv => ?_⟩
      obtain ⟨vs, rfl, g1, g2⟩ := hv.agg_inv
      obtain ⟨e1, e2⟩ := turns_row h4 (h5 σ'' hx) ⟨g1, g2⟩
      exact .agg e1 e2
    · exact h.elim
  · split at h
    · split at h
      · rename_i hb
        have := beq_true hb
        subst this
        obtain ⟨σ1, h1, h2, h3, h4, h5⟩ := fitRow_ok (fit1_ok m) _ _ _ _ h hf
        obtain ⟨σ2, g1, g2, g3, g4, g5⟩ := fitRow_ok (fit1_ok m) _ _ _ _ h1 h3
        refine ⟨σ2, g1, h2.trans g2, g3, fun σ'' hx S w ρ v hv => ?_⟩
        obtain ⟨us, vs, rfl, a1, a2, a3, a4⟩ := hv.fn_inv
        obtain ⟨e1, e2⟩ := turns_row h4 (h5 σ'' (g2.trans hx)) ⟨a1, a2⟩
        obtain ⟨e3, e4⟩ := turns_row g4 (g5 σ'' hx) ⟨a3, a4⟩
        exact .fn e1 e2 e3 e4
      · exact h.elim
    · exact h.elim
  · exact fit1_ok m _ _ _ _ h hf

theorem fitA_ok {m : Nat} {A : SSlots} : ∀ (A' : SSlots) (σ : Sg) (K : Sg → Prop), fitA m A A' σ K → Fair m σ → ∃ σ', K σ' ∧ Ext σ σ' ∧ Fair m σ' ∧ ∀ σ'', Ext σ' σ'' → ∀ p ∈ A', Turns m σ'' (getS A p.1) p.2 := by
  intro A'
  induction A' with
  | nil => intro σ K h hf; exact ⟨σ, h, .refl _, hf, fun _ _ p hp => by cases hp⟩
  | cons p A' ih =>
    intro σ K h hf
    obtain ⟨σ1, h1, h2, h3, h4⟩ := fit2_ok m _ _ _ _ h hf
    obtain ⟨σ2, g1, g2, g3, g4⟩ := ih σ1 K h1 h3
    refine ⟨σ2, g1, h2.trans g2, g3, fun σ'' hx q hq => ?_⟩
    rcases List.mem_cons.1 hq with rfl | hq
    · exact h4 _ (g2.trans hx)
    · exact g4 _ hx q hq

def TurnsB (m : Nat) (σ : Sg) (x y : SBlk) : Prop := (y.den.live = true → x.den.live = true) ∧ ∀ S w ρ o, BlkRel S w ρ o x.den → BlkRel S w (renS m σ ρ) o y.den
theorem fitB_ok {m : Nat} {x y : SBlk} {σ : Sg} {K : Sg → Prop} (h : fitB m x y σ K) (hf : Fair m σ) : ∃ σ', K σ' ∧ Ext σ σ' ∧ Fair m σ' ∧ ∀ σ'', Ext σ' σ'' → TurnsB m σ'' x y := by
  unfold fitB at h
  split at h
  · exact ⟨σ, h, .refl _, hf, fun σ'' _ => ⟨fun e => (by cases e), fun _ _ _ _ _ => trivial⟩⟩
  · split at h
    · obtain ⟨σ', h1, h2, h3, h4, h5⟩ := fitRow_ok (fit2_ok m) _ _ _ _ h hf
      refine ⟨σ', h1, h2, h3, fun σ'' hx => ⟨fun _ => rfl, fun S w ρ o hb => ?_⟩⟩
      obtain ⟨n, vs, T, rfl, g1, g2, g3⟩ := hb
      obtain ⟨e1, e2⟩ := turns_row h4 (h5 σ'' hx) ⟨g2, g3⟩
      exact ⟨n, vs, T, rfl, g1, e1, e2⟩
    · exact h.elim
  · split at h
    · split at h
      · rename_i hs
        have := beq_true hs
        subst this
        obtain ⟨rfl, hr, h⟩ := h
        refine ⟨σ, h, .refl _, hf, fun σ'' hx => ⟨fun _ => rfl, fun S w ρ o hb => ?_⟩⟩
        exact (Blk.le.row (rows_le (fun k hk => leRow_ok leA_ok _ _ (hr k hk)))).2 _ _ _ _ (show BlkRel S w (renS m σ'' ρ) o (Blk.row _ _) from hb)
      · exact h.elim
    · exact h.elim

theorem fitH_ok {m : Nat} {H : SBlks} : ∀ (H' : SBlks) (σ : Sg) (K : Sg → Prop), fitH m H H' σ K → Fair m σ → ∃ σ', K σ' ∧ Ext σ σ' ∧ Fair m σ' ∧ ∀ σ'', Ext σ' σ'' → ∀ p ∈ H',
    (∃ i c, (p.1 < m ∧ i = p.1 ∨ m ≤ p.1 ∧ sgAt σ'' p.1 = some (some i)) ∧ getB H i = some c ∧ TurnsB m σ'' c p.2) ∨ (m ≤ p.1 ∧ sgAt σ'' p.1 = some none ∧ ∃ sz f, 0 < sz ∧ p.2 = .row sz 0 f) := by
  intro H'
  induction H' with
  | nil => intro σ K h hf; exact ⟨σ, h, .refl _, hf, fun _ _ p hp => by cases hp⟩
  | cons p H' ih =>
    intro σ K h hf
    have go : ∀ (i : Nat) (c : SBlk), getB H i = some c → (p.1 < m ∧ i = p.1 ∨ m ≤ p.1 ∧ sgAt σ p.1 = some (some i)) → (fitB m c p.2 σ fun σ => fitH m H H' σ K) → ∃ σ', K σ' ∧ Ext σ σ' ∧ Fair m σ' ∧ ∀ σ'', Ext σ' σ'' → ∀ q ∈ p :: H',
        (∃ i c, (q.1 < m ∧ i = q.1 ∨ m ≤ q.1 ∧ sgAt σ'' q.1 = some (some i)) ∧ getB H i = some c ∧ TurnsB m σ'' c q.2) ∨ (m ≤ q.1 ∧ sgAt σ'' q.1 = some none ∧ ∃ sz f, 0 < sz ∧ q.2 = .row sz 0 f) := by
      intro i c hc hi hb
      obtain ⟨σ1, h1, h2, h3, h4⟩ := fitB_ok hb hf
      obtain ⟨σ2, g1, g2, g3, g4⟩ := ih σ1 K h1 h3
      refine ⟨σ2, g1, h2.trans g2, g3, fun σ'' hx q hq => ?_⟩
      rcases List.mem_cons.1 hq with rfl | hq
      · exact .inl ⟨i, c, hi.imp id (fun e => ⟨e.1, (h2.trans (g2.trans hx)) _ _ e.2⟩), hc, h4 _ (g2.trans hx)⟩
      · exact g4 _ hx q hq
    simp only [fitH] at h
    split at h
    · rename_i hj
      split at h
      · rename_i c hc; exact go _ c hc (.inl ⟨blt_true hj, rfl⟩) h
      · exact h.elim
    · rename_i hj
      split at h
      · rename_i i hi
        split at h
        · rename_i c hc; exact go i c hc (.inr ⟨blt_false hj, hi⟩) h
        · exact h.elim
      · rename_i hi
        split at h
        · rename_i sz n f hb
          split at h
          · rename_i hs
            obtain ⟨rfl, h⟩ := h
            obtain ⟨σ2, g1, g2, g3, g4⟩ := ih σ K h hf
            refine ⟨σ2, g1, g2, g3, fun σ'' hx q hq => ?_⟩
            rcases List.mem_cons.1 hq with rfl | hq
            · exact .inr ⟨blt_false hj, (g2.trans hx) _ _ hi, sz, f, blt_true hs, hb⟩
            · exact g4 _ hx q hq
          · exact h.elim
        · exact h.elim
      · exact h.elim

theorem getB_mem {H : SBlks} {j : Nat} {b : SBlk} (h : getB H j = some b) : (j, b) ∈ H := by
  induction H with
  | nil => cases h
  | cons p H ih =>
    simp only [getB] at h
    split at h
    · rename_i e; cases h; rw [← beq_true e]; simp
    · exact List.mem_cons_of_mem _ (ih h)
theorem getS_mem {A : SSlots} {t : Nat} : getS A t = .top ∨ (t, getS A t) ∈ A := by
  induction A with
  | nil => exact .inl rfl
  | cons p A ih =>
    simp only [getS]
    split
    · rename_i e; exact .inr (by rw [← beq_true e]; simp)
    · exact ih.imp id (fun h => List.mem_cons_of_mem _ h)
theorem denH_inv {H : SBlks} {j : Nat} {k : Blk} (h : getH (denB H) j = some k) : ∃ b, getB H j = some b ∧ k = b.den := by
  rw [getH_den, denH] at h
  cases hb : getB H j with
  | none => rw [hb] at h; cases h
  | some b => rw [hb] at h; cases h; exact ⟨b, rfl, rfl⟩

theorem fit_ok {C : Ctx} {N m : Nat} {ρ : Names} {S : Nat → Prop} {A A' : SSlots} {H H' : SBlks} {nx n' : Nat} {a : Act} {w : World} (h0 : ∀ i, m ≤ i → C.ρ0 i = none)
    (hr : Rep C N ρ S (getA (denA A)) (getH (denB H)) (fun i => nx ≤ i) a w) (h : fit N m A H A' H' n') :
    ∃ ρ', Rep C N ρ' S (getA (denA A')) (getH (denB H')) (fun i => n' ≤ i) a w ∧ ∀ t, N ≤ t → getA (denA A') t = .top := by
  obtain ⟨σ1, h1, -, h3, h4⟩ := fitA_ok _ _ _ h ⟨fun j j' i e => (by cases e), fun j i e => (by cases e)⟩
  obtain ⟨σ, g1, g2, g3, g4⟩ := fitH_ok _ _ _ h1 h3
  have hA := h4 σ g2
  have hH := g4 σ (.refl _)
  split at g1
  · rename_i hck
    simp only [Bool.and_eq_true] at hck
    obtain ⟨⟨⟨c1, c2⟩, c3⟩, c4⟩ := hck
    have c4 := Nat.le_of_ble_eq_true c4
    have hσ : ∀ j v, sgAt σ j = some v → j < n' := fun j v e => blt_true (List.all_eq_true.1 c1 _ (sgAt_mem e))
    have hB : ∀ j b, getB H' j = some b → j < n' := fun j b e => blt_true (List.all_eq_true.1 c2 _ (getB_mem e))
    -- where a new name comes from
    have src : ∀ j b, renS m σ ρ j = some b → ∃ i, ρ i = some b ∧ (j < m ∧ i = j ∨ m ≤ j ∧ m ≤ i ∧ sgAt σ j = some (some i)) := fun j b e => by
      unfold renS at e
      split at e
      · rename_i hj; exact ⟨j, e, .inl ⟨hj, rfl⟩⟩
      · rename_i hj
        split at e
        · rename_i i hi; exact ⟨i, e, .inr ⟨Nat.not_lt.1 hj, g3.low _ _ hi, hi⟩⟩
        · cases e
    have blk : ∀ j k, getH (denB H') j = some k → (∃ i x, getH (denB H) i = some x ∧ renS m σ ρ j = ρ i ∧ (k.live = true → x.live = true) ∧ ((j < m ∧ i = j) ∨ (m ≤ j ∧ m ≤ i ∧ sgAt σ j = some (some i))) ∧ (∀ S w o, BlkRel S w ρ o x → BlkRel S w (renS m σ ρ) o k)) ∨
        (m ≤ j ∧ renS m σ ρ j = none ∧ ∃ sz, 0 < sz ∧ k = .row sz []) := fun j k e => by
      obtain ⟨b, hb, rfl⟩ := denH_inv e
      rcases hH _ (getB_mem hb) with ⟨i, c, hi, hc, ht1, ht2⟩ | ⟨h5, h6, sz, f, h7, h8⟩
      · refine .inl ⟨i, c.den, by rw [getH_den]; exact denH_some hc, ?_, ht1, hi.imp id (fun e => ⟨e.1, g3.low _ _ e.2, e.2⟩), fun S w o => ht2 S w ρ o⟩
        rcases hi with ⟨h5, rfl⟩ | ⟨h5, h6⟩
        · simp only at h5; simp [renS, h5]
        · simp only at h5 h6; simp [renS, Nat.not_lt.2 h5, h6]
      · simp only at h5 h6 h8
        exact .inr ⟨h5, by simp [renS, Nat.not_lt.2 h5, h6], sz, h7, by rw [h8]; simp [SBlk.den, rowsOf]⟩
    have same : ∀ i j i' j', ((j < m ∧ i = j) ∨ (m ≤ j ∧ m ≤ i ∧ sgAt σ j = some (some i))) → ((j' < m ∧ i' = j') ∨ (m ≤ j' ∧ m ≤ i' ∧ sgAt σ j' = some (some i'))) → i = i' → j = j' := fun i j i' j' a b e => by
      rcases a with ⟨a1, a2⟩ | ⟨a1, a2, a3⟩ <;> rcases b with ⟨b1, b2⟩ | ⟨b1, b2, b3⟩
      · omega
      · omega
      · omega
      · subst e; exact g3.inj _ _ _ a3 b3
    refine ⟨renS m σ ρ, ⟨⟨hr.mem.size, hr.mem.shape, hr.mem.old, fun i b e => ?_, hr.mem.s0, hr.mem.snew, hr.mem.sin, fun i b e => ?_, fun j k b e hl e' => ?_, fun j j' k l b e1 l1 e2 l2 r1 r2 => ?_, fun j k e => ?_, fun j hj => ?_, hr.mem.keep⟩, hr.size, fun t v e => ?_, hr.marks, hr.dk⟩, fun t ht => ?_⟩
    · rcases Nat.lt_or_ge i m with hi | hi
      · simp only [renS, hi, if_true]; exact hr.mem.ent i b e
      · rw [h0 i hi] at e; cases e
    · obtain ⟨j, hj, -⟩ := src i b e
      exact hr.mem.rin j b hj
    · rcases blk j k e with ⟨i, x, hx, hren, hlive, -, -⟩ | ⟨-, hnone, -⟩
      · exact hr.mem.own i x b hx (hlive hl) (by rw [← hren]; exact e')
      · rw [hnone] at e'; cases e'
    · rcases blk j k e1 with ⟨i, x, hx, hren, hlive, hs, -⟩ | ⟨-, hnone, -⟩
      · rcases blk j' l e2 with ⟨i', x', hx', hren', hlive', hs', -⟩ | ⟨-, hnone, -⟩
        · exact same _ _ _ _ hs hs' (hr.mem.inj i i' x x' b hx (hlive l1) hx' (hlive' l2) (by rw [← hren]; exact r1) (by rw [← hren']; exact r2))
        · rw [hnone] at r2; cases r2
      · rw [hnone] at r1; cases r1
    · rcases blk j k e with ⟨i, x, hx, hren, hlive, -, ht⟩ | ⟨-, hnone, sz, h5, rfl⟩
      · rw [hren]; exact ht _ _ _ (hr.mem.blk i x hx)
      · rw [hnone]; exact ⟨h5, fun k cs e => by simp at e, .inl ⟨rfl, rfl⟩⟩
    · constructor
      · cases hb : getH (denB H') j with
        | none => rfl
        | some k =>
          obtain ⟨b, hb', -⟩ := denH_inv hb
          have := hB j b hb'
          omega
      · have hjm : ¬ j < m := by omega
        simp only [renS, hjm, if_false]
        cases hs : sgAt σ j with
        | none => rfl
        | some v => have := hσ j v hs; omega
    · have hv := hr.slots t v e
      rw [getA_den] at hv ⊢
      rcases getS_mem (A := A') (t := t) with e' | e'
      · rw [e']; exact .top v
      · exact hA _ e' _ _ _ _ hv
    · rw [getA_den]
      rcases getS_mem (A := A') (t := t) with e' | e'
      · rw [e']; rfl
      · have := blt_true (List.all_eq_true.1 c3 _ e')
        simp only at this
        omega
  · exact g1.elim

end Go.Proofs.Ytkklmkogdogbkaa.Sep
