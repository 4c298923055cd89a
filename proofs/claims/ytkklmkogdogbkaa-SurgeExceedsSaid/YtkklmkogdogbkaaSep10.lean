/-
  The small calculus, tenth part: contracts of functions, and a call by contract. No condition. (This text proves no statement by itself.)
-/
import Derived.Test.YtkklmkogdogbkaaSep9
namespace Go.Proofs.Ytkklmkogdogbkaa.Sep
open Go
set_option linter.unusedVariables false
set_option linter.unusedSimpArgs false

/-- A call of f enters f. -/
def Ent (P : Program) (f : FuncId) : Prop := ∀ args w, (callFunc f args).run P w = .ok (.enter f args) w

theorem Ent.of {P : Program} {f : FuncId} {fn : Func} (hf : P.funcs[f]? = some fn) (hn : (fn.name == "runtime.NumGoroutine") = false) (hb : fn.body.isNone = false) : Ent P f := fun args w => by
  simp only [callFunc, Sem.run_bind, run_program, Result.andThen_ok, hf, hn, hb, Bool.false_eq_true, if_false, Sem.run_pure]

/-- THE CONTRACT OF A FUNCTION: its arguments, the blocks of the caller's that it may read and write, what it hands back, and these blocks behind it, with new ones. -/
def Spec (P : Program) (f : FuncId) (xs : List AV) (Hs : List Blk) (r : AV) (Hs' : List Blk) : Prop :=
  Ent P f ∧ Hs.length ≤ Hs'.length ∧ ∀ (ρ0 : Names) (S : Nat → Prop) (w : World) (vs : Array Value), Mem (Ctx.of w ρ0 S) ρ0 S (Hs[·]?) (fun i => Hs.length ≤ i) w → RelCs S w ρ0 xs vs →
    Calls P f vs w fun e w' => ∃ v, e = .returned v ∧ ∃ ρ' S', Mem (Ctx.of w ρ0 S) ρ' S' (Hs'[·]?) (fun i => Hs'.length ≤ i) w' ∧ Rel S' w' ρ' r v

abbrev Pure (P : Program) (f : FuncId) (xs : List AV) (r : AV) : Prop := Spec P f xs [] r []

mutual
def AV.flat : AV → Bool
  | .lit _ => true
  | .agg cs => AV.flatL cs
  | .tup cs => AV.flatL cs
  | .vsl _ [] => true
  | _ => false
def AV.flatL : List AV → Bool
  | [] => true
  | c :: cs => c.flat && AV.flatL cs
end

theorem flatL_get {cs : List AV} (h : AV.flatL cs = true) {k : Nat} {c : AV} (hk : cs[k]? = some c) : c.flat = true := by
  induction cs generalizing k with
  | nil => simp at hk
  | cons x cs ih =>
    simp [AV.flatL] at h
    cases k with
    | zero => simp at hk; subst hk; exact h.1
    | succ k => simp at hk; exact ih h.2 hk

theorem Rel.flat {S S' : Nat → Prop} {w w' : World} {ρ ρ' : Names} {x : AV} {v : Value} (h : Rel S w ρ x v) (hf : x.flat = true) : Rel S' w' ρ' x v := by
  induction h with
  | lit v => exact .lit v
  | agg hl h ih => simp only [AV.flat] at hf; exact .agg hl (fun k c v h1 h2 => ih k c v h1 h2 (flatL_get hf h1))
  | tup hl h ih => simp only [AV.flat] at hf; exact .tup hl (fun k c v h1 h2 => ih k c v h1 h2 (flatL_get hf h1))
  | vslNil => exact .vslNil
  | vsl vs hc hS hz hv hr =>
    rename_i xs _
    cases xs with
    | nil => exact .vslNil
    | cons x xs => simp [AV.flat] at hf
  | _ => simp [AV.flat] at hf

/-- Blocks of our own handed on to be read alone. -/
inductive Coe (H : Nat → Option Blk) (Z : List Nat) : AV → AV → Prop
  | refl {a : AV} : Coe H Z a a
  | nil {sz : Nat} : Coe H Z (.lit (.slice none 0 0)) (.vsl sz [])
  | vec {i sz lo n : Nat} {xs : List (List AV)} (h : H i = some (.row sz xs)) (hn : lo + n ≤ xs.length) (hi : i ∈ Z) : Coe H Z (.vec i sz lo n) (.vsl sz ((xs.drop lo).take n))
  | ptr {i off : Nat} {cs : List AV} (h : H i = some (.cells cs)) (hc : ∀ c ∈ cs, c.closed = true) (hi : i ∈ Z) : Coe H Z (.ptr i off) (.vptr cs.length [cs] 0 off)
  | agg {as bs : List AV} (hl : as.length = bs.length) (h : ∀ (k : Nat) a b, as[k]? = some a → bs[k]? = some b → Coe H Z a b) : Coe H Z (.agg as) (.agg bs)
  | tup {as bs : List AV} (hl : as.length = bs.length) (h : ∀ (k : Nat) a b, as[k]? = some a → bs[k]? = some b → Coe H Z a b) : Coe H Z (.tup as) (.tup bs)
  | fn {f : Fn} {as bs cs ds : List AV} (hl : as.length = bs.length) (h : ∀ (k : Nat) a b, as[k]? = some a → bs[k]? = some b → Coe H Z a b) (hl' : cs.length = ds.length) (h' : ∀ (k : Nat) a b, cs[k]? = some a → ds[k]? = some b → Coe H Z a b) : Coe H Z (.fn f as cs) (.fn f bs ds)

def frozenS (S : Nat → Prop) (ρ : Names) (Z : List Nat) : Nat → Prop := fun b => S b ∨ ∃ i ∈ Z, ρ i = some b

theorem Coe.rel {C : Ctx} {ρ : Names} {S : Nat → Prop} {H : Nat → Option Blk} {nx : Nat → Prop} {w : World} {Z : List Nat} (hm : Mem C ρ S H nx w) {a b : AV} (h : Coe H Z a b) : ∀ {v : Value}, Rel S w ρ a v → Rel (frozenS S ρ Z) w ρ b v := by
  have hup : ∀ {x v ρ}, Rel S w ρ x v → Rel (frozenS S ρ Z) w ρ x v := fun h => h.mono (Kept.refl S w) (fun _ e => .inl e) (Names.le.refl _)
  induction h with
  | refl => intro v hv; exact hup hv
  | nil => intro v hv; obtain rfl := hv.lit_inv; exact .vslNil
  | vec h hn hi =>
    intro v hv
    rename_i i sz lo n xs
    obtain ⟨hpos, hz, hblk⟩ := hm.blk i _ h
    rcases hv.vec_inv with ⟨a, rfl, rfl⟩ | ⟨b, T, m, cap, hb, hsh, hcap, hl, rfl⟩
    · simp only [List.take_zero]; exact .vslNil
    · rcases hblk with ⟨h1, -⟩ | ⟨n', vs, T', hn', hheap, hrel⟩
      · rw [hb] at h1; cases h1
      rw [hb] at hn'; cases hn'
      have hlen : ((xs.drop lo).take n).length = n := by simp; omega
      have hget : ∀ (k : Nat) cs, ((xs.drop lo).take n)[k]? = some cs → xs[lo + k]? = some cs := fun k cs h => by
        rw [List.getElem?_take, List.getElem?_drop] at h
        split at h
        · exact h
        · cases h
      have key : ∀ (k j : Nat) cs c, ((xs.drop lo).take n)[k]? = some cs → cs[j]? = some c → w.cell? ⟨b, lo * sz + k * sz + j, none⟩ = some (vs.getD (lo * sz + k * sz + j) undef) ∧ Rel S w noNames c (vs.getD (lo * sz + k * sz + j) undef) := fun k j cs c h1 h2 => by
        obtain ⟨v, hv, hr⟩ := hrel _ _ _ _ (hget k cs h1) h2
        rw [Nat.add_mul] at hv
        rw [cell_of_heap hheap]
        simp [hv, hr]
      have := Rel.vsl (S := frozenS S ρ Z) (w := w) (ρ := ρ) (sz := sz) (b := b) (off := lo * sz) (cap := cap) (xs := (xs.drop lo).take n) (fun k j => vs.getD (lo * sz + k * sz + j) undef) (by omega) (.inr ⟨i, hi, hb⟩)
        (fun k cs h => hz _ _ (hget k cs h)) (fun k j cs c h1 h2 => (key k j cs c h1 h2).1) (fun k j cs c h1 h2 => (key k j cs c h1 h2).2.mono (Kept.refl S w) (fun _ e => .inl e) (Names.le.refl _))
      rw [hlen] at this
      exact this
  | ptr h hc hi =>
    intro v hv
    rename_i i off cs
    obtain ⟨b, hb, rfl⟩ := hv.ptr_inv
    obtain ⟨n, vs, T, hn, hheap, hl, hrel⟩ := hm.blk i _ h
    rw [hb] at hn; cases hn
    refine vptr' (b := b) (off := 0) (fun _ j => vs.getD j undef) (.inr ⟨i, hi, hb⟩) (fun k cs' h => ?_) (fun k j cs' c h1 h2 => ?_) (fun k j cs' c h1 h2 => ?_) (by omega)
    · cases k with
      | zero => simp at h; rw [h]
      | succ k => simp at h
    · cases k with
      | succ k => simp at h1
      | zero =>
        simp at h1
        subst h1
        have hlt : j < vs.size := by rw [hl]; exact (List.getElem?_eq_some_iff.1 h2).1
        rw [cell_of_heap hheap]; simp [hlt]
    · cases k with
      | succ k => simp at h1
      | zero =>
        simp at h1
        subst h1
        have hlt : j < vs.size := by rw [hl]; exact (List.getElem?_eq_some_iff.1 h2).1
        have := (hrel j c vs[j] h2 (by simp [hlt])).closed (hc c (List.mem_of_getElem? h2))
        simpa [hlt] using this.mono (Kept.refl S w) (fun _ e => .inl e) (Names.le.refl _)
  | agg hl h ih =>
    intro v hv
    obtain ⟨vs, rfl, hl', hh⟩ := hv.agg_inv
    refine .agg (by omega) (fun k c u h1 h2 => ?_)
    have hk := (List.getElem?_eq_some_iff.1 h1).1
    rename_i as bs
    have ha : as[k]? = some as[k] := by simp
    exact ih k _ c ha h1 (hh k _ u ha h2)
  | tup hl h ih =>
    intro v hv
    obtain ⟨vs, rfl, hl', hh⟩ := hv.tup_inv
    refine .tup (by omega) (fun k c u h1 h2 => ?_)
    have hk := (List.getElem?_eq_some_iff.1 h1).1
    rename_i as bs
    have ha : as[k]? = some as[k] := by simp
    exact ih k _ c ha h1 (hh k _ u ha h2)
  | fn hl h hl' h' ih ih' =>
    intro v hv
    obtain ⟨ys, vs, rfl, g1, g2, g3, g4⟩ := hv.fn_inv
    rename_i as bs cs ds
    refine .fn (by omega) (fun k c u h1 h2 => ?_) (by omega) (fun k c u h1 h2 => ?_)
    · have hk := (List.getElem?_eq_some_iff.1 h1).1
      have ha : as[k]? = some as[k] := by simp
      exact ih k _ c ha h1 (g2 k _ u ha h2)
    · have hk := (List.getElem?_eq_some_iff.1 h1).1
      have ha : cs[k]? = some cs[k] := by simp
      exact ih' k _ c ha h1 (g4 k _ u ha h2)

/-- What an operation leaves behind. -/
def SG (C : Ctx) (ρ : Names) (S : Nat → Prop) (H : Nat → Option Blk) (nx : Nat → Prop) (w : World) (out : Out) (id : Nat) (v : Value) (w' : World) : Prop :=
  ∃ ρ' S', ρ.le ρ' ∧ (∀ b, S b → S' b) ∧ Kept S w w' ∧ Mem C ρ' S' (out.wr.foldl (fun H p => updH H p.1 p.2) H) (fun i => nx i ∧ ¬ (id ≤ i ∧ i < id + 8)) w' ∧ Rel S' w' ρ' out.val v ∧
    (∀ n : Nat, w.heap[n]? = some (.deferred (some [])) → w'.heap[n]? = some (.deferred (some [])))

theorem Good.sg {C : Ctx} {ρ : Names} {S : Nat → Prop} {H : Nat → Option Blk} {nx : Nat → Prop} {w : World} {out : Out} {id : Nat} {r : Result Next} (h : Good C ρ S H nx w out id r) :
    ∃ v w', (r = .ok (.value v) w' ∨ (r = .ok .skip w' ∧ v = undef)) ∧ SG C ρ S H nx w out id v w' := by
  obtain ⟨ρ', v, w', h1, h2, h3, h4, h5, h6⟩ := h
  exact ⟨v, w', h1, ρ', S, h2, fun _ e => e, h3, h4.less (fun i hi => ⟨hi.1, fun e => by have := hi.2; subst e; exact this ⟨Nat.le_refl _, by omega⟩⟩), h5, h6⟩

/-- A CALL BY CONTRACT of a function that writes nothing of ours and hands back no block to own. -/
theorem pure_call {C : Ctx} {ρ : Names} {S : Nat → Prop} {H : Nat → Option Blk} {nx : Nat → Prop} {w : World} {P : Program} {f : FuncId} {as xs : List AV} {res : AV} {Z : List Nat} {id : Nat} {vs : Array Value}
    (hs : Pure P f xs res) (hm : Mem C ρ S H nx w) (has : RelCs S w ρ as vs) (hl : as.length = xs.length) (hc : ∀ (k : Nat) a x, as[k]? = some a → xs[k]? = some x → Coe H Z a x) (hx : ∀ x ∈ xs, ∀ v, Rel (frozenS S ρ Z) w ρ x v → Rel (frozenS S ρ Z) w noNames x v)
    (hz : Z = [] ∨ res.flat = true) : Calls P f vs w fun e w' => ∃ v, e = .returned v ∧ SG C ρ S H nx w { cond := True, val := res, ri := Z } id v w' := by
  obtain ⟨-, -, hs⟩ := hs
  have hargs : RelCs (frozenS S ρ Z) w noNames xs vs := by
    refine ⟨by rw [has.1, hl], fun k c v h1 h2 => ?_⟩
    have hk := (List.getElem?_eq_some_iff.1 h1).1
    have ha : as[k]? = some as[k] := by simp
    exact hx c (List.mem_of_getElem? h1) v ((hc k _ c ha h1).rel hm (has.2 k _ v ha h2))
  have hmem : Mem (Ctx.of w noNames (frozenS S ρ Z)) noNames (frozenS S ρ Z) (([] : List Blk)[·]?) (fun i => ([] : List Blk).length ≤ i) w := by
    refine ⟨Nat.le_refl _, fun _ _ e => e, fun _ _ _ => rfl, Names.le.refl _, fun _ e => e, fun _ e => .inl e, fun b hb => ?_, fun i b e => (by cases e), fun i k b e => (by simp at e), fun i j k l b e => (by simp at e), fun i k e => (by simp at e), fun i _ => ⟨by simp, rfl⟩, fun _ _ _ _ _ e => e⟩
    rcases hb with hb | ⟨i, -, hi⟩
    · exact hm.sin b hb
    · exact (hm.rin i b hi).1
  refine (hs noNames (frozenS S ρ Z) w vs hmem hargs).mono ?_
  rintro e w' ⟨v, rfl, ρ', S', hm', hr⟩
  have hρ' : ∀ i, ρ' i = none := fun i => (hm'.free i (by simp)).2
  have hr0 : Rel S' w' noNames res v := hr.mono (Kept.refl S' w') (fun _ e => e) (fun i b e => by rw [hρ' i] at e; cases e)
  have hsame : ∀ b, b < w.heap.size → w'.heap[b]? = w.heap[b]? := fun b hb => hm'.old b hb (fun ⟨j, h⟩ => by cases h)
  have hnew : ∀ b, S' b → frozenS S ρ Z b ∨ w.heap.size ≤ b := fun b hb => by
    rcases hm'.snew b hb with h | h | ⟨j, h⟩
    · exact .inl h
    · exact .inr h
    · cases h
  refine ⟨v, rfl, ρ, fun b => S b ∨ (Z = [] ∧ S' b), Names.le.refl _, fun _ e => .inl e, .of hm'.size hm'.shape (fun b hb => hsame b (hm.sin b hb)), ?_, ?_, fun n e => ?_⟩
  · refine (hm.step (fun _ => False) hm'.size hm'.shape (fun b hb _ => hsame b hb) (fun _ e => e.elim) (Names.le.refl _) (fun i b e => .inl ⟨i, e⟩) (fun _ e => .inl e) (fun b hb => ?_) (fun i k e => .inl ⟨e, fun b e' => ⟨e', fun x => x⟩⟩) (fun i k b e hl' e' hb => ?_) hm.inj hm.free).less (fun i hi => hi.1)
    · rcases hb with hb | ⟨hz0, hb⟩
      · exact .inl hb
      · rcases hnew b hb with h | h
        · rcases h with h | ⟨i, hi, -⟩
          · exact .inl h
          · rw [hz0] at hi; cases hi
        · exact .inr ⟨.inl (Nat.le_trans hm.size h), hm'.sin b hb⟩
    · rcases hb with hb | ⟨hz0, hb⟩
      · exact hm.own i k b e hl' e' hb
      · rcases hnew b hb with h | h
        · rcases h with h | ⟨j, hj, -⟩
          · exact hm.own i k b e hl' e' h
          · rw [hz0] at hj; cases hj
        · have := (hm.rin i b e').1; omega
  · rcases hz with hz | hf
    · exact hr0.mono (Kept.refl S' w') (fun b hb => .inr ⟨hz, hb⟩) (fun _ _ e => by cases e)
    · exact hr0.flat hf
  · rw [hsame n (Array.getElem?_eq_some_iff.1 e).1]; exact e

end Go.Proofs.Ytkklmkogdogbkaa.Sep
