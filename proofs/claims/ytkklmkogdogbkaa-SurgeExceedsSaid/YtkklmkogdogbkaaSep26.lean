/-
  The small calculus, twenty-sixth part: a range over a function may be passed as it is told. No condition. (This text proves no statement by itself.)
-/
import Derived.Test.YtkklmkogdogbkaaSep25
namespace Go.Proofs.Ytkklmkogdogbkaa.Sep
open Go
set_option linter.unusedVariables false
set_option linter.unusedSimpArgs false

section
variable {C C' : Ctx} {ρ : Names} {S : Nat → Prop} {H : Nat → Option Blk} {nx : Nat → Prop} {w : World}
theorem Ctx.Le.thru (h : C.Le C') (hm : Mem C' ρ S H nx w) {c : Nat} (hc : c < C.w0.heap.size) (hx : C.X c) (ho : ¬ C.O c) : C'.X c ∧ ¬ C'.O c ∧ c < C'.w0.heap.size ∧ w.heap[c]? = C.w0.heap[c]? := by
  obtain ⟨h1, h2⟩ := h.same c hc hx ho
  have h3 := Nat.lt_of_lt_of_le hc h.size
  exact ⟨h.x c hx, h1, h3, (hm.old c h3 h1).trans h2⟩
theorem Ctx.Le.far (h : C.Le C') {b : Nat} (e : C'.O b ∨ C'.w0.heap.size ≤ b) : C.O b ∨ C.w0.heap.size ≤ b := by
  rcases e with e | e
  · exact h.o b e
  · exact .inr (Nat.le_trans h.size e)
theorem Ctx.Le.snew (h : C.Le C') (hm : Mem C' ρ S H nx w) {b : Nat} (e : S b) : C.S0 b ∨ (C.O b ∨ C.w0.heap.size ≤ b) := by
  rcases hm.snew b e with h1 | h1 | h1
  · rcases h.s1 b h1 with h2 | h2 | h2
    · exact .inl h2
    · exact .inr (.inr h2)
    · exact .inr (.inl h2)
  · exact .inr (h.far (.inr h1))
  · exact .inr (h.far (.inl h1))
theorem Ctx.Le.cells (h : C.Le C') (hm : Mem C' ρ S H nx w) {b : Nat} {vs : Array Value} {T : TypeId} {fz : Nat × Nat} (e : C.S0 b) (e' : C.w0.heap[b]? = some (.cells vs T fz)) : w.heap[b]? = some (.cells vs T fz) :=
  hm.keep b vs T fz (h.s0 b e) (h.keep b vs T fz e e')

/-- The record of a loop is turned. -/
theorem Mem.turned (h : Mem C ρ S H nx w) (hox : ∀ b, C.O b → C.X b) {l : Nat} {r r' : Loop} (hx : C.X l) (ho : ¬ C.O l) (hl : l < C.w0.heap.size) (hr : w.heap[l]? = some (.loop r)) (ρ0 : Names) (hρ : ρ0.le ρ) :
    Mem ⟨w.putObj l (.loop r'), ρ0, S, fun b => (C.O b ∨ C.w0.heap.size ≤ b) ∧ b < w.heap.size, fun b => C.X b ∨ (C.w0.heap.size ≤ b ∧ b < w.heap.size)⟩ ρ S H nx (w.putObj l (.loop r')) ∧ Kept S w (w.putObj l (.loop r')) ∧
      C.Re ⟨w.putObj l (.loop r'), ρ0, S, fun b => (C.O b ∨ C.w0.heap.size ≤ b) ∧ b < w.heap.size, fun b => C.X b ∨ (C.w0.heap.size ≤ b ∧ b < w.heap.size)⟩ ∧
      (∀ n : Nat, w.heap[n]? = some (.deferred (some [])) → (w.putObj l (.loop r')).heap[n]? = some (.deferred (some []))) ∧ (w.putObj l (.loop r')).heap[l]? = some (.loop r') ∧ (∀ b, b ≠ l → (w.putObj l (.loop r')).heap[b]? = w.heap[b]?) := by
  have hlw : l < w.heap.size := (Array.getElem?_eq_some_iff.1 hr).1
  have hoth : ∀ b, b ≠ l → (w.putObj l (.loop r')).heap[b]? = w.heap[b]? := fun b hb => World.putObj_heap_other hb
  have hsz : (w.putObj l (.loop r')).heap.size = w.heap.size := World.putObj_size
  have hsh : ∀ b s, shp w b = some s → shp (w.putObj l (.loop r')) b = some s := shp_all ⟨rfl, rfl⟩ fun b s e => by
    by_cases hb : b = l
    · subst hb; exact (shape?_not e (fun vs T fz => by rw [hr]; intro e'; cases e')).elim
    · exact shape?_keep (shape?_of_heap (hoth b hb)) e
  have hcl : ∀ (b : Nat) vs T fz, w.heap[b]? = some (.cells vs T fz) → (w.putObj l (.loop r')).heap[b]? = some (.cells vs T fz) := fun b vs T fz e => by
    by_cases hb : b = l
    · subst hb; rw [hr] at e; cases e
    · rw [hoth b hb]; exact e
  have hk : Kept S w (w.putObj l (.loop r')) := ⟨by rw [hsz]; exact Nat.le_refl _, hsh, fun b vs T fz _ e => hcl b vs T fz e⟩
  have hnl : ∀ i b, ρ i = some b → b ≠ l := fun i b e e' => by
    subst e'
    rcases (h.rin i b e).2 with h1 | h1
    · exact ho h1
    · omega
  refine ⟨h.move2 ρ0 S _ _ hρ (fun _ e => e) (fun b e => by rw [hsz]; exact h.sin b e) (fun _ _ _ e => e) (fun i b e => ⟨(h.rin i b e).2, (h.rin i b e).1⟩) hk (fun i b e => hoth b (hnl i b e)), hk, ⟨by rw [hsz]; exact h.size, fun b s e => hsh b s (h.shape b s e), fun b hb hnx => ?_, fun b vs T fz e e' => hcl b vs T fz (h.keep b vs T fz e e'), h.s0, fun b e => by rw [hsz]; exact h.sin b e, fun b e => ?_, fun b e => .inl e, fun b e => ?_, fun b e => ?_⟩, fun n e => ?_, World.putObj_heap_same hlw, hoth⟩
  · exact (hoth b (fun e => hnx (e ▸ hx))).trans (h.old b hb fun e => hnx (hox b e))
  · rcases h.snew b e with h1 | h1 | h1
    · exact .inl h1
    · exact .inr (.inr ⟨h1, h.sin b e⟩)
    · exact .inr (.inl (hox b h1))
  · exact e.imp id fun e => ⟨e.1, by rw [hsz]; exact e.2⟩
  · rcases e.1 with h1 | h1
    · exact .inl (hox b h1)
    · exact .inr ⟨h1, e.2⟩
  · rw [hoth n (fun e' => by subst e'; rw [hr] at e; cases e)]; exact e
end

/-- What holds between two rounds. -/
structure RInv {P : Program} {ys : YS} (Y : YEnv P ys) (id : Nat) (l : RangeS) (i : l.ι) (C : Ctx) (S : Nat → Prop) (w : World) (ρs : Names) (rec : LoopState → Option Code → Loop) (k : Nat) (go : Bool) (X Z : Nat → Prop) (W : World)
    (C' : Ctx) (ρ' : Names) (H : SBlks) (g : Nat × Bool) : Prop where
  w0 : C'.w0 = W
  le : C.Le C'
  gh : Y.G g.1 g.2 C'
  mem : Mem C' ρ' C'.S0 (getH (denB H)) (fun j => l.n0 ≤ j) W
  nm : ρs.le ρ'
  s : ∀ b, S b → C'.S0 b
  kept : Kept S w W
  d : W.heap[w.heap.size]? = some (.deferred (some []))
  xd : C'.X w.heap.size ∧ ¬ C'.O w.heap.size
  xl : C'.X (w.heap.size + 1) ∧ ¬ C'.O (w.heap.size + 1)
  xs : ∀ b, X b → w.heap.size + 2 ≤ b ∧ b < W.heap.size ∧ C'.X b ∧ ¬ C'.O b
  sz : ∀ b, C'.S0 b → X b → Z b
  ob : ∀ b, C'.O b → b < W.heap.size
  mkx : ∀ n, n < w.heap.size → (C.O n ∨ C.w0.heap.size ≤ n) → C'.X n
  dkw : ∀ n : Nat, w.heap[n]? = some (.deferred (some [])) → W.heap[n]? = some (.deferred (some []))
  on : go = true → l.pre i k ∧ H = l.SH i k ∧ g = l.g0 i k ∧ W.heap[w.heap.size + 1]? = some (.loop (rec .ready none))
  off : go = false → ∃ q, k = q + 1 ∧ q < l.cnt i ∧ l.pre i q ∧ H = l.XH i q ∧ gWas ys.on ⟨l.n0, g.1, g.2⟩ l.n0 (l.gR i q) True ∧ ∃ c, W.heap[w.heap.size + 1]? = some (.loop (rec .done (some c))) ∧ ((c = .ret ∧ l.retP i q) ∨ (c = .exit id ∧ l.brkP i q))

theorem RInv.abide {P : Program} {ys : YS} {Y : YEnv P ys} {id : Nat} {l : RangeS} {i : l.ι} {C : Ctx} {S : Nat → Prop} {w : World} {ρs : Names} {rec : LoopState → Option Code → Loop} {k : Nat} {go : Bool} {X X' Z : Nat → Prop} {W W' : World}
    {C' : Ctx} {ρ' : Names} {H : SBlks} {g : Nat × Bool} (h : RInv Y id l i C S w ρs rec k go X Z W C' ρ' H g) (hCw : C.w0.heap.size ≤ w.heap.size) (hsize : W.heap.size ≤ W'.heap.size) (hshape : ∀ b s, shp W b = some s → shp W' b = some s) (hsame : ∀ b, b < W.heap.size → ¬ X b → W'.heap[b]? = W.heap[b]?)
    (hZ : ∀ b vs T fz, Z b → W.heap[b]? = some (.cells vs T fz) → W'.heap[b]? = some (.cells vs T fz)) (_ : ∀ b, X b → X' b) (hX1 : ∀ b, X' b → X b ∨ (W.heap.size ≤ b ∧ b < W'.heap.size)) :
    RInv Y id l i C S w ρs rec k go X' Z W' ⟨W', C'.ρ0, C'.S0, C'.O, fun b => C'.X b ∨ (W.heap.size ≤ b ∧ b < W'.heap.size)⟩ ρ' H g := by
  have hw := h.w0
  have cell : ∀ b vs T fz, C'.S0 b → W.heap[b]? = some (.cells vs T fz) → W'.heap[b]? = some (.cells vs T fz) := fun b vs T fz e e' => by
    by_cases hx : X b
    · exact hZ b vs T fz (h.sz b e hx) e'
    · rw [hsame b (Array.getElem?_eq_some_iff.1 e').1 hx]; exact e'
  have hk : Kept C'.S0 W W' := ⟨hsize, hshape, fun b vs T fz e e' => cell b vs T fz e e'⟩
  have hO : ∀ a b, ρ' a = some b → C'.O b := fun a b e => by
    obtain ⟨h1, h2⟩ := h.mem.rin a b e
    rcases h2 with h2 | h2
    · exact h2
    · rw [hw] at h2; omega
  have hdlt := (Array.getElem?_eq_some_iff.1 h.d).1
  have hnx : ∀ b, b < w.heap.size + 2 → ¬ X b := fun b hb e => by have := (h.xs b e).1; omega
  have hllt : w.heap.size + 1 < W.heap.size := by
    cases hgo : go with
    | true => exact (Array.getElem?_eq_some_iff.1 (h.on hgo).2.2.2).1
    | false => obtain ⟨q, -, -, -, -, -, c, hc, -⟩ := h.off hgo; exact (Array.getElem?_eq_some_iff.1 hc).1
  have hrec : W'.heap[w.heap.size + 1]? = W.heap[w.heap.size + 1]? := hsame _ hllt (hnx _ (by omega))
  refine ⟨rfl, ⟨h.le.ρ0, h.le.s0, h.le.s1, Nat.le_trans h.le.size (by rw [hw]; exact hsize), fun b s e => hshape b s (by have := h.le.shape b s e; rwa [hw] at this), fun b vs T fz e e' => cell b vs T fz (h.le.s0 b e) (by have := h.le.keep b vs T fz e e'; rwa [hw] at this), fun b e => .inl (h.le.x b e), fun b hb hx ho => ?_, h.le.o, fun n e => ?_⟩,
    Y.re h.gh ⟨by rw [hw]; exact hsize, by rw [hw]; exact hshape, fun b hb hx => ?_, fun b vs T fz e e' => cell b vs T fz e (by rwa [hw] at e'), fun _ e => e, fun b e => Nat.lt_of_lt_of_le (h.mem.sin b e) hsize, fun _ e => .inl e, fun _ e => .inl e, fun b e => by rw [hw]; exact e, fun b e => .inl (Y.ox h.gh b e)⟩,
    h.mem.move2 _ _ _ _ h.mem.ent (fun _ e => e) (fun b e => Nat.lt_of_lt_of_le (h.mem.sin b e) hsize) (fun _ _ _ e => e) hO hk (fun a b e => hsame b (h.mem.rin a b e).1 (fun hx => (h.xs b hx).2.2.2 (hO a b e))), h.nm, h.s,
    h.kept.trans hk h.s, (hsame _ hdlt (hnx _ (by omega))).trans h.d, ⟨.inl h.xd.1, h.xd.2⟩, ⟨.inl h.xl.1, h.xl.2⟩, fun b e => ?_, fun b e e' => ?_, fun b e => Nat.lt_of_lt_of_le (h.ob b e) hsize, fun n h1 h2 => .inl (h.mkx n h1 h2), fun n e => (hsame n (Array.getElem?_eq_some_iff.1 (h.dkw n e)).1 (hnx n (by have := (Array.getElem?_eq_some_iff.1 e).1; omega))).trans (h.dkw n e), fun e => ?_, fun e => ?_⟩
  · obtain ⟨h1, h2⟩ := h.le.same b hb hx ho
    rw [hw] at h2
    exact ⟨h1, (hsame b (by have := h.le.size; rw [hw] at this; omega) (hnx b (by omega))).trans h2⟩
  · have h1 := h.le.dk n e
    rw [hw] at h1
    have hn := (Array.getElem?_eq_some_iff.1 e).1
    exact (hsame n (Array.getElem?_eq_some_iff.1 h1).1 (hnx n (by omega))).trans h1
  · rw [hw] at hb ⊢
    exact hsame b hb fun e => hx (h.xs b e).2.2.1
  · rcases hX1 b e with h1 | h1
    · obtain ⟨g1, g2, g3, g4⟩ := h.xs b h1
      exact ⟨g1, Nat.lt_of_lt_of_le g2 hsize, .inl g3, g4⟩
    · exact ⟨by omega, h1.2, .inr h1, fun e => by have := h.ob b e; omega⟩
  · rcases hX1 b e' with h1 | h1
    · exact h.sz b e h1
    · have := h.mem.sin b e; omega
  · obtain ⟨g1, g2, g3, g4⟩ := h.on e
    exact ⟨g1, g2, g3, hrec.trans g4⟩
  · obtain ⟨q, g1, g2, g3, g4, g5, c, g6, g7⟩ := h.off e
    exact ⟨q, g1, g2, g3, g4, g5, c, hrec.trans g6, g7⟩

end Go.Proofs.Ytkklmkogdogbkaa.Sep
