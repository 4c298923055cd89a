/-
  The small calculus, second part: what a step of the machine does to the memory that a state stands for. No condition. (This text proves no statement by itself.)
-/
import Derived.Test.YtkklmkogdogbkaaSep1
namespace Go.Proofs.Ytkklmkogdogbkaa.Sep
open Go
set_option linter.unusedVariables false
set_option linter.unusedSimpArgs false

def updS (A : Nat → AV) (d : Option Nat) (v : AV) : Nat → AV := fun t => if d = some t then v else A t
def updH (H : Nat → Option Blk) (i : Nat) (b : Blk) : Nat → Option Blk := fun j => if j = i then some b else H j
def updN (ρ : Names) (i : Nat) (b : Nat) : Names := fun j => if j = i then some b else ρ j
def lessOne (nx : Nat → Prop) (i : Nat) : Nat → Prop := fun j => nx j ∧ j ≠ i

theorem updH_same {H : Nat → Option Blk} {i : Nat} {b : Blk} : updH H i b i = some b := by simp [updH]
theorem updH_ne {H : Nat → Option Blk} {i j : Nat} {b : Blk} (h : j ≠ i) : updH H i b j = H j := by simp [updH, h]

theorem put_tmps (a : Act) (d : Nat) (v : Value) (t : Nat) (u : Value) (h : (a.put (some d) v).tmps[t]? = some u) : (t = d ∧ u = v) ∨ (t ≠ d ∧ a.tmps[t]? = some u) := by
  simp only [Act.put, Array.getElem?_setIfInBounds] at h
  by_cases hd : d = t
  · subst hd
    simp at h
    exact .inl ⟨rfl, h.2.symm⟩
  · simp [hd] at h
    exact .inr ⟨fun e => hd e.symm, h⟩

theorem Marks.keep {C : Ctx} {w w' : World} {ds : List Deferred} (h : Marks C w ds) (hs : ∀ n : Nat, w.heap[n]? = some (.deferred (some [])) → w'.heap[n]? = some (.deferred (some []))) : Marks C w' ds := by
  obtain ⟨ns, h1, h2, h3⟩ := h
  exact ⟨ns, h1, h2, fun n hn => ⟨(h3 n hn).1, hs n (h3 n hn).2⟩⟩

theorem Rep.put {C : Ctx} {N : Nat} {ρ : Names} {S : Nat → Prop} {A : Nat → AV} {H : Nat → Option Blk} {nx : Nat → Prop} {a : Act} {w : World} (h : Rep C N ρ S A H nx a w) (d : Option Nat) {x : AV} {v : Value}
    (hv : Rel S w ρ x v) : Rep C N ρ S (updS A d x) H nx (a.put d v) w := by
  refine ⟨h.mem, by cases d <;> simpa [Act.put] using h.size, ?_, ?_, h.dk⟩
  · intro t u hu
    cases d with
    | none => simpa [updS] using h.slots t u hu
    | some d =>
      rcases put_tmps a d v t u hu with ⟨rfl, rfl⟩ | ⟨hne, hu'⟩
      · simpa [updS] using hv
      · have : ¬ (some d = some t) := fun e => hne (by cases e; rfl)
        simp only [updS, this, if_false]
        exact h.slots t u hu'
  · cases d <;> exact h.marks

/-- THE GENERAL STEP: blocks W are written (all of them our own), new ones are laid. -/
theorem Mem.step {C : Ctx} {ρ ρ' : Names} {S S' : Nat → Prop} {H H' : Nat → Option Blk} {nx nx' : Nat → Prop} {w w' : World} (W : Nat → Prop) (h : Mem C ρ S H nx w)
    (hsize : w.heap.size ≤ w'.heap.size) (hshape : ∀ b s, shp w b = some s → shp w' b = some s)
    (hsame : ∀ b, b < w.heap.size → ¬ W b → w'.heap[b]? = w.heap[b]?)
    (hW : ∀ b, W b → (∃ i k, H i = some k ∧ k.live = true ∧ ρ i = some b) ∨ ((C.O b ∨ C.w0.heap.size ≤ b) ∧ ∀ vs T fz, w.heap[b]? ≠ some (.cells vs T fz)))
    (hρ : ρ.le ρ') (hρn : ∀ i b, ρ' i = some b → (∃ j, ρ j = some b) ∨ (w.heap.size ≤ b ∧ b < w'.heap.size))
    (hS : ∀ b, S b → S' b) (hSn : ∀ b, S' b → S b ∨ ((C.w0.heap.size ≤ b ∨ C.O b) ∧ b < w'.heap.size))
    (hblk : ∀ i k, H' i = some k → (H i = some k ∧ ∀ b, ρ' i = some b → ρ i = some b ∧ ¬ W b) ∨ BlkRel S' w' ρ' (ρ' i) k)
    (hown : ∀ i k b, H' i = some k → k.live = true → ρ' i = some b → ¬ S' b)
    (hinj : ∀ i j k l b, H' i = some k → k.live = true → H' j = some l → l.live = true → ρ' i = some b → ρ' j = some b → i = j)
    (hfree : ∀ i, nx' i → H' i = none ∧ ρ' i = none) : Mem C ρ' S' H' nx' w' := by
  have hk : Kept S w w' := ⟨hsize, hshape, fun b vs T fz hb hc => (hsame b (h.sin b hb) (fun hw => by
    rcases hW b hw with ⟨i, k, h1, h2, h3⟩ | ⟨-, h1⟩
    · exact h.own i k b h1 h2 h3 hb
    · exact h1 vs T fz hc)).trans hc⟩
  refine ⟨Nat.le_trans h.size hsize, fun b s e => hshape b s (h.shape b s e), ?_, h.ent.trans hρ, fun b e => hS b (h.s0 b e), ?_, ?_, ?_, hown, hinj, ?_, hfree, fun b vs T fz e e' => hk.same b vs T fz (h.s0 b e) (h.keep b vs T fz e e')⟩
  · intro b hb hne
    refine (hsame b (Nat.lt_of_lt_of_le hb h.size) (fun hw => ?_)).trans (h.old b hb hne)
    rcases hW b hw with ⟨i, k, h1, h2, h3⟩ | ⟨h1, -⟩
    · rcases (h.rin i b h3).2 with hj | hge
      · exact hne hj
      · omega
    · rcases h1 with h1 | h1
      · exact hne h1
      · omega
  · intro b hb
    rcases hSn b hb with h1 | h1
    · exact h.snew b h1
    · exact .inr h1.1
  · intro b hb
    rcases hSn b hb with h1 | h1
    · exact Nat.lt_of_lt_of_le (h.sin b h1) hsize
    · exact h1.2
  · intro i b hb
    rcases hρn i b hb with ⟨j, h1⟩ | h1
    · exact ⟨Nat.lt_of_lt_of_le (h.rin j b h1).1 hsize, (h.rin j b h1).2⟩
    · exact ⟨h1.2, .inr (Nat.le_trans h.size h1.1)⟩
  · intro i k hi
    rcases hblk i k hi with ⟨h1, h2⟩ | h1
    · have hb := h.blk i k h1
      cases hr : ρ' i with
      | none =>
        have hr0 : ρ i = none := by cases hq : ρ i with | none => rfl | some b => rw [hρ i b hq] at hr; cases hr
        rw [hr0] at hb
        exact hb.mono hk hS hρ (fun n e => by cases e)
      | some b =>
        obtain ⟨e1, e2⟩ := h2 b hr
        rw [e1] at hb
        exact hb.mono hk hS hρ (fun n e => by cases e; exact hsame b (h.rin i b e1).1 e2)
    · exact h1

theorem shape?_of_heap {w w' : World} {b : Nat} (h : w'.heap[b]? = w.heap[b]?) : w'.shape? b = w.shape? b := by simp [World.shape?, h]
theorem shape?_lt {w : World} {b : Nat} {s : TypeId × Nat} (h : w.shape? b = some s) : b < w.heap.size := by
  rcases Nat.lt_or_ge b w.heap.size with h' | h'
  · exact h'
  · simp [World.shape?, Array.getElem?_eq_none h'] at h
theorem shape?_not {w : World} {b : Nat} {t : TypeId × Nat} (h : w.shape? b = some t) (hc : ∀ vs T fz, w.heap[b]? ≠ some (.cells vs T fz)) : False := by
  unfold World.shape? at h
  split at h
  · rename_i c T fz hcc; exact absurd hcc (hc _ _ _)
  · cases h
theorem shape?_keep {w w' : World} {b : Nat} {t : TypeId × Nat} (h : w'.shape? b = w.shape? b) (e : w.shape? b = some t) : w'.shape? b = some t := h.trans e
theorem heap_alloc_lt {w : World} {o : Obj} {b : Nat} (h : b < w.heap.size) : (w.alloc o).heap[b]? = w.heap[b]? := by
  simp only [World.alloc, Array.getElem?_push]; rw [if_neg (by omega)]
theorem heap_alloc_at {w : World} {o : Obj} : (w.alloc o).heap[w.heap.size]? = some o := World.alloc_heap_new w o

/-- Nothing is laid or written but draws. -/
theorem Mem.drew {C : Ctx} {ρ : Names} {S : Nat → Prop} {H : Nat → Option Blk} {nx : Nat → Prop} {w : World} (h : Mem C ρ S H nx w) : Mem C ρ S H nx w.drew :=
  ⟨h.size, h.shape, h.old, h.ent, h.s0, h.snew, h.sin, h.rin, h.own, h.inj, fun i k hi => (h.blk i k hi).mono ⟨Nat.le_refl _, fun _ _ e => e, fun _ _ _ _ _ e => e⟩ (fun _ e => e) (Names.le.refl _) (fun _ _ => rfl), h.free, h.keep⟩
theorem Kept.drew (S : Nat → Prop) (w : World) : Kept S w w.drew := ⟨Nat.le_refl _, fun _ _ e => e, fun _ _ _ _ _ e => e⟩
theorem Rep.drew {C : Ctx} {N : Nat} {ρ : Names} {S : Nat → Prop} {A : Nat → AV} {H : Nat → Option Blk} {nx : Nat → Prop} {a : Act} {w : World} (h : Rep C N ρ S A H nx a w) : Rep C N ρ S A H nx a w.drew :=
  ⟨h.mem.drew, h.size, fun t v e => (h.slots t v e).mono (Kept.drew S w) (fun _ e => e) (Names.le.refl _), h.marks.keep (fun _ e => e), h.dk⟩

/-- The frame's part over a step. -/
theorem Rep.frame {C : Ctx} {N : Nat} {ρ ρ' : Names} {S S' : Nat → Prop} {A : Nat → AV} {H H' : Nat → Option Blk} {nx nx' : Nat → Prop} {a : Act} {w w' : World} (h : Rep C N ρ S A H nx a w) (hm : Mem C ρ' S' H' nx' w')
    (hk : Kept S w w') (hS : ∀ b, S b → S' b) (hρ : ρ.le ρ')
    (hmk : ∀ n : Nat, w.heap[n]? = some (.deferred (some [])) → w'.heap[n]? = some (.deferred (some []))) : Rep C N ρ' S' A H' nx' a w' :=
  ⟨hm, h.size, fun t v e => (h.slots t v e).mono hk hS hρ, h.marks.keep hmk, fun n e => hmk n (h.dk n e)⟩

/-- A NEW BLOCK OF OUR OWN. -/
theorem Mem.alloc {C : Ctx} {ρ : Names} {S : Nat → Prop} {H : Nat → Option Blk} {nx : Nat → Prop} {w : World} (h : Mem C ρ S H nx w) {i : Nat} (hi : nx i) {k : Blk} {vs : Array Value} {T : TypeId}
    (hb : BlkRel S (w.alloc (.cells vs T)) (updN ρ i w.heap.size) (some w.heap.size) k) : Mem C (updN ρ i w.heap.size) S (updH H i k) (lessOne nx i) (w.alloc (.cells vs T)) := by
  obtain ⟨hHi, hρi⟩ := h.free i hi
  have hle : ρ.le (updN ρ i w.heap.size) := fun j b e => by
    by_cases hj : j = i
    · subst hj; rw [hρi] at e; cases e
    · simp [updN, hj, e]
  refine h.step (fun _ => False) (by simp) (shp_all ⟨rfl, rfl⟩ fun b s e => ?_) (fun b hb _ => heap_alloc_lt hb) (fun _ e => e.elim) hle ?_ (fun _ e => e) (fun _ e => .inl e) ?_ ?_ ?_ ?_
  · exact shape?_keep (shape?_of_heap (heap_alloc_lt (shape?_lt e))) e
  · intro j b e
    by_cases hj : j = i
    · subst hj; simp [updN] at e; subst e; exact .inr ⟨Nat.le_refl _, by simp⟩
    · simp [updN, hj] at e; exact .inl ⟨_, e⟩
  · intro j l e
    by_cases hj : j = i
    · subst hj; simp [updH] at e; subst e; simp only [updN, if_true]; exact .inr hb
    · simp [updH, hj] at e
      exact .inl ⟨e, fun b e' => by simp [updN, hj] at e'; exact ⟨e', fun x => x⟩⟩
  · intro j l b e hl e' hs
    by_cases hj : j = i
    · subst hj; simp [updN] at e'; subst e'; exact Nat.lt_irrefl _ (h.sin _ hs)
    · simp [updH, hj] at e; simp [updN, hj] at e'; exact h.own j l b e hl e' hs
  · intro j1 j2 l1 l2 b e1 hl1 e2 hl2 r1 r2
    by_cases h1 : j1 = i <;> by_cases h2 : j2 = i
    · rw [h1, h2]
    · subst h1; simp [updN] at r1; simp [updN, h2] at r2; subst r1; exact absurd (h.rin _ _ r2).1 (Nat.lt_irrefl _)
    · subst h2; simp [updN] at r2; simp [updN, h1] at r1; subst r2; exact absurd (h.rin _ _ r1).1 (Nat.lt_irrefl _)
    · simp [updH, h1] at e1; simp [updH, h2] at e2; simp [updN, h1] at r1; simp [updN, h2] at r2
      exact h.inj j1 j2 l1 l2 b e1 hl1 e2 hl2 r1 r2
  · rintro j ⟨hj, hne⟩
    simp [updH, updN, hne, h.free j hj]

theorem Kept.alloc {S : Nat → Prop} {w : World} (hs : ∀ b, S b → b < w.heap.size) (o : Obj) : Kept S w (w.alloc o) :=
  .of (by simp) (shp_all ⟨rfl, rfl⟩ fun b s e => shape?_keep (shape?_of_heap (heap_alloc_lt (shape?_lt e))) e) (fun b hb => heap_alloc_lt (hs b hb))
theorem updN_le {ρ : Names} {i b : Nat} (h : ρ i = none) : ρ.le (updN ρ i b) := fun j c e => by
  by_cases hj : j = i
  · subst hj; rw [h] at e; cases e
  · simp [updN, hj, e]

theorem Rep.alloc {C : Ctx} {N : Nat} {ρ : Names} {S : Nat → Prop} {A : Nat → AV} {H : Nat → Option Blk} {nx : Nat → Prop} {a : Act} {w : World} (h : Rep C N ρ S A H nx a w) {i : Nat} (hi : nx i) {k : Blk} {vs : Array Value} {T : TypeId}
    (hb : BlkRel S (w.alloc (.cells vs T)) (updN ρ i w.heap.size) (some w.heap.size) k) :
    Rep C N (updN ρ i w.heap.size) S A (updH H i k) (lessOne nx i) a (w.alloc (.cells vs T)) :=
  h.frame (h.mem.alloc hi hb) (Kept.alloc h.mem.sin _) (fun _ e => e) (updN_le (h.mem.free i hi).2)
    (fun n e => by rw [heap_alloc_lt ((Array.getElem?_eq_some_iff.1 e).1)]; exact e)

/-- A block of our own is written. -/
theorem Mem.store {C : Ctx} {ρ : Names} {S : Nat → Prop} {H : Nat → Option Blk} {nx : Nat → Prop} {w w' : World} (h : Mem C ρ S H nx w) {i b : Nat} {k k' : Blk} (hi : H i = some k) (hl : k.live = true) (hr : ρ i = some b)
    (hsize : w'.heap.size = w.heap.size) (hsame : ∀ c, c ≠ b → w'.heap[c]? = w.heap[c]?) (hshape : w'.shape? b = w.shape? b) (hb : BlkRel S w' ρ (some b) k') (hio : w'.os = w.os ∧ w'.output = w.output) : Mem C ρ S (updH H i k') nx w' := by
  refine h.step (fun c => c = b) (by omega) (shp_all hio fun c s e => ?_) (fun c _ hc => hsame c hc) (fun c e => .inl ⟨i, k, hi, hl, e ▸ hr⟩) (Names.le.refl _) (fun _ _ e => .inl ⟨_, e⟩) (fun _ e => e) (fun _ e => .inl e) ?_ ?_ ?_ ?_
  · by_cases hc : c = b
    · subst hc; exact shape?_keep hshape e
    · exact shape?_keep (shape?_of_heap (hsame c hc)) e
  · intro j l e
    by_cases hj : j = i
    · subst hj; simp [updH] at e; subst e; rw [hr]; exact .inr hb
    · simp [updH, hj] at e
      by_cases hll : l.live = true
      · exact .inl ⟨e, fun c e' => ⟨e', fun ec => hj (h.inj j i l k b e hll hi hl (ec ▸ e') hr)⟩⟩
      · refine .inr ?_
        cases l with
        | dead => trivial
        | _ => simp [Blk.live] at hll
  · intro j l c e hll e' hs
    by_cases hj : j = i
    · subst hj; exact h.own j k c hi hl e' hs
    · simp [updH, hj] at e; exact h.own j l c e hll e' hs
  · intro j1 j2 l1 l2 c e1 hl1 e2 hl2 r1 r2
    have key : ∀ j l, updH H i k' j = some l → l.live = true → ∃ l', H j = some l' ∧ l'.live = true := fun j l e hl' => by
      by_cases hj : j = i
      · subst hj; exact ⟨k, hi, hl⟩
      · simp [updH, hj] at e; exact ⟨l, e, hl'⟩
    obtain ⟨m1, f1, g1⟩ := key j1 l1 e1 hl1
    obtain ⟨m2, f2, g2⟩ := key j2 l2 e2 hl2
    exact h.inj j1 j2 m1 m2 c f1 g1 f2 g2 r1 r2
  · intro j hj
    have hne : j ≠ i := fun e => by subst e; rw [(h.free j hj).1] at hi; cases hi
    simp [updH, hne, h.free j hj]

theorem Kept.store {S : Nat → Prop} {w w' : World} {b : Nat} (hS : ¬ S b) (hsize : w'.heap.size = w.heap.size) (hsame : ∀ c, c ≠ b → w'.heap[c]? = w.heap[c]?) (hshape : w'.shape? b = w.shape? b) (hio : w'.os = w.os ∧ w'.output = w.output) : Kept S w w' :=
  .of (by omega) (shp_all hio fun c s e => by
    by_cases hc : c = b
    · subst hc; exact shape?_keep hshape e
    · exact shape?_keep (shape?_of_heap (hsame c hc)) e) (fun c hc => hsame c (fun e => hS (e ▸ hc)))

theorem Rep.store {C : Ctx} {N : Nat} {ρ : Names} {S : Nat → Prop} {A : Nat → AV} {H : Nat → Option Blk} {nx : Nat → Prop} {a : Act} {w w' : World} (h : Rep C N ρ S A H nx a w) {i b : Nat} {k k' : Blk} (hi : H i = some k) (hl : k.live = true) (hr : ρ i = some b)
    (hsize : w'.heap.size = w.heap.size) (hsame : ∀ c, c ≠ b → w'.heap[c]? = w.heap[c]?) (hshape : w'.shape? b = w.shape? b) (hb : BlkRel S w' ρ (some b) k')
    (hcell : ∃ vs T, w.heap[b]? = some (.cells vs T (0, 0))) (hio : w'.os = w.os ∧ w'.output = w.output) : Rep C N ρ S A (updH H i k') nx a w' :=
  h.frame (h.mem.store hi hl hr hsize hsame hshape hb hio) (Kept.store (h.mem.own i k b hi hl hr) hsize hsame hshape hio) (fun _ e => e) (Names.le.refl _)
    (fun n e => by
      by_cases hn : n = b
      · subst hn; obtain ⟨vs, T, hv⟩ := hcell; rw [hv] at e; cases e
      · rw [hsame n hn]; exact e)

/-- A block of our own is given up. -/
theorem Mem.kill {C : Ctx} {ρ : Names} {S : Nat → Prop} {H : Nat → Option Blk} {nx : Nat → Prop} {w : World} (h : Mem C ρ S H nx w) {i : Nat} {k : Blk} (hi : H i = some k) : Mem C ρ S (updH H i .dead) nx w := by
  refine h.step (fun _ => False) (Nat.le_refl _) (fun _ _ e => e) (fun _ _ _ => rfl) (fun _ e => e.elim) (Names.le.refl _) (fun _ _ e => .inl ⟨_, e⟩) (fun _ e => e) (fun _ e => .inl e) ?_ ?_ ?_ ?_
  · intro j l e
    by_cases hj : j = i
    · subst hj; simp [updH] at e; subst e; exact .inr trivial
    · simp [updH, hj] at e; exact .inl ⟨e, fun b e' => ⟨e', fun x => x⟩⟩
  · intro j l c e hll e' hs
    by_cases hj : j = i
    · subst hj; simp [updH] at e; subst e; simp [Blk.live] at hll
    · simp [updH, hj] at e; exact h.own j l c e hll e' hs
  · intro j1 j2 l1 l2 c e1 hl1 e2 hl2 r1 r2
    by_cases h1 : j1 = i
    · subst h1; simp [updH] at e1; subst e1; simp [Blk.live] at hl1
    · by_cases h2 : j2 = i
      · subst h2; simp [updH] at e2; subst e2; simp [Blk.live] at hl2
      · simp [updH, h1] at e1; simp [updH, h2] at e2
        exact h.inj j1 j2 l1 l2 c e1 hl1 e2 hl2 r1 r2
  · intro j hj
    have hne : j ≠ i := fun e => by subst e; rw [(h.free j hj).1] at hi; cases hi
    simp [updH, hne, h.free j hj]

/-- A block that is no cells, and none of those that were there, is turned. -/
theorem Mem.turn {C : Ctx} {ρ : Names} {S : Nat → Prop} {H : Nat → Option Blk} {nx : Nat → Prop} {w w' : World} {n : Nat} (h : Mem C ρ S H nx w) (hn : C.O n ∨ C.w0.heap.size ≤ n) (hc : ∀ vs T fz, w.heap[n]? ≠ some (.cells vs T fz))
    (hsize : w'.heap.size = w.heap.size) (hsame : ∀ c, c ≠ n → w'.heap[c]? = w.heap[c]?) (hio : w'.os = w.os ∧ w'.output = w.output) : Mem C ρ S H nx w' ∧ Kept S w w' := by
  have hsh : ∀ b s, shp w b = some s → shp w' b = some s := shp_all hio fun b s e => by
    by_cases hb : b = n
    · subst hb; exact (shape?_not e hc).elim
    · exact shape?_keep (shape?_of_heap (hsame b hb)) e
  refine ⟨h.step (fun c => c = n) (by omega) hsh (fun b _ hb => hsame b hb) (fun b e => .inr ⟨e ▸ hn, e ▸ hc⟩) (Names.le.refl _) (fun i b e => .inl ⟨i, e⟩) (fun _ e => e) (fun _ e => .inl e) (fun i k e => ?_) h.own h.inj h.free,
    by omega, hsh, fun b vs T fz _ e => ?_⟩
  · by_cases hl : k.live = true
    · cases hr : ρ i with
      | none => exact .inl ⟨e, fun b e' => by cases e'⟩
      | some b =>
        refine .inl ⟨e, fun b' e' => ⟨e', fun eb => ?_⟩⟩
        cases e'
        have hb := h.blk i k e
        rw [hr] at hb
        cases k with
        | dead => cases hl
        | cells cs => obtain ⟨m, vs, T, h1, h2, -⟩ := hb; cases h1; exact hc vs T _ (eb ▸ h2)
        | row sz xs =>
          obtain ⟨-, -, hb⟩ := hb
          rcases hb with ⟨h1, -⟩ | ⟨m, vs, T, h1, h2, -⟩
          · cases h1
          · cases h1; exact hc vs T _ (eb ▸ h2)
    · refine .inr ?_
      cases k with
      | dead => trivial
      | _ => simp [Blk.live] at hl
  · by_cases hb : b = n
    · subst hb; exact absurd e (hc _ _ _)
    · rw [hsame b hb]; exact e

end Go.Proofs.Ytkklmkogdogbkaa.Sep
