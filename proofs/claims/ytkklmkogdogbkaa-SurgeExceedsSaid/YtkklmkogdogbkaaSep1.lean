/-
  A small calculus for walking code: abstract values and blocks, how they stand for the machine's, and what a step keeps. No condition. (This text proves no statement by itself.)
-/
import Derived.CallsIn
import Derived.RangeFuncNested
import Derived.Laws.Cells
import Derived.Laws.AppendOwn
import Derived.KernelRfl
namespace Go.Proofs.Ytkklmkogdogbkaa.Sep
open Go
set_option linter.unusedVariables false
set_option linter.unusedSimpArgs false

/-- Abstract values: 'lit' is the value itself; 'ptr', 'vec', 'rptr' name blocks of our own by numbers; 'vsl', 'vptr' are slices and pointers into memory that is only read. -/
inductive AV where
  | top
  | lit (v : Value)
  | ptr (i off : Nat)
  | rptr (i sz n j : Nat)
  | vec (i sz lo len : Nat)
  | vsl (sz : Nat) (xs : List (List AV))
  | vptr (sz : Nat) (xs : List (List AV)) (n j : Nat)
  | agg (cs : List AV)
  | tup (cs : List AV)
  | fn (f : Fn) (first cap : List AV)
  | when (g : Bool) (x : AV)
  deriving Inhabited

abbrev I (n : Int) : AV := .lit (.int .i64 n)
abbrev B (b : Bool) : AV := .lit (.bool b)

abbrev Names := Nat → Option Nat
def noNames : Names := fun _ => none

inductive Rel (S : Nat → Prop) (w : World) : Names → AV → Value → Prop
  | top {ρ} (v : Value) : Rel S w ρ .top v
  | lit {ρ} (v : Value) : Rel S w ρ (.lit v) v
  | ptr {ρ : Names} {i off b : Nat} (h : ρ i = some b) : Rel S w ρ (.ptr i off) (.pointer (some ⟨b, off, none⟩))
  | rptr {ρ : Names} {i sz n j b : Nat} (h : ρ i = some b) : Rel S w ρ (.rptr i sz n j) (.pointer (some ⟨b, n * sz + j, none⟩))
  | vec0 {ρ : Names} {i sz lo : Nat} {a : Option Addr} : Rel S w ρ (.vec i sz lo 0) (.slice a 0 0)
  | vec {ρ : Names} {i sz lo len b cap n : Nat} {T : TypeId} (h : ρ i = some b) (hs : w.shape? b = some (T, n)) (hc : lo * sz + cap * sz ≤ n) (hl : len ≤ cap) :
      Rel S w ρ (.vec i sz lo len) (.slice (some ⟨b, lo * sz, none⟩) len cap)
  | vslNil {ρ : Names} {sz : Nat} {a : Option Addr} {cap : Nat} : Rel S w ρ (.vsl sz []) (.slice a 0 cap)
  | vsl {ρ : Names} {sz b off cap : Nat} {xs : List (List AV)} (vs : Nat → Nat → Value) (hc : xs.length ≤ cap) (hS : S b)
      (hz : ∀ (k : Nat) cs, xs[k]? = some cs → cs.length = sz)
      (hv : ∀ (k j : Nat) cs c, xs[k]? = some cs → cs[j]? = some c → w.cell? ⟨b, off + k * sz + j, none⟩ = some (vs k j))
      (hr : ∀ (k j : Nat) cs c, xs[k]? = some cs → cs[j]? = some c → Rel S w noNames c (vs k j)) :
      Rel S w ρ (.vsl sz xs) (.slice (some ⟨b, off, none⟩) xs.length cap)
  | vptr {ρ : Names} {sz b off n j : Nat} {xs : List (List AV)} (vs : Nat → Nat → Value) (hS : S b)
      (hz : ∀ (k : Nat) cs, xs[k]? = some cs → cs.length = sz)
      (hv : ∀ (k j : Nat) cs c, xs[k]? = some cs → cs[j]? = some c → w.cell? ⟨b, off + k * sz + j, none⟩ = some (vs k j))
      (hr : ∀ (k j : Nat) cs c, xs[k]? = some cs → cs[j]? = some c → Rel S w noNames c (vs k j)) :
      Rel S w ρ (.vptr sz xs n j) (.pointer (some ⟨b, off + n * sz + j, none⟩))
  | agg {ρ : Names} {cs : List AV} {vs : Array Value} (hl : vs.size = cs.length) (h : ∀ (k : Nat) c v, cs[k]? = some c → vs[k]? = some v → Rel S w ρ c v) : Rel S w ρ (.agg cs) (.agg vs)
  | tup {ρ : Names} {cs : List AV} {vs : Array Value} (hl : vs.size = cs.length) (h : ∀ (k : Nat) c v, cs[k]? = some c → vs[k]? = some v → Rel S w ρ c v) : Rel S w ρ (.tup cs) (.tuple vs)
  | fn {ρ : Names} {f : Fn} {xs cs : List AV} {ys vs : Array Value} (hl : ys.size = xs.length) (h : ∀ (k : Nat) c v, xs[k]? = some c → ys[k]? = some v → Rel S w ρ c v)
      (hl' : vs.size = cs.length) (h' : ∀ (k : Nat) c v, cs[k]? = some c → vs[k]? = some v → Rel S w ρ c v) : Rel S w ρ (.fn f xs cs) (.func f ys vs)
  | when {ρ : Names} {g : Bool} {x : AV} {v : Value} (h : g = true → Rel S w ρ x v) (h' : g = false → v = undef) : Rel S w ρ (.when g x) v

/-- A name is kept by a later naming. -/
def Names.le (ρ ρ' : Names) : Prop := ∀ i b, ρ i = some b → ρ' i = some b
theorem Names.le.refl (ρ : Names) : ρ.le ρ := fun _ _ h => h
theorem Names.le.trans {ρ ρ' ρ'' : Names} (h : ρ.le ρ') (h' : ρ'.le ρ'') : ρ.le ρ'' := fun i b e => h' i b (h i b e)

/-- The shape of a block, and what lies outside of the memory. -/
def shp (w : World) (b : Option Nat) : Option (Option (TypeId × Nat) × Os × Array (Nat × ByteArray)) := match b with
  | none => some (none, w.os, w.output)
  | some b => (w.shape? b).map fun s => (some s, w.os, w.output)
theorem shp_shape {w w' : World} (h : ∀ b s, shp w b = some s → shp w' b = some s) {b : Nat} {t : TypeId × Nat} (e : w.shape? b = some t) : w'.shape? b = some t := by
  have h1 := h (some b) (some t, w.os, w.output) (by simp [shp, e])
  simp only [shp, Option.map_eq_some_iff, Prod.mk.injEq, Option.some.injEq] at h1
  obtain ⟨u, h2, rfl, -⟩ := h1
  exact h2
theorem shp_io {w w' : World} (h : ∀ b s, shp w b = some s → shp w' b = some s) : w'.os = w.os ∧ w'.output = w.output := by
  have h1 := h none (none, w.os, w.output) rfl
  simp only [shp, Option.some.injEq, Prod.mk.injEq, true_and] at h1
  exact h1
theorem shp_all {w w' : World} (hio : w'.os = w.os ∧ w'.output = w.output) (h : ∀ b t, w.shape? b = some t → w'.shape? b = some t) : ∀ b s, shp w b = some s → shp w' b = some s := fun b s e => by
  cases b with
  | none => simp only [shp] at e ⊢; rw [hio.1, hio.2]; exact e
  | some b =>
    simp only [shp, Option.map_eq_some_iff] at e ⊢
    obtain ⟨t, h1, rfl⟩ := e
    exact ⟨t, h b t h1, by rw [hio.1, hio.2]⟩
/-- What a step keeps of what is read: the blocks of S, and the shape of every block. -/
structure Kept (S : Nat → Prop) (w w' : World) : Prop where
  size : w.heap.size ≤ w'.heap.size
  shape : ∀ b s, shp w b = some s → shp w' b = some s
  same : ∀ b vs T fz, S b → w.heap[b]? = some (.cells vs T fz) → w'.heap[b]? = some (.cells vs T fz)

theorem Kept.of {S : Nat → Prop} {w w' : World} (h1 : w.heap.size ≤ w'.heap.size) (h2 : ∀ b s, shp w b = some s → shp w' b = some s) (h3 : ∀ b, S b → w'.heap[b]? = w.heap[b]?) : Kept S w w' :=
  ⟨h1, h2, fun b vs T fz hb h => (h3 b hb).trans h⟩
theorem Kept.refl (S : Nat → Prop) (w : World) : Kept S w w := ⟨Nat.le_refl _, fun _ _ h => h, fun _ _ _ _ _ h => h⟩
theorem Kept.trans {S S' : Nat → Prop} {w w' w'' : World} (h : Kept S w w') (h' : Kept S' w' w'') (hS : ∀ b, S b → S' b) : Kept S w w'' :=
  ⟨Nat.le_trans h.size h'.size, fun b s e => h'.shape b s (h.shape b s e), fun b vs T fz hb e => h'.same b vs T fz (hS b hb) (h.same b vs T fz hb e)⟩
theorem Kept.cell {S : Nat → Prop} {w w' : World} (h : Kept S w w') {a : Addr} {v : Value} (hb : S a.block) (hv : w.cell? a = some v) : w'.cell? a = some v := by
  unfold World.cell? at hv
  split at hv
  · rename_i c T fz hc
    simp only [World.cell?, h.same _ _ _ _ hb hc]; exact hv
  · cases hv

theorem Rel.mono {S S' : Nat → Prop} {w w' : World} {ρ ρ' : Names} {x : AV} {v : Value} (h : Rel S w ρ x v) (hk : Kept S w w') (hS : ∀ b, S b → S' b) (hρ : ρ.le ρ') : Rel S' w' ρ' x v := by
  induction h generalizing ρ' with
  | top v => exact .top v
  | lit v => exact .lit v
  | ptr h => exact .ptr (hρ _ _ h)
  | rptr h => exact .rptr (hρ _ _ h)
  | vec0 => exact .vec0
  | vec h hs hc hl => exact .vec (hρ _ _ h) (shp_shape hk.shape hs) hc hl
  | vslNil => exact .vslNil
  | vsl vs hc hSb hz hv hr ih =>
    exact .vsl vs hc (hS _ hSb) hz (fun k j cs c h1 h2 => hk.cell (a := ⟨_, _, none⟩) hSb (hv k j cs c h1 h2)) (fun k j cs c h1 h2 => ih k j cs c h1 h2 (Names.le.refl _))
  | vptr vs hSb hz hv hr ih =>
    exact .vptr vs (hS _ hSb) hz (fun k j cs c h1 h2 => hk.cell (a := ⟨_, _, none⟩) hSb (hv k j cs c h1 h2)) (fun k j cs c h1 h2 => ih k j cs c h1 h2 (Names.le.refl _))
  | agg hl h ih => exact .agg hl (fun k c v h1 h2 => ih k c v h1 h2 hρ)
  | tup hl h ih => exact .tup hl (fun k c v h1 h2 => ih k c v h1 h2 hρ)
  | fn hl h hl' h' ih ih' => exact .fn hl (fun k c v h1 h2 => ih k c v h1 h2 hρ) hl' (fun k c v h1 h2 => ih' k c v h1 h2 hρ)
  | when h h' ih => exact .when (fun e => ih e hρ) h'

/-- Blocks of our own. -/
inductive Blk where
  | dead
  | cells (cs : List AV)
  | row (sz : Nat) (xs : List (List AV))
  deriving Inhabited

def Blk.live : Blk → Bool
  | .dead => false
  | _ => true

def BlkRel (S : Nat → Prop) (w : World) (ρ : Names) (o : Option Nat) : Blk → Prop
  | .dead => True
  | .cells cs => ∃ n vs T, o = some n ∧ w.heap[n]? = some (.cells vs T (0, 0)) ∧ vs.size = cs.length ∧ ∀ (k : Nat) c v, cs[k]? = some c → vs[k]? = some v → Rel S w ρ c v
  | .row sz xs => 0 < sz ∧ (∀ (k : Nat) cs, xs[k]? = some cs → cs.length = sz) ∧ ((o = none ∧ xs = []) ∨
      ∃ n vs T, o = some n ∧ w.heap[n]? = some (.cells vs T (0, 0)) ∧ ∀ (k j : Nat) cs c, xs[k]? = some cs → cs[j]? = some c → ∃ v, vs[k * sz + j]? = some v ∧ Rel S w noNames c v)

theorem BlkRel.mono {S S' : Nat → Prop} {w w' : World} {ρ ρ' : Names} {o : Option Nat} {b : Blk} (h : BlkRel S w ρ o b) (hk : Kept S w w') (hS : ∀ b, S b → S' b) (hρ : ρ.le ρ')
    (ho : ∀ n, o = some n → w'.heap[n]? = w.heap[n]?) : BlkRel S' w' ρ' o b := by
  cases b with
  | dead => trivial
  | cells cs =>
    obtain ⟨n, vs, T, rfl, hn, hl, hr⟩ := h
    exact ⟨n, vs, T, rfl, (ho n rfl).trans hn, hl, fun k c v h1 h2 => (hr k c v h1 h2).mono hk hS hρ⟩
  | row sz xs =>
    obtain ⟨h0, hz, h⟩ := h
    refine ⟨h0, hz, h.imp id ?_⟩
    rintro ⟨n, vs, T, rfl, hn, hr⟩
    exact ⟨n, vs, T, rfl, (ho n rfl).trans hn, fun k j cs c h1 h2 => let ⟨v, hv, hr'⟩ := hr k j cs c h1 h2; ⟨v, hv, hr'.mono hk hS (Names.le.refl _)⟩⟩

/-- Where a walk begins. -/
structure Ctx where
  w0 : World
  ρ0 : Names
  S0 : Nat → Prop
  /-- what may be written of what lay there -/
  O : Nat → Prop
  /-- what others leave alone -/
  X : Nat → Prop
abbrev Ctx.of (w : World) (ρ : Names) (S : Nat → Prop) : Ctx := ⟨w, ρ, S, fun b => ∃ j, ρ j = some b, fun b => ∃ j, ρ j = some b⟩

/-- The marks that ranges over functions leave among the deferred calls. -/
def Marks (C : Ctx) (w : World) (ds : List Deferred) : Prop :=
  ∃ ns : List Nat, ds = ns.map (fun n => { target := .collected n, args := #[] }) ∧ ns.Nodup ∧ ∀ n ∈ ns, (C.O n ∨ C.w0.heap.size ≤ n) ∧ w.heap[n]? = some (.deferred (some []))

/-- The memory's part of what a state stands for. -/
structure Mem (C : Ctx) (ρ : Names) (S : Nat → Prop) (H : Nat → Option Blk) (nx : Nat → Prop) (w : World) : Prop where
  size : C.w0.heap.size ≤ w.heap.size
  shape : ∀ b s, shp C.w0 b = some s → shp w b = some s
  old : ∀ b, b < C.w0.heap.size → ¬ C.O b → w.heap[b]? = C.w0.heap[b]?
  ent : C.ρ0.le ρ
  s0 : ∀ b, C.S0 b → S b
  snew : ∀ b, S b → C.S0 b ∨ C.w0.heap.size ≤ b ∨ C.O b
  sin : ∀ b, S b → b < w.heap.size
  rin : ∀ i b, ρ i = some b → b < w.heap.size ∧ (C.O b ∨ C.w0.heap.size ≤ b)
  own : ∀ i k b, H i = some k → k.live = true → ρ i = some b → ¬ S b
  inj : ∀ i j k l b, H i = some k → k.live = true → H j = some l → l.live = true → ρ i = some b → ρ j = some b → i = j
  blk : ∀ i k, H i = some k → BlkRel S w ρ (ρ i) k
  free : ∀ i, nx i → H i = none ∧ ρ i = none
  keep : ∀ b vs T fz, C.S0 b → C.w0.heap[b]? = some (.cells vs T fz) → w.heap[b]? = some (.cells vs T fz)

/-- A state stands for a frame and a world. -/
structure Rep (C : Ctx) (N : Nat) (ρ : Names) (S : Nat → Prop) (A : Nat → AV) (H : Nat → Option Blk) (nx : Nat → Prop) (a : Act) (w : World) : Prop where
  mem : Mem C ρ S H nx w
  size : a.tmps.size = N
  slots : ∀ t v, a.tmps[t]? = some v → Rel S w ρ (A t) v
  marks : Marks C w a.defers
  dk : ∀ n : Nat, C.w0.heap[n]? = some (.deferred (some [])) → w.heap[n]? = some (.deferred (some []))

end Go.Proofs.Ytkklmkogdogbkaa.Sep
