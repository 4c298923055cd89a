/-
  The small calculus, eleventh part: an operation with its guard, one at a time. No condition. (This text proves no statement by itself.)
-/
import Derived.Test.YtkklmkogdogbkaaSep10
import Derived.OrdersIn
namespace Go.Proofs.Ytkklmkogdogbkaa.Sep
open Go
set_option linter.unusedVariables false
set_option linter.unusedSimpArgs false

/-- A fence that lets everything by. -/
structure FOK (F : Fence) : Prop where
  fn : ∀ f, F.fn f
  depth : F.depth = none
  calls : ∀ {n : Nat} {P : Program} {f : FuncId} {args : Array Value} {w : World} {R : Ending → World → Prop}, Calls P f args w R → CallsIn F n P f args w R
  rounds : ∀ {n : Nat} {P : Program} {l : Nat} {args : Array Value} {w : World} {R : Ending → World → Prop}, YieldAt Fence.wide n P l args w R → YieldAt F n P l args w R

theorem FOK.wide : FOK Fence.wide := ⟨fun _ => trivial, rfl, fun h => callsIn_wide.2 h, fun h => h⟩
theorem FOK.inRound (l : Nat) : FOK (Fence.wide.inRound l) := ⟨fun _ => trivial, rfl, fun h => CallsIn.inRound l (callsIn_wide.2 h), fun h => h⟩

mutual
def AV.idless : AV → Bool
  | .lit _ => true
  | .vsl _ _ => true
  | .vptr _ _ _ _ => true
  | .agg cs => AV.idlessL cs
  | .tup cs => AV.idlessL cs
  | .fn _ xs cs => AV.idlessL xs && AV.idlessL cs
  | _ => false
def AV.idlessL : List AV → Bool
  | [] => true
  | c :: cs => c.idless && AV.idlessL cs
end

theorem idlessL_get {cs : List AV} (h : AV.idlessL cs = true) {k : Nat} {c : AV} (hk : cs[k]? = some c) : c.idless = true := by
  induction cs generalizing k with
  | nil => simp at hk
  | cons x cs ih =>
    simp [AV.idlessL] at h
    cases k with
    | zero => simp at hk; subst hk; exact h.1
    | succ k => simp at hk; exact ih h.2 hk

theorem Rel.idless {S : Nat → Prop} {w : World} {ρ : Names} {x : AV} {v : Value} (h : Rel S w ρ x v) (hf : x.idless = true) : Rel S w noNames x v := by
  induction h with
  | lit v => exact .lit v
  | agg hl h ih => simp only [AV.idless] at hf; exact .agg hl (fun k c v h1 h2 => ih k c v h1 h2 (idlessL_get hf h1))
  | tup hl h ih => simp only [AV.idless] at hf; exact .tup hl (fun k c v h1 h2 => ih k c v h1 h2 (idlessL_get hf h1))
  | fn hl h hl' h' ih ih' => simp [AV.idless] at hf; exact .fn hl (fun k c v h1 h2 => ih k c v h1 h2 (idlessL_get hf.1 h1)) hl' (fun k c v h1 h2 => ih' k c v h1 h2 (idlessL_get hf.2 h1))
  | vslNil => exact .vslNil
  | vsl vs hc hS hz hv hr => exact .vsl vs hc hS hz hv hr
  | vptr vs hS hz hv hr => exact .vptr vs hS hz hv hr
  | _ => simp [AV.idless] at hf

def CoeL (H : Nat → Option Blk) (Z : List Nat) : List AV → List AV → Prop
  | [], [] => True
  | a :: as, x :: xs => Coe H Z a x ∧ CoeL H Z as xs
  | _, _ => False

theorem CoeL.get {H : Nat → Option Blk} {Z : List Nat} {as xs : List AV} (h : CoeL H Z as xs) : as.length = xs.length ∧ ∀ (k : Nat) a x, as[k]? = some a → xs[k]? = some x → Coe H Z a x := by
  induction as generalizing xs with
  | nil => cases xs with | nil => exact ⟨rfl, fun k a x h => by simp at h⟩ | cons x xs => simp [CoeL] at h
  | cons a as ih =>
    cases xs with
    | nil => simp [CoeL] at h
    | cons x xs =>
      obtain ⟨h1, h2⟩ := h
      obtain ⟨g1, g2⟩ := ih h2
      refine ⟨by simp [g1], fun k a' x' e1 e2 => ?_⟩
      cases k with
      | zero => simp at e1 e2; subst e1; subst e2; exact h1
      | succ k => simp at e1 e2; exact g2 k a' x' e1 e2

theorem Coe.local {H H' : Nat → Option Blk} {Z : List Nat} {a b : AV} (h : Coe H Z a b) (hH : ∀ i ∈ Z, H' i = H i) : Coe H' Z a b := by
  induction h with
  | refl => exact .refl
  | nil => exact .nil
  | vec h hn hi => exact .vec (by rw [hH _ hi]; exact h) hn hi
  | ptr h hc hi => exact .ptr (by rw [hH _ hi]; exact h) hc hi
  | agg hl h ih => exact .agg hl ih
  | tup hl h ih => exact .tup hl ih
  | fn hl h hl' h' ih ih' => exact .fn hl ih hl' ih'
theorem CoeL.local {H H' : Nat → Option Blk} {Z : List Nat} {as xs : List AV} (h : CoeL H Z as xs) (hH : ∀ i ∈ Z, H' i = H i) : CoeL H' Z as xs := by
  induction as generalizing xs with
  | nil => cases xs with | nil => trivial | cons x xs => simp [CoeL] at h
  | cons a as ih => cases xs with | nil => simp [CoeL] at h | cons x xs => exact ⟨h.1.local hH, ih h.2⟩

/-- Blocks of our own given up, to be read alone from now on. -/
theorem Mem.freeze {C : Ctx} {ρ : Names} {S : Nat → Prop} {H : Nat → Option Blk} {nx : Nat → Prop} {w : World} (h : Mem C ρ S H nx w) (Z : List Nat) (hz : ∀ i ∈ Z, ∃ k, H i = some k ∧ k.live = true) :
    Mem C ρ (frozenS S ρ Z) (fun i => if i ∈ Z then some .dead else H i) nx w := by
  have liveOf : ∀ i k, (if i ∈ Z then some Blk.dead else H i) = some k → k.live = true → i ∉ Z ∧ H i = some k := fun i k e hl => by
    by_cases hi : i ∈ Z
    · rw [if_pos hi] at e; cases e; cases hl
    · rw [if_neg hi] at e; exact ⟨hi, e⟩
  refine h.step (fun _ => False) (Nat.le_refl _) (fun _ _ e => e) (fun _ _ _ => rfl) (fun _ e => e.elim) (Names.le.refl _) (fun i b e => .inl ⟨i, e⟩) (fun _ e => .inl e) (fun b hb => ?_) (fun i k e => ?_) (fun i k b e hl hb hs => ?_) (fun i j k l b e hl e' hl' => ?_) (fun i hi => ?_)
  · rcases hb with hb | ⟨i, hi, hb⟩
    · exact .inl hb
    · obtain ⟨g1, g2⟩ := h.rin i b hb
      rcases g2 with g2 | g2
      · exact .inr ⟨.inr g2, g1⟩
      · exact .inr ⟨.inl g2, g1⟩
  · by_cases hi : i ∈ Z
    · rw [if_pos hi] at e; cases e; exact .inr trivial
    · rw [if_neg hi] at e; exact .inl ⟨e, fun b e' => ⟨e', fun x => x⟩⟩
  · obtain ⟨g1, g2⟩ := liveOf i k e hl
    rcases hs with hs | ⟨j, hj, hjb⟩
    · exact h.own i k b g2 hl hb hs
    · obtain ⟨l, hl1, hl2⟩ := hz j hj
      have := h.inj i j k l b g2 hl hl1 hl2 hb hjb
      subst this
      exact g1 hj
  · obtain ⟨g1, g2⟩ := liveOf i k e hl
    obtain ⟨g3, g4⟩ := liveOf j l e' hl'
    exact h.inj i j k l b g2 hl g4 hl'
  · obtain ⟨g1, g2⟩ := h.free i hi
    refine ⟨?_, g2⟩
    rw [if_neg]
    · exact g1
    · intro hz'; obtain ⟨k, hk, -⟩ := hz i hz'; rw [g1] at hk; cases hk

theorem foldl_dead : ∀ (Z : List Nat) (H : Nat → Option Blk), (Z.map fun i => (i, Blk.dead)).foldl (fun H p => updH H p.1 p.2) H = fun i => if i ∈ Z then some .dead else H i
  | [], H => by simp
  | z :: Z, H => by
    simp only [List.map_cons, List.foldl_cons]
    rw [foldl_dead Z]
    funext i
    by_cases h : i ∈ Z
    · simp [h]
    · by_cases h' : i = z
      · subst h'; simp [h, updH]
      · simp [h, h', updH]
/-- A call by contract that may hand on what it was handed: the blocks are given up. -/
theorem pure_frz {C : Ctx} {ρ : Names} {S : Nat → Prop} {H : Nat → Option Blk} {nx : Nat → Prop} {w : World} {P : Program} {f : FuncId} {as xs : List AV} {res : AV} {Z : List Nat} {id : Nat} {vs : Array Value}
    (hs : Pure P f xs res) (hm : Mem C ρ S H nx w) (has : RelCs S w ρ as vs) (hc : CoeL H Z as xs) (hx : AV.idlessL xs = true) (hz : ∀ i ∈ Z, ∃ k, H i = some k ∧ k.live = true) :
    Calls P f vs w fun e w' => ∃ v, e = .returned v ∧ SG C ρ S H nx w { cond := True, val := res, ri := Z, wr := Z.map fun i => (i, .dead) } id v w' := by
  have hl := hc.get.1
  have hargs : RelCs (frozenS S ρ Z) w ρ xs vs := by
    refine ⟨by rw [has.1, hl], fun k c v h1 h2 => ?_⟩
    have hk := (List.getElem?_eq_some_iff.1 h1).1
    have ha : as[k]? = some as[k] := by simp
    exact (hc.get.2 k _ c ha h1).rel hm (has.2 k _ v ha h2)
  refine (pure_call (id := id) (Z := []) (H := fun i => if i ∈ Z then some .dead else H i) hs (hm.freeze Z hz) hargs rfl (fun k a x h1 h2 => by rw [h1] at h2; cases h2; exact .refl) (fun x hx' v hv => hv.idless (by obtain ⟨k, hk⟩ := List.mem_iff_getElem?.1 hx'; exact idlessL_get hx hk)) (.inl rfl)).mono ?_
  rintro e w' ⟨v, rfl, ρ', S', h1, h2, h3, h4, h5, h6⟩
  refine ⟨v, rfl, ρ', S', h1, fun b hb => h2 b (.inl hb), ⟨h3.size, h3.shape, fun b vs T fz hb => h3.same b vs T fz (.inl hb)⟩, ?_, h5, h6⟩
  show Mem C ρ' S' ((Z.map fun i => (i, Blk.dead)).foldl (fun H p => updH H p.1 p.2) H) _ w'
  rw [foldl_dead]
  exact h4

/-- A call by contract. -/
inductive CallR (P : Program) (f : FuncId) (as : List AV) (H : Nat → Option Blk) : Nat → Out → Prop
  | pure {id : Nat} {xs : List AV} {res : AV} {Z : List Nat} (hs : Pure P f xs res) (hc : CoeL H Z as xs) (hx : AV.idlessL xs = true) (hz : Z = [] ∨ res.flat = true) : CallR P f as H id { cond := True, val := res, ri := Z }
  | frz {id : Nat} {xs : List AV} {res : AV} {Z : List Nat} (hs : Pure P f xs res) (hc : CoeL H Z as xs) (hx : AV.idlessL xs = true) (hz : ∀ i ∈ Z, ∃ k, H i = some k ∧ k.live = true) : CallR P f as H id { cond := True, val := res, ri := Z, wr := Z.map fun i => (i, .dead) }

theorem CallR.local {P : Program} {f : FuncId} {as : List AV} {H H' : Nat → Option Blk} {id : Nat} {out : Out} (h : CallR P f as H id out) (hH : ∀ i ∈ out.ri, H' i = H i) : CallR P f as H' id out := by
  cases h with
  | pure hs hc hx hz => exact .pure hs (hc.local hH) hx hz
  | frz hs hc hx hz => exact .frz hs (hc.local hH) hx (fun i hi => by rw [hH i hi]; exact hz i hi)

theorem CallR.ent {P : Program} {f : FuncId} {as : List AV} {H : Nat → Option Blk} {id : Nat} {out : Out} (h : CallR P f as H id out) : Ent P f := by
  cases h with
  | pure hs hc hx hz => exact hs.1
  | frz hs hc hx hz => exact hs.1

theorem CallR.calls {P : Program} {f : FuncId} {as : List AV} {id : Nat} {out : Out} {C : Ctx} {ρ : Names} {S : Nat → Prop} {H : Nat → Option Blk} {nx : Nat → Prop} {w : World} {vs : Array Value} (h : CallR P f as H id out)
    (hm : Mem C ρ S H nx w) (has : RelCs S w ρ as vs) : Calls P f vs w fun e w' => ∃ v, e = .returned v ∧ SG C ρ S H nx w out id v w' := by
  cases h with
  | pure hs hc hx hz =>
    rename_i xs res Z
    exact pure_call hs hm has hc.get.1 hc.get.2 (fun x hx' v hv => hv.idless (by obtain ⟨k, hk⟩ := List.mem_iff_getElem?.1 hx'; exact idlessL_get hx hk)) hz
  | frz hs hc hx hz => exact pure_frz hs hm has hc hx hz

/-- The function behind a function value, with what it is handed first and last. -/
def fnOf : AV → Option (FuncId × List AV × List AV)
  | .lit (.func (.func f) xs ys) => some (f, xs.toList.map .lit, ys.toList.map .lit)
  | .fn (.func f) xs ys => some (f, xs, ys)
  | _ => none

theorem fnOf_rel {S : Nat → Prop} {w : World} {ρ : Names} {x : AV} {v : Value} {f : FuncId} {first cap : List AV} (h : fnOf x = some (f, first, cap)) (hr : Rel S w ρ x v) : ∃ ys vs, v = .func (.func f) ys vs ∧ RelCs S w ρ first ys ∧ RelCs S w ρ cap vs := by
  unfold fnOf at h
  split at h
  · cases h
    obtain rfl := hr.lit_inv
    refine ⟨_, _, rfl, ⟨by simp, fun k c v h1 h2 => ?_⟩, ⟨by simp, fun k c v h1 h2 => ?_⟩⟩
    all_goals
      simp at h1
      obtain ⟨u, hu, rfl⟩ := h1
      rw [h2] at hu; cases hu; exact .lit _
  · cases h
    obtain ⟨ys, vs, rfl, h1, h2, h3, h4⟩ := hr.fn_inv
    exact ⟨ys, vs, rfl, ⟨h1, h2⟩, ⟨h3, h4⟩⟩
  · cases h

theorem RelCs.append {S : Nat → Prop} {w : World} {ρ : Names} {as bs : List AV} {us vs : Array Value} (h : RelCs S w ρ as us) (h' : RelCs S w ρ bs vs) : RelCs S w ρ (as ++ bs) (us ++ vs) := by
  refine ⟨by simp [h.1, h'.1], fun k c v h1 h2 => ?_⟩
  rw [List.getElem?_append] at h1
  rw [Array.getElem?_append, h.1] at h2
  split at h1
  · rename_i hk; rw [if_pos hk] at h2; exact h.2 k c v h1 h2
  · rename_i hk; rw [if_neg hk] at h2; exact h'.2 _ c v h1 h2

/-- An operation without its guard. -/
inductive OpR (P : Program) (o : Op) (id : Nat) (r : Operand → AV) (H : Nat → Option Blk) : Out → Prop
  | op {out : Out} (h : Takes P o id r H out) : OpR P o id r H out
  | call {out : Out} {cl : Call} {fo : Operand} {f : FuncId} {first cap : List AV} (ho : o = .call cl) (hcl : cl.callee = .value fo) (hf : fnOf (strip (r fo)) = some (f, first, cap)) (hg : ∀ x ∈ cl.operands, grd (r x) = true)
      (h : CallR P f (first ++ cl.args.toList.map (fun x => strip (r x)) ++ cap) H id out) : OpR P o id r H out

theorem OpR.local {P : Program} {o : Op} {id : Nat} {r r' : Operand → AV} {H H' : Nat → Option Blk} {out : Out} (h : OpR P o id r H out) (hr : ∀ x ∈ o.operands, r' x = r x) (hH : ∀ i ∈ out.ri, H' i = H i) : OpR P o id r' H' out := by
  cases h with
  | op h => exact .op (h.local hr hH)
  | call ho hcl hf hg h =>
    subst ho
    rename_i cl fo f first cap
    have hfo : r' fo = r fo := hr fo (by simp [Op.operands, Call.operands, hcl])
    have hargs : ∀ x ∈ cl.args, r' x = r x := fun x hx => hr x (by simp only [Op.operands, Call.operands]; simp [hx])
    have e : cl.args.toList.map (fun x => strip (r' x)) = cl.args.toList.map (fun x => strip (r x)) := List.map_congr_left (fun x hx => by rw [hargs x (by simpa using hx)])
    exact .call rfl hcl (by rw [hfo]; exact hf) (fun x hx => by rw [hr x hx]; exact hg x hx) (by rw [e]; exact h.local hH)

theorem absPure_noDefer {P : Program} {c : Call} {r : Operand → AV} : absPure P (.defer c) r = none := rfl
theorem Takes.noDefer {P : Program} {c : Call} {id : Nat} {r : Operand → AV} {H : Nat → Option Blk} {out : Out} (h : Takes P (.defer c) id r H out) : False := by
  induction h with
  | weak _ _ ih => exact ih
  | pure h _ => cases h
  | mem h _ => cases h
  | make h _ => cases h

/-- What the machine does at an operation that may be taken. -/
theorem OpR.wp {P : Program} {F : Fence} (hF : FOK F) {o : Oper} {id : Nat} {a : Act} {A : Nat → AV} {H : Nat → Option Blk} {out : Out} {C : Ctx} {N : Nat} {ρ : Names} {S : Nat → Prop} {nx : Nat → Prop} {w : World} {r : Operand → AV} (h : OpR P o.op id r H out)
    (hm : Rep C N ρ S A H nx a w) (hid : nx id) (hr : ∀ x, Rel S w ρ (r x) (a.eval x)) {K : Act → World → Prop} {Q : Exit → Act → World → Prop} (hK : ∀ v w', SG C ρ S H nx w out id v w' → K (a.put o.dst v) w') : o.wpIn F 0 P a w K Q := by
  cases h with
  | op h =>
    obtain ⟨v, w', h1, h2⟩ := (h.good (o := o) (ev := a.eval) hm.mem hid hr).sg
    have hd : ∀ c, o.op ≠ .defer c := fun c e => by rw [e] at h; exact h.noDefer
    refine ⟨fun f _ => hF.fn f, ?_⟩
    rw [Oper.semAt_eq _ _ _ hd]
    rcases h1 with h1 | ⟨h1, rfl⟩
    · rw [h1]; exact hK v w' h2
    · rw [h1]; exact hK undef w' h2
  | call ho hcl hf hg h =>
    rename_i cl fo f first cap
    have hd : ∀ c, o.op ≠ .defer c := fun c e => by rw [ho] at e; cases e
    refine ⟨fun f _ => hF.fn f, ?_⟩
    rw [Oper.semAt_eq _ _ _ hd]
    have hfo := (hr fo).strip (hg fo (by simp [Call.operands, hcl]))
    obtain ⟨ys, vs, e, h1, h2⟩ := fnOf_rel hf hfo
    have hargs : RelCs S w ρ (cl.args.toList.map fun x => strip (r x)) (cl.args.map a.eval) := rel_map (fun x hx => hg x (by simp [Call.operands, hx])) hr
    have hrun : (execOp a.eval o).run P w = .ok (.enter f (ys ++ cl.args.map a.eval ++ vs)) w := by
      have : execOp a.eval o = (do let d ← resolve a.eval cl o.type; invoke d.target d.args) := by
        unfold execOp; rw [ho]
      rw [this]
      simp only [resolve, hcl, Deferred.ofValue, e, Sem.run_bind, Sem.run_pure, Result.andThen_ok, invoke]
      exact h.ent _ _
    rw [hrun]
    refine ⟨(fun hd => by (rw [hF.depth] at hd; cases hd)), ?_⟩
    refine (hF.calls (h.calls hm.mem ((h1.append hargs).append h2))).mono ?_
    rintro e w' ⟨v, rfl, hsg⟩
    exact hK v w' hsg

def opd (A : Nat → AV) : Operand → AV
  | .tmp t => A t
  | .const v => .lit v
  | .global g => .lit (.pointer (some ⟨g, 0, none⟩))
  | .func f => .fn (.func f) [] []

theorem opd_rel {C : Ctx} {N : Nat} {ρ : Names} {S : Nat → Prop} {A : Nat → AV} {H : Nat → Option Blk} {nx : Nat → Prop} {a : Act} {w : World} (h : Rep C N ρ S A H nx a w) (hA : ∀ t, N ≤ t → A t = .top) : ∀ x, Rel S w ρ (opd A x) (a.eval x) := by
  intro x
  cases x with
  | tmp t =>
    simp only [opd, Act.eval]
    rcases Nat.lt_or_ge t a.tmps.size with hlt | hge
    · exact h.slots t _ (by simp [hlt])
    · rw [hA t (by rw [← h.size]; exact hge)]; exact .top _
  | const v => exact .lit v
  | global g => exact .lit _
  | func f => exact .fn rfl (fun k c v h => by simp at h) rfl (fun k c v h => by simp at h)

/-- The truth of a guard: of the value that it looks at. -/
def gv (x : AV) (want : Bool) : Option Bool :=
  match x with
  | .lit (.bool b) => some (if want then b else !b)
  | .when g (.lit (.bool b)) => some (g && (if want then b else !b))
  | .lit (.tuple _) => some false
  | _ => none

/-- An operation with its guard. -/
inductive StpR (P : Program) (ops : Array Oper) (o : Oper) (id : Nat) (A : Nat → AV) (H : Nat → Option Blk) : Out → Prop
  | plain {out : Out} (hg : o.guard = none) (h : OpR P o.op id (opd A) H out) : StpR P ops o id A H out
  | sym {out : Out} {j d : Nat} {want c : Bool} (hg : o.guard = some (j, want)) (hd : (ops[j]?).bind (·.dst) = some d) (hc : gv (A d) want = some c) (h : c = true → OpR P o.op id (opd A) H out) (hw : out.wr = []) : StpR P ops o id A H { out with val := .when c out.val }
  | on {out : Out} {j d : Nat} {want : Bool} (hg : o.guard = some (j, want)) (hd : (ops[j]?).bind (·.dst) = some d) (hc : gv (A d) want = some true) (h : OpR P o.op id (opd A) H out) : StpR P ops o id A H out
  | off {j d : Nat} {want : Bool} (hg : o.guard = some (j, want)) (hd : (ops[j]?).bind (·.dst) = some d) (hc : gv (A d) want = some false) : StpR P ops o id A H { cond := True, val := .lit undef }

theorem StpR.local {P : Program} {ops : Array Oper} {o : Oper} {id : Nat} {A A' : Nat → AV} {H H' : Nat → Option Blk} {out : Out} (h : StpR P ops o id A H out) (hA : ∀ t ∈ o.looksAt ops, A' t = A t) (hH : ∀ i ∈ out.ri, H' i = H i) : StpR P ops o id A' H' out := by
  have hr : ∀ x ∈ o.op.operands, opd A' x = opd A x := fun x hx => by
    cases x with
    | tmp t =>
      refine hA t ?_
      simp only [Oper.looksAt, List.mem_append, List.mem_filterMap]
      exact .inl ⟨.tmp t, by simpa using hx, rfl⟩
    | _ => rfl
  have hgd : ∀ {j d want}, o.guard = some (j, want) → (ops[j]?).bind (·.dst) = some d → A' d = A d := fun hg hd => by
    refine hA _ ?_
    simp only [Oper.looksAt, List.mem_append, hg, hd]
    exact .inr (by simp)
  cases h with
  | plain hg h => exact .plain hg (h.local hr hH)
  | sym hg hd hc h hw => exact .sym hg hd (by rw [hgd hg hd]; exact hc) (fun e => (h e).local hr hH) hw
  | on hg hd hc h => exact .on hg hd (by rw [hgd hg hd]; exact hc) (h.local hr hH)
  | off hg hd hc => exact .off hg hd (by rw [hgd hg hd]; exact hc)

end Go.Proofs.Ytkklmkogdogbkaa.Sep
