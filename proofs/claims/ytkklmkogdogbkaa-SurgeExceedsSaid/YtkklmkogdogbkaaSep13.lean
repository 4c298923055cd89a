/-
  The small calculus, thirteenth part: regions. No condition. (This text proves no statement by itself.)
-/
import Derived.Test.YtkklmkogdogbkaaSep12
namespace Go.Proofs.Ytkklmkogdogbkaa.Sep
open Go
set_option linter.unusedVariables false
set_option linter.unusedSimpArgs false

section
variable {P : Program} {F : Fence} {C : Ctx} {N : Nat} {ρ : Names} {S : Nat → Prop} {A : Nat → AV} {H : Nat → Option Blk} {nx : Nat → Prop} {a : Act} {w : World} {ops : Array Oper}

theorem wanted_gv {o : Oper} {j d : Nat} {want c : Bool} (hm : Rep C N ρ S A H nx a w) (hA : ∀ t, N ≤ t → A t = .top) (hg : o.guard = some (j, want)) (hd : (ops[j]?).bind (·.dst) = some d) (hc : gv (A d) want = some c) :
    Region.wanted o (yielded ops a.tmps) = c := by
  have hlt : d < a.tmps.size := by
    rw [hm.size]
    rcases Nat.lt_or_ge d N with h | h
    · exact h
    · rw [hA d h] at hc; simp [gv] at hc
  have hv := hm.slots d a.tmps[d] (by simp [hlt])
  have hy : yielded ops a.tmps j = match a.tmps[d] with | .bool b => some b | _ => none := by
    simp only [yielded, hd, Option.bind_some]
    rw [show a.tmps[d]? = some a.tmps[d] by simp [hlt]]
    cases a.tmps[d] <;> rfl
  simp only [Region.wanted, hg, hy]
  generalize a.tmps[d] = v at hv
  unfold gv at hc
  split at hc
  · rename_i b hb
    rw [hb] at hv
    obtain rfl := hv.lit_inv
    cases hc
    cases want <;> cases b <;> rfl
  · rename_i g b hb
    rw [hb] at hv
    cases hc
    cases hv with
    | when h h' =>
      cases g
      · rw [h' rfl]; cases want <;> rfl
      · obtain rfl := (h rfl).lit_inv
        cases want <;> cases b <;> rfl
  · rename_i hb
    rw [hb] at hv
    obtain rfl := hv.lit_inv
    cases hc
    cases want <;> rfl
  · cases hc

theorem SG.undef {out : Out} {id : Nat} (hm : Mem C ρ S H nx w) (hw : out.wr = []) (hv : Rel S w ρ out.val undef) : SG C ρ S H nx w out id undef w :=
  ⟨ρ, S, Names.le.refl _, fun _ e => e, Kept.refl _ _, by rw [hw]; exact hm.less (fun _ h => h.1), hv, fun _ e => e⟩

theorem StpR.wp (hF : FOK F) {i : Nat} {o : Oper} (ho : ops[i]? = some o) {id : Nat} {out : Out} (h : StpR P ops o id A H out) (hm : Rep C N ρ S A H nx a w) (hid : nx id) (hA : ∀ t, N ≤ t → A t = .top) {K : Act → World → Prop} {Q : Exit → Act → World → Prop}
    (hK : ∀ v w', SG C ρ S H nx w out id v w' → K (a.put o.dst v) w') : wpOpIn F 0 P ops Q i K a w := by
  have hr := opd_rel hm hA
  unfold wpOpIn
  simp only [ho]
  cases h with
  | plain hg h =>
    rw [if_pos (by simp [Region.wanted, hg])]
    exact h.wp hF hm hid hr hK
  | sym hg hd hc h hw =>
    rename_i out' j d want c
    rw [wanted_gv hm hA hg hd hc]
    cases hcc : c
    · subst hcc
      simp only [Bool.false_eq_true, if_false]
      exact ⟨fun f _ => hF.fn f, hK undef w (SG.undef hm.mem hw (.when (fun e => by cases e) (fun _ => rfl)))⟩
    · subst hcc
      simp only [if_true]
      refine (h rfl).wp hF hm hid hr (fun v w' hsg => hK v w' ?_)
      obtain ⟨ρ', S', h1, h2, h3, h4, h5, h6⟩ := hsg
      exact ⟨ρ', S', h1, h2, h3, h4, .when (fun _ => h5) (fun e => by cases e), h6⟩
  | on hg hd hc h =>
    rw [wanted_gv hm hA hg hd hc]
    simp only [if_true]
    exact h.wp hF hm hid hr hK
  | off hg hd hc =>
    rw [wanted_gv hm hA hg hd hc]
    simp only [Bool.false_eq_true, if_false]
    exact ⟨fun f _ => hF.fn f, hK undef w (SG.undef hm.mem rfl (.lit _))⟩

/-- The state behind an operation. -/
theorem SG.rep {out : Out} {id : Nat} {v : Value} {w' : World} (h : SG C ρ S H nx w out id v w') (hm : Rep C N ρ S A H nx a w) (d : Option Nat) :
    ∃ ρ' S', Rep C N ρ' S' (updS A d out.val) (applyW H out.wr) (fun i => nx i ∧ ¬ (id ≤ i ∧ i < id + 8)) (a.put d v) w' := by
  obtain ⟨ρ', S', h1, h2, h3, h4, h5, h6⟩ := h
  exact ⟨ρ', S', (hm.frame h4 h3 h2 h1 h6).put d h5⟩

theorem Rep.ext {A' : Nat → AV} {H' : Nat → Option Blk} {nx' : Nat → Prop} (h : Rep C N ρ S A H nx a w) (hA : ∀ t, A' t = A t) (hH : ∀ i, H' i = H i) (hn : ∀ i, nx' i → nx i) : Rep C N ρ S A' H' nx' a w := by
  obtain rfl : A' = A := funext hA
  obtain rfl : H' = H := funext hH
  exact ⟨h.mem.less hn, h.size, h.slots, h.marks, h.dk⟩
end

def disj (a b : List Nat) : Bool := a.all fun x => !b.contains x
theorem disj_spec {a b : List Nat} (h : disj a b = true) {x : Nat} (ha : x ∈ a) : x ∉ b := by
  have := List.all_eq_true.1 h x ha
  simpa using this

/-- Whatever may come in either order looks at, and writes, other slots and other blocks. -/
def regionOK (ops : Array Oper) (ids : List (List Nat × List Nat)) : Bool :=
  (List.range ops.size).all fun k => (match ops[k]? with | some o => o.after.all fun e => !Region.binds .any e || decide (e.on < k) | none => true) && (List.range k).all fun i => ((Region.before ops).getD k 0).testBit i ||
    match ops[i]?, ops[k]?, ids[i]?, ids[k]? with
    | some x, some y, some p, some q => x.apart ops y && y.apart ops x && disj p.2 (q.1 ++ q.2) && disj q.2 p.1
    | _, _, _, _ => false

def dstsOK (N : Nat) (ops : Array Oper) : Bool := ops.all fun o => match o.dst with | some d => decide (d < N) | none => true

section
variable {P : Program} {F : Fence} {C : Ctx} {N : Nat} {ρ : Names} {S : Nat → Prop} {A0 : Nat → AV} {H0 : Nat → Option Blk} {a : Act} {w : World} {ops : Array Oper} {outs : Nat → Out} {id0 : Nat} {Q : Exit → Act → World → Prop}

def allOn : Nat → Bool := fun _ => true

theorem AI_top {I : Nat → Bool} (hA : ∀ t, N ≤ t → A0 t = .top) (hd : dstsOK N ops = true) : ∀ (n t : Nat), N ≤ t → AI ops outs A0 I n t = .top := by
  intro n
  induction n with
  | zero => exact hA
  | succ n ih =>
    intro t ht
    simp only [AI]
    cases I n
    · exact ih t ht
    · simp only [if_true, updS]
      rw [if_neg]
      · exact ih t ht
      · intro e
        cases ho : ops[n]? with
        | none => rw [ho] at e; cases e
        | some o =>
          rw [ho] at e
          have := Array.all_eq_true_iff_forall_mem.1 hd o (Array.mem_of_getElem? ho)
          simp only [Option.bind_some] at e
          rw [e] at this
          have h : decide (t < N) = true := this
          have h' := of_decide_eq_true h
          omega

/-- A region whose operations come in the order of the text. -/
theorem region_lex (hF : FOK F) {id : Nat} (hlex : ∀ k o, ops[k]? = some o → StpR P ops o (id0 + 8 * k) (AI ops outs A0 allOn k) (HI outs H0 allOn k) (outs k)) (hA : ∀ t, N ≤ t → A0 t = .top) (hd : dstsOK N ops = true)
    (hm : Rep C N ρ S A0 H0 (fun i => id0 ≤ i) a w) (hQ : ∀ ρ' S' a' w', Rep C N ρ' S' (AI ops outs A0 allOn ops.size) (HI outs H0 allOn ops.size) (fun i => id0 + 8 * ops.size ≤ i) a' w' → Q .normal a' w') :
    (Code.region id ops false).wpIn F 0 P Q a w := by
  refine wpIn_region ?_
  have key : ∀ (n k : Nat), k + n = ops.size → ∀ (ρ : Names) (S : Nat → Prop) (a : Act) (w : World), Rep C N ρ S (AI ops outs A0 allOn k) (HI outs H0 allOn k) (fun i => id0 + 8 * k ≤ i) a w → wpOpsIn F 0 P ops Q (List.range' k n) a w := by
    intro n
    induction n with
    | zero => intro k hk ρ S a w hr; obtain rfl : k = ops.size := by omega
              exact hQ ρ S a w hr
    | succ n ih =>
      intro k hk ρ S a w hr
      have ho : ops[k]? = some ops[k] := by simp
      rw [List.range'_succ, wpOpsIn_cons]
      refine (hlex k _ ho).wp hF ho hr (Nat.le_refl _) (AI_top hA hd k) (fun v w' hsg => ?_)
      obtain ⟨ρ', S', hr'⟩ := hsg.rep hr (ops[k]).dst
      refine ih (k + 1) (by omega) ρ' S' _ _ (hr'.ext (fun t => ?_) (fun i => ?_) (fun i hi => ?_))
      · simp [AI, allOn, ho]
      · simp [HI, allOn]
      · omega
  rw [List.range_eq_range']
  exact key ops.size 0 (by omega) ρ S a w (hm.ext (fun _ => rfl) (fun _ => rfl) (fun i hi => by simpa using hi))

def onL (listed : Array Bool) : Nat → Bool := fun i => listed.getD i false

theorem onL_set {listed : Array Bool} {k i : Nat} (hk : k < listed.size) : onL (listed.setIfInBounds k true) i = if i = k then true else onL listed i := by
  unfold onL
  simp only [Array.getD_eq_getD_getElem?, Array.getElem?_setIfInBounds]
  by_cases h : k = i
  · subst h; simp [hk]
  · have h' : ¬ i = k := fun e => h e.symm
    simp [h, h']

set_option maxHeartbeats 1000000 in
/-- A region whose operations come in any order that is let. -/
theorem region_any (hF : FOK F) (hmix : P.follows .mixedOrders = true) {id : Nat} (hlex : ∀ k o, ops[k]? = some o → StpR P ops o (id0 + 8 * k) (AI ops outs A0 allOn k) (HI outs H0 allOn k) (outs k)) (hA : ∀ t, N ≤ t → A0 t = .top) (hd : dstsOK N ops = true)
    {ids : List (List Nat × List Nat)} (hids : ∀ k, k < ops.size → ids[k]? = some ((outs k).ri, (outs k).wr.map (·.1))) (hok : regionOK ops ids = true)
    (hm : Rep C N ρ S A0 H0 (fun i => id0 ≤ i) a w) (hQ : ∀ ρ' S' a' w', Rep C N ρ' S' (AI ops outs A0 allOn ops.size) (HI outs H0 allOn ops.size) (fun i => id0 + 8 * ops.size ≤ i) a' w' → Q .normal a' w') :
    (Code.region id ops true).wpIn F 0 P Q a w := by
  refine wpIn_region_any hmix ?_
  have apart : ∀ i k : Nat, i < k → ∀ x y, ops[i]? = some x → ops[k]? = some y → ((Region.before ops).getD k 0).testBit i = true ∨
      (x.apart ops y = true ∧ y.apart ops x = true ∧ disj ((outs i).wr.map (·.1)) ((outs k).ri ++ (outs k).wr.map (·.1)) = true ∧ disj ((outs k).wr.map (·.1)) (outs i).ri = true) := by
    intro i k hik x y hx hy
    have hk : k < ops.size := (Array.getElem?_eq_some_iff.1 hy).1
    have := List.all_eq_true.1 (Bool.and_eq_true_iff.1 (List.all_eq_true.1 hok k (by simp [hk]))).2 i (by simp [hik])
    simp only [hx, hy, hids i (by omega), hids k hk, Bool.or_eq_true, Bool.and_eq_true] at this
    rcases this with h | ⟨⟨⟨h1, h2⟩, h3⟩, h4⟩
    · exact .inl h
    · exact .inr ⟨h1, h2, h3, h4⟩
  have back : ∀ k o, ops[k]? = some o → ∀ e ∈ o.after, Region.binds .any e = true → e.on < k := by
    intro k o ho e he hb
    have hk : k < ops.size := (Array.getElem?_eq_some_iff.1 ho).1
    have := (Bool.and_eq_true_iff.1 (List.all_eq_true.1 hok k (by simp [hk]))).1
    simp only [ho] at this
    have := Array.all_eq_true_iff_forall_mem.1 this e he
    simpa [hb] using this
  have none_ready : ∀ (listed : Array Bool), listed.size = ops.size → Region.ready .any ops listed = [] → ∀ k, k < ops.size → onL listed k = true := by
    intro listed hsz hr k
    induction k using Nat.strongRecOn with
    | _ k ih =>
      intro hk
      cases hl : onL listed k with
      | true => rfl
      | false =>
        exfalso
        have ho : ops[k]? = some ops[k] := by simp [hk]
        have : k ∈ Region.ready .any ops listed := by
          refine mem_ready.2 ⟨?_, ops[k], ho, fun e he hb => ?_⟩
          · unfold onL at hl
            have hk' : k < listed.size := by omega
            simpa [hk'] using hl
          · have hlt := back k _ ho e he hb
            exact ih e.on hlt (by omega)
        rw [hr] at this; cases this
  have key : ∀ (fuel : Nat) (listed : Array Bool), listed.size = ops.size → (∀ j o, ops[j]? = some o → listed.getD j false = true → ∀ e ∈ o.after, Region.binds .any e = true → listed.getD e.on false = true) →
      ((List.range ops.size).filter fun i => !onL listed i).length ≤ fuel →
      ∀ (ρ : Names) (S : Nat → Prop) (a : Act) (w : World), Rep C N ρ S (AI ops outs A0 (onL listed) ops.size) (HI outs H0 (onL listed) ops.size) (fun i => id0 ≤ i ∧ ∀ j, onL listed j = true → ¬ (id0 + 8 * j ≤ i ∧ i < id0 + 8 * j + 8)) a w →
      wpAnyIn F 0 P .any ops Q fuel listed a w := by
    have done : ∀ (listed : Array Bool), listed.size = ops.size → Region.ready .any ops listed = [] → ∀ (ρ : Names) (S : Nat → Prop) (a : Act) (w : World), Rep C N ρ S (AI ops outs A0 (onL listed) ops.size) (HI outs H0 (onL listed) ops.size) (fun i => id0 ≤ i ∧ ∀ j, onL listed j = true → ¬ (id0 + 8 * j ≤ i ∧ i < id0 + 8 * j + 8)) a w → Q .normal a w := by
      intro listed hsz hr ρ S a w hrep
      have hall := none_ready listed hsz hr
      refine hQ ρ S a w (hrep.ext (fun t => AI_agree (fun i hi _ => by rw [hall i hi]; rfl)) (fun x => HI_agree (fun i hi _ => by rw [hall i hi]; rfl)) (fun i hi => ⟨by omega, fun j hj => ?_⟩))
      have hj' : j < ops.size := by
        rcases Nat.lt_or_ge j ops.size with h | h
        · exact h
        · unfold onL at hj; rw [Array.getD_eq_getD_getElem?, Array.getElem?_eq_none (by omega)] at hj; cases hj
      omega
    intro fuel
    induction fuel with
    | zero =>
      intro listed hsz hcl hlen ρ S a w hrep
      have hr : Region.ready .any ops listed = [] := by
        cases hr : Region.ready .any ops listed with
        | nil => rfl
        | cons j js =>
          have hj : j ∈ Region.ready .any ops listed := by rw [hr]; simp
          obtain ⟨h1, o, ho, -⟩ := mem_ready.1 hj
          have hjs : j < ops.size := (Array.getElem?_eq_some_iff.1 ho).1
          have hoff : onL listed j = false := by
            have : j < listed.size := by omega
            unfold onL; simpa [this] using h1
          have : j ∈ (List.range ops.size).filter fun i => !onL listed i := by simp [hjs, hoff]
          have hnil : ((List.range ops.size).filter fun i => !onL listed i) = [] := List.eq_nil_of_length_eq_zero (by omega)
          rw [hnil] at this; cases this
      exact ⟨hr, done listed hsz hr ρ S a w hrep⟩
    | succ fuel ih =>
      intro listed hsz hcl hlen ρ S a w hrep
      refine ⟨fun hr => done listed hsz hr ρ S a w hrep, fun k hk => ?_⟩
      obtain ⟨h1, o, ho, hall⟩ := mem_ready.1 hk
      have hks : k < ops.size := (Array.getElem?_eq_some_iff.1 ho).1
      have hkl : k < listed.size := by omega
      have hoff : onL listed k = false := by unfold onL; simpa [hkl] using h1
      -- what has come is closed under what must come before
      have hbef : ∀ i, ((Region.before ops).getD k 0).testBit i = true → onL listed i = true := fun i hi => before_listed hcl k i o ho hi hall
      have hbef' : ∀ j oj, ops[j]? = some oj → onL listed j = true → ((Region.before ops).getD j 0).testBit k = false := fun j oj hj hon => by
        cases hb : ((Region.before ops).getD j 0).testBit k with
        | false => rfl
        | true =>
          have := before_listed hcl j k oj hj hb (fun e he hb' => hcl j oj hj hon e he hb')
          have : onL listed k = true := this
          rw [hoff] at this; cases this
      -- who else touches what operation k looks at or writes
      have slot : ∀ i oi t, ops[i]? = some oi → oi.dst = some t → i ≠ k → (t ∈ o.looksAt ops ∨ o.dst = some t) → onL listed i = decide (i < k) := by
        intro i oi t hi hdt hne ht
        rcases Nat.lt_or_gt_of_ne hne with hlt | hgt
        · rw [decide_eq_true hlt]
          rcases apart i k hlt oi o hi ho with h | ⟨h2, h3, -⟩
          · exact hbef i h
          · obtain ⟨g1, g2, g3⟩ := Oper.apart_spec h2
            rcases ht with ht | ht
            · exact absurd ht (g1 t hdt)
            · exact absurd ht (g2 t hdt)
        · rw [decide_eq_false (by omega)]
          rcases apart k i hgt o oi ho hi with h | ⟨h2, h3, -⟩
          · cases hon : onL listed i with
            | false => rfl
            | true => rw [hbef' i oi hi hon] at h; cases h
          · obtain ⟨g1, g2, g3⟩ := Oper.apart_spec h3
            rcases ht with ht | ht
            · exact absurd ht (g1 t hdt)
            · exact absurd ht (g2 t hdt)
      have block : ∀ i x, i < ops.size → (∃ p ∈ (outs i).wr, p.1 = x) → i ≠ k → (x ∈ (outs k).ri ∨ ∃ p ∈ (outs k).wr, p.1 = x) → onL listed i = decide (i < k) := by
        intro i x hi hx hne hw
        have hio : ops[i]? = some ops[i] := by simp [hi]
        have hxi : x ∈ (outs i).wr.map (·.1) := by obtain ⟨p, hp, e⟩ := hx; exact List.mem_map.2 ⟨p, hp, e⟩
        rcases Nat.lt_or_gt_of_ne hne with hlt | hgt
        · rw [decide_eq_true hlt]
          rcases apart i k hlt _ o hio ho with h | ⟨-, -, h4, h5⟩
          · exact hbef i h
          · have := disj_spec h4 hxi
            rcases hw with hw | ⟨p, hp, e⟩
            · exact absurd (List.mem_append.2 (.inl hw)) this
            · exact absurd (List.mem_append.2 (.inr (List.mem_map.2 ⟨p, hp, e⟩))) this
        · rw [decide_eq_false (by omega)]
          rcases apart k i hgt o _ ho hio with h | ⟨-, -, h4, h5⟩
          · cases hon : onL listed i with
            | false => rfl
            | true => rw [hbef' i _ hio hon] at h; cases h
          · rcases hw with hw | ⟨p, hp, e⟩
            · exact absurd hw (disj_spec h5 hxi)
            · exact absurd (List.mem_append.2 (.inr hxi)) (disj_spec h4 (List.mem_map.2 ⟨p, hp, e⟩))
      have lexA : ∀ t, (t ∈ o.looksAt ops ∨ o.dst = some t) → AI ops outs A0 (onL listed) ops.size t = AI ops outs A0 allOn k t := by
        intro t ht
        have e1 : AI ops outs A0 (onL listed) ops.size t = AI ops outs A0 (onL listed) k t := by
          refine AI_cut (by omega) (fun i h1 h2 hdt => ?_)
          have hio : ops[i]? = some ops[i] := by simp [h2]
          rw [hio] at hdt
          by_cases hik : i = k
          · rw [hik]; exact hoff
          · rw [slot i _ t hio hdt hik ht]; exact decide_eq_false (by omega)
        rw [e1]
        refine AI_agree (fun i hi hdt => ?_)
        have h2 : i < ops.size := by omega
        have hio : ops[i]? = some ops[i] := by simp [h2]
        rw [hio] at hdt
        rw [slot i _ t hio hdt (by omega) ht, decide_eq_true hi]; rfl
      have lexH : ∀ x, (x ∈ (outs k).ri ∨ ∃ p ∈ (outs k).wr, p.1 = x) → HI outs H0 (onL listed) ops.size x = HI outs H0 allOn k x := by
        intro x hx
        have e1 : HI outs H0 (onL listed) ops.size x = HI outs H0 (onL listed) k x := by
          refine HI_cut (by omega) (fun i h1 h2 hw => ?_)
          by_cases hik : i = k
          · rw [hik]; exact hoff
          · rw [block i x h2 hw hik hx]; exact decide_eq_false (by omega)
        rw [e1]
        refine HI_agree (fun i hi hw => ?_)
        rw [block i x (by omega) hw (by omega) hx, decide_eq_true hi]; rfl
      have hstep : StpR P ops o (id0 + 8 * k) (AI ops outs A0 (onL listed) ops.size) (HI outs H0 (onL listed) ops.size) (outs k) :=
        (hlex k o ho).local (fun t ht => lexA t (.inl ht)) (fun x hx => lexH x (.inl hx))
      refine hstep.wp hF ho hrep ⟨by omega, fun j hj => ?_⟩ (AI_top hA hd ops.size) (fun v w' hsg => ?_)
      · have hjk : j ≠ k := fun e => by rw [e, hoff] at hj; cases hj
        omega
      · obtain ⟨ρ', S', hr'⟩ := hsg.rep hrep o.dst
        have hset := fun i => onL_set (i := i) hkl
        have hfun : onL (listed.setIfInBounds k true) = fun i => if i = k then true else onL listed i := funext hset
        refine ih (listed.setIfInBounds k true) (by simpa using hsz) (fun j oj hj hon e he hb => ?_) ?_ ρ' S' _ _ (hr'.ext (fun t => ?_) (fun x => ?_) (fun i hi => ?_))
        · have hon' : onL (listed.setIfInBounds k true) j = true := hon
          show onL (listed.setIfInBounds k true) e.on = true
          rw [hset] at hon' ⊢
          by_cases hek : e.on = k
          · rw [if_pos hek]
          · rw [if_neg hek]
            by_cases hjk : j = k
            · subst hjk
              rw [ho] at hj; cases hj
              exact hall e he hb
            · rw [if_neg hjk] at hon'
              exact hcl j oj hj hon' e he hb
        · have hsub : ((List.range ops.size).filter fun i => !onL (listed.setIfInBounds k true) i).length < ((List.range ops.size).filter fun i => !onL listed i).length := by
            have e1 : ((List.range ops.size).filter fun i => !onL (listed.setIfInBounds k true) i) = ((List.range ops.size).filter fun i => !onL listed i).filter (fun i => i != k) := by
              rw [List.filter_filter]
              refine List.filter_congr (fun i _ => ?_)
              rw [hset]
              by_cases hik : i = k
              · simp [hik]
              · simp [hik]
            rw [e1]
            have hmem : k ∈ (List.range ops.size).filter fun i => !onL listed i := by simp [hks, hoff]
            exact List.length_filter_lt_length_iff_exists.2 ⟨k, hmem, by simp⟩
          omega
        · -- slots
          by_cases hdt : o.dst = some t
          · simp only [updS, hdt, if_true]
            have e1 : AI ops outs A0 (onL (listed.setIfInBounds k true)) ops.size t = AI ops outs A0 (onL (listed.setIfInBounds k true)) (k + 1) t := by
              refine AI_cut (by omega) (fun i h1 h2 hdi => ?_)
              have hio : ops[i]? = some ops[i] := by simp [h2]
              rw [hio] at hdi
              rw [hset, if_neg (by omega), slot i _ t hio hdi (by omega) (.inr hdt)]
              exact decide_eq_false (by omega)
            rw [e1]
            simp only [AI, hset, if_true, ho, Option.bind_some, updS, hdt]
          · rw [updS, if_neg hdt]
            refine AI_agree (fun i hi hdi => ?_)
            have hik : i ≠ k := fun e => by subst e; rw [ho] at hdi; exact hdt hdi
            rw [hset, if_neg hik]
        · -- blocks
          by_cases hw : ∃ p ∈ (outs k).wr, p.1 = x
          · have e1 : HI outs H0 (onL (listed.setIfInBounds k true)) ops.size x = HI outs H0 (onL (listed.setIfInBounds k true)) (k + 1) x := by
              refine HI_cut (by omega) (fun i h1 h2 hwi => ?_)
              rw [hset, if_neg (by omega), block i x h2 hwi (by omega) (.inr hw)]
              exact decide_eq_false (by omega)
            rw [e1]
            simp only [HI, hset, if_true]
            exact applyW_congr (.inl hw)
          · rw [applyW_out (fun p hp e => hw ⟨p, hp, e⟩)]
            refine HI_agree (fun i hi hwi => ?_)
            have hik : i ≠ k := fun e => by subst e; exact hw hwi
            rw [hset, if_neg hik]
        · -- free names
          refine ⟨⟨hi.1, fun j hj => hi.2 j ?_⟩, hi.2 k ?_⟩
          · rw [hset]; split <;> first | rfl | exact hj
          · rw [hset, if_pos rfl]
  have hoff0 : ∀ i, onL (Array.replicate ops.size false) i = false := fun i => by
    unfold onL
    rw [Array.getD_eq_getD_getElem?, Array.getElem?_replicate]
    split <;> rfl
  refine key ops.size (Array.replicate ops.size false) (by simp) (fun j o _ hon => ?_) ?_ ρ S a _ (hm.drew.ext (fun t => ?_) (fun x => ?_) (fun i hi => hi.1))
  · have := hoff0 j; unfold onL at this; rw [this] at hon; cases hon
  · exact Nat.le_trans (List.length_filter_le _ _) (by simp)
  · rw [AI_cut (m := 0) (Nat.zero_le _) (fun i _ _ _ => hoff0 i)]; rfl
  · rw [HI_cut (m := 0) (Nat.zero_le _) (fun i _ _ _ => hoff0 i)]; rfl
end
end Go.Proofs.Ytkklmkogdogbkaa.Sep
