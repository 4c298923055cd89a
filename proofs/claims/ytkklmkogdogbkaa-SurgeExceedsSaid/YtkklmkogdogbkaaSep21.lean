/-
  The small calculus, twenty-first part: into a function and out of it, in symbolic values. No condition. (This text proves no statement by itself.)
-/
import Derived.Test.YtkklmkogdogbkaaSep20b
namespace Go.Proofs.Ytkklmkogdogbkaa.Sep
open Go
set_option linter.unusedVariables false
set_option linter.unusedSimpArgs false

def noid1 : SV → Bool
  | .lit _ | .int .. | .bool _ | .sl .. | .sptr .. => true
  | _ => false
theorem noid1_den {m : Nat} {cs : List SV} (h : cs.all noid1 = true) : AV.idsLtL m (SV.denL cs) = true := by
  induction cs with
  | nil => rfl
  | cons c cs ih =>
    simp only [List.all_cons, Bool.and_eq_true] at h
    simp only [SV.denL, AV.idsLtL, Bool.and_eq_true]
    refine ⟨?_, ih h.2⟩
    have h1 := h.1
    cases c <;> first | (simp [noid1] at h1; done) | simp [SV.den, AV.idsLt]
/-- A block that ends as it should. -/
def leB (x y : SBlk) : Prop :=
  match y with
  | .dead => match x with
    | .cells cs => match cs.all noid1 with
      | true => True
      | false => False
    | _ => True
  | .cells ds => match x with
    | .cells cs => match cs.all noid1 with
      | true => leRow le1 cs ds
      | false => False
    | _ => False
  | .row s' n' g => match x with
    | .row s n f => match Nat.beq s s' with
      | true => n = n' ∧ ∀ k, k < n → leRow leA (f k) (g k)
      | false => False
    | _ => False
theorem leB_ok {x y : SBlk} {m : Nat} (h : leB x y) : x.den.le y.den ∧ x.den.idsLt m = true := by
  unfold leB at h
  split at h
  · refine ⟨⟨fun e => (by cases e), fun _ _ _ _ _ => trivial⟩, ?_⟩
    split at h
    · split at h
      · rename_i hc; exact noid1_den hc
      · exact h.elim
    · rename_i hx
      cases x with
      | cells cs => exact absurd rfl (hx cs)
      | _ => rfl
  · split at h
    · split at h
      · rename_i hc; exact ⟨.cells (leRow_ok le1_ok _ _ h), noid1_den hc⟩
      · exact h.elim
    · exact h.elim
  · split at h
    · split at h
      · rename_i hs
        have hs := beq_true hs
        subst hs
        obtain ⟨rfl, h⟩ := h
        exact ⟨.row (rows_le (fun k hk => leRow_ok leA_ok _ _ (h k hk))), rfl⟩
      · exact h.elim
    · exact h.elim
def leBs : Nat → List SBlk → SBlks → Prop → Prop
  | _, [], _, K => K
  | i, b :: bs, H, K =>
    match getB H i with
    | some c => leB c b ∧ leBs (i + 1) bs H K
    | none => False
theorem leBs_ok : ∀ {bs : List SBlk} {i : Nat} {H : SBlks} {K : Prop}, leBs i bs H K → K ∧ ∀ j b, bs[j]? = some b → ∃ c, getB H (i + j) = some c ∧ leB c b
  | [], i, H, K, h => ⟨h, fun j b e => by simp at e⟩
  | b :: bs, i, H, K, h => by
    simp only [leBs] at h
    split at h
    · rename_i c hc
      obtain ⟨h1, h2⟩ := h
      obtain ⟨h3, h4⟩ := leBs_ok h2
      refine ⟨h3, fun j b' e => ?_⟩
      cases j with
      | zero => simp at e; subst e; exact ⟨c, hc, h1⟩
      | succ j => simp at e; obtain ⟨c', g1, g2⟩ := h4 j b' e; exact ⟨c', by rw [← g1]; congr 1; omega, g2⟩
    · exact h.elim

/-- The values of the result variables. -/
def resS (P : Program) (A : SSlots) (H : SBlks) : List ResultVar → Option (List Prop × List SV)
  | [] => some ([], [])
  | .tmp t :: rs =>
    match resS P A H rs with
    | some q => some ((getS A t).grd ++ q.1, (getS A t).strip :: q.2)
    | none => none
  | .cell a T :: rs =>
    match memS P (.load T (.tmp a)) 0 (opdS A) (getB H) with
    | some out => match resS P A H rs with
      | some q => some (out.ps ++ q.1, out.val :: q.2)
      | none => none
    | none => none
theorem resS_ok {P : Program} {A : SSlots} {H : SBlks} : ∀ {rs : List ResultVar} {ps : List Prop} {vs : List SV}, resS P A H rs = some (ps, vs) → AllP ps → ∃ q, resVC P (denA A) (denB H) rs = some q ∧ q.1 ∧ LeL q.2 (SV.denL vs)
  | [], ps, vs, h, _ => by
    simp only [resS, Option.some.injEq, Prod.mk.injEq] at h
    obtain ⟨rfl, rfl⟩ := h
    exact ⟨(True, []), rfl, trivial, trivial⟩
  | .tmp t :: rs, ps, vs, h, hp => by
    simp only [resS] at h
    split at h
    · rename_i q hq
      cases h
      obtain ⟨hp1, hp2⟩ := AllP.app.1 hp
      obtain ⟨q', g1, g2, g3⟩ := resS_ok (ps := q.1) (vs := q.2) hq hp2
      refine ⟨(grd (getA (denA A) t) = true ∧ q'.1, strip (getA (denA A) t) :: q'.2), by simp only [resVC, g1, Option.map_some], ⟨by rw [getA_den]; exact den_grd hp1, g2⟩, ?_⟩
      simp only [SV.denL]
      exact ⟨by rw [getA_den, den_strip]; exact .refl _, g3⟩
    · cases h
  | .cell a T :: rs, ps, vs, h, hp => by
    simp only [resS] at h
    split at h
    · rename_i out ho
      split at h
      · rename_i q hq
        cases h
        obtain ⟨hp1, hp2⟩ := AllP.app.1 hp
        obtain ⟨q', g1, g2, g3⟩ := resS_ok (ps := q.1) (vs := q.2) hq hp2
        obtain ⟨out', e1, e2, e3⟩ := memS_sound ho hp1
        refine ⟨(out'.cond ∧ q'.1, out'.val :: q'.2), by simp only [resVC, opdS_den, getH_den, e1, g1, Option.map_some], ⟨e2, g2⟩, ?_⟩
        simp only [SV.denL]
        exact ⟨e3.val, g3⟩
      · cases h
    · cases h

def packS : List SV → SV
  | [x] => x
  | xs => .tup xs
theorem packS_den : ∀ {xs : List AV} {vs : List SV}, LeL xs (SV.denL vs) → (packR xs).le (packS vs).den
  | [], [], _ => .tup trivial
  | [x], [v], h => h.1
  | x :: y :: xs, v :: u :: vs, h => .tup h
  | [], v :: vs, h => h.elim
  | [x], [], h => h.elim
  | [x], v :: u :: vs, h => h.2.elim
  | x :: y :: xs, [], h => h.elim
  | x :: y :: xs, [v], h => h.2.elim

/-- What must hold where a function ends. -/
def retS (P : Program) (rs : List ResultVar) (r : SV) (Hs' : List SBlk) : SPost := fun e A H _ =>
  match e with
  | .normal | .ret =>
    match resS P A H rs with
    | some (ps, vs) => allP ps <| match coe3 (getB H) (packS vs) with
      | some (qs, Z, y) => allP qs <|
        match Z.all (fun i => Nat.ble Hs'.length i) with
        | true => leBs 0 Hs' H (force3 y fun y => le3 y r)
        | false => False
      | none => False
    | none => False
  | _ => False

theorem retS_ok {P : Program} {rs : List ResultVar} {r : SV} {Hs' : List SBlk} {e : Exit} {A : SSlots} {H : SBlks} {nx : Cnt} (h : retS P rs r Hs' e A H nx) :
    (e = .normal ∨ e = .ret) ∧ ∃ q, resVC P (denA A) (denB H) rs = some q ∧ q.1 ∧ ∃ (x y : AV) (Z : List Nat), (packR q.2).le x ∧ Coe (getH (denB H)) Z x y ∧ y.idless = true ∧ y.le r.den ∧ (∀ i ∈ Z, Hs'.length ≤ i ∧ ∃ k, getH (denB H) i = some k ∧ k.live = true) ∧
      ∀ i b, Hs'[i]? = some b → ∃ c, getH (denB H) i = some c ∧ c.le b.den ∧ c.idsLt Hs'.length = true := by
  unfold retS at h
  have key : (match resS P A H rs with
    | some (ps, vs) => allP ps <| match coe3 (getB H) (packS vs) with
      | some (qs, Z, y) => allP qs <|
        match Z.all (fun i => Nat.ble Hs'.length i) with
        | true => leBs 0 Hs' H (force3 y fun y => le3 y r)
        | false => False
      | none => False
    | none => False) → ∃ q, resVC P (denA A) (denB H) rs = some q ∧ q.1 ∧ ∃ (x y : AV) (Z : List Nat), (packR q.2).le x ∧ Coe (getH (denB H)) Z x y ∧ y.idless = true ∧ y.le r.den ∧ (∀ i ∈ Z, Hs'.length ≤ i ∧ ∃ k, getH (denB H) i = some k ∧ k.live = true) ∧
      ∀ i b, Hs'[i]? = some b → ∃ c, getH (denB H) i = some c ∧ c.le b.den ∧ c.idsLt Hs'.length = true := by
    intro h
    split at h
    · rename_i ps vs hr
      obtain ⟨h1, h2⟩ := allP_iff.1 h
      split at h2
      · rename_i qs Z y hc
        obtain ⟨h3, h4⟩ := allP_iff.1 h2
        split at h4
        · rename_i hz
          obtain ⟨h5, h6⟩ := leBs_ok h4
          rw [force3_eq] at h5
          obtain ⟨q, g1, g2, g3⟩ := resS_ok hr h1
          obtain ⟨a1, a2, a3⟩ := coe3_ok _ _ _ _ _ hc h3
          refine ⟨q, g1, g2, _, _, Z, packS_den g3, by rw [getH_den]; exact a1, a2, le3_ok _ _ h5, fun i hi => ⟨Nat.le_of_ble_eq_true (List.all_eq_true.1 hz i hi), ?_⟩, fun i b hb => ?_⟩
          · obtain ⟨k, k1, k2⟩ := a3 i hi
            exact ⟨k.den, by rw [getH_den]; exact denH_some k1, k2⟩
          · obtain ⟨c, c1, c2⟩ := h6 i b hb
            obtain ⟨d1, d2⟩ := leB_ok (m := Hs'.length) c2
            exact ⟨c.den, by rw [getH_den]; exact denH_some (by simpa using c1), d1, d2⟩
        · exact h4.elim
      · exact h2.elim
    · exact h.elim
  split at h
  · exact ⟨.inl rfl, key h⟩
  · exact ⟨.inr rfl, key h⟩
  · exact h.elim

def argsS : Nat → List SV → SSlots
  | _, [] => []
  | k, x :: xs => (k, x) :: argsS (k + 1) xs
def idxB : Nat → List SBlk → SBlks
  | _, [] => []
  | k, x :: xs => (k, x) :: idxB (k + 1) xs
theorem denA_argsS : ∀ (xs : List SV) (k : Nat), denA (argsS k xs) = argsA k (SV.denL xs)
  | [], k => rfl
  | x :: xs, k => by simp only [argsS, SV.denL, argsA, ← denA_argsS xs (k + 1)]; rfl
theorem denB_idxB : ∀ (xs : List SBlk) (k : Nat), denB (idxB k xs) = idxH k (xs.map SBlk.den)
  | [], k => rfl
  | x :: xs, k => by simp only [idxB, List.map_cons, idxH, ← denB_idxB xs (k + 1)]; rfl

theorem Ctx.Re.trans {C C' C'' : Ctx} (h : C.Re C') (h' : C'.Re C'') : C.Re C'' where
  size := Nat.le_trans h.size h'.size
  shape b s e := h'.shape b s (h.shape b s e)
  old b hb hx := (h'.old b (Nat.lt_of_lt_of_le hb h.size) (fun e => by
    rcases h.x1 b e with h1 | h1
    · exact hx h1
    · omega)).trans (h.old b hb hx)
  keep b vs T fz e e' := h'.keep b vs T fz (h.s0 b e) (h.keep b vs T fz e e')
  s0 b e := h'.s0 b (h.s0 b e)
  s2 := h'.s2
  s3 b e := by
    rcases h'.s3 b e with h1 | h1
    · rcases h.s3 b h1 with h2 | h2
      · exact .inl h2
      · exact .inr (h'.x b h2)
    · exact .inr h1
  x b e := h'.x b (h.x b e)
  x1 b e := by
    rcases h'.x1 b e with h1 | ⟨h1, h2⟩
    · rcases h.x1 b h1 with h2 | ⟨h2, h3⟩
      · exact .inl h2
      · exact .inr ⟨h2, Nat.lt_of_lt_of_le h3 h'.size⟩
    · exact .inr ⟨Nat.le_trans h.size h1, h2⟩
  ox := h'.ox

/-- Nobody is there to hand values on to. -/
def YEnv.triv (P : Program) (C0 : Ctx) : YEnv P YS.none where
  G _ _ C := C0.Re C
  re h h' := h.trans h'
  ox h := h.ox
  off _ := fun h => h
  idl _ := rfl
  call h := by cases h

/-- INTO A FUNCTION: its contract is what is left to show of its body. -/
theorem Spec.enterS {P : Program} {E : Eqs} (hE : EqsOK P E) {O : Orc} (hO : OrcOK P O) (hmix : P.follows .mixedOrders = true) (ck : Bool) (L : List Nat) (LO : Loops) {f : FuncId} {fn : Func} {code : Code} {xs : List SV} {Hs Hs' : List SBlk} {r : SV}
    (hf : P.funcs[f]? = some fn) (hn : (fn.name == "runtime.NumGoroutine") = false) (hb : fn.body = some code) (hxs : xs.length ≤ fn.ntmps) (hlen : Hs'.length = Hs.length) (hL : ∀ Y : YEnv P YS.none, LoopsOK Y Fence.wide fn.ntmps Hs.length LO code)
    (h : vcS P E O ck YS.none fn.ntmps L LO code (retS P fn.results.toList r Hs') (argsS 0 xs) (idxB 0 Hs) ⟨Hs.length, 0, false⟩) : Spec P f (SV.denL xs) (Hs.map SBlk.den) r.den (Hs'.map SBlk.den) := by
  refine ⟨Ent.of hf hn (by rw [hb]; rfl), by simp; omega, fun ρ0 S w vs hmem hargs => ?_⟩
  refine callsIn_wide.1 (callsIn_of_wp_marks (F := Fence.wide) (n := 0) hf hb trivial ?_)
  have hsz : vs.size = xs.length := by rw [hargs.1, denL_length]
  have hrep : Rep (Ctx.of w ρ0 S) fn.ntmps ρ0 S (getA (denA (argsS 0 xs))) (getH (denB (idxB 0 Hs))) (fun i => Hs.length ≤ i) { tmps := vs ++ Array.replicate (fn.ntmps - vs.size) undef, defers := [] } w := by
    rw [denA_argsS, denB_idxB]
    refine ⟨?_, by simp [hsz]; omega, fun t v e => ?_, ⟨[], rfl, List.nodup_nil, fun n hn => by cases hn⟩, fun _ e => e⟩
    · have : getH (idxH 0 (Hs.map SBlk.den)) = ((Hs.map SBlk.den)[·]?) := by funext i; rw [getH_idxH]; simp
      rw [this]
      simpa using hmem
    · rw [getA_argsA]
      simp only [Nat.zero_le, if_true, Nat.sub_zero]
      rcases Nat.lt_or_ge t (SV.denL xs).length with hlt | hge
      · rw [Array.getElem?_append_left (by rw [hargs.1]; exact hlt)] at e
        exact hargs.2 t _ v (by simp [List.getD, hlt]) e
      · rw [show (SV.denL xs).getD t .top = .top by simp [List.getD, List.getElem?_eq_none hge]]; exact .top _
  have hw := vcS_sound hE hO FOK.wide hmix (Y := YEnv.triv P (Ctx.of w ρ0 S)) code (hL _) _ _ _ _ h
  have hG : (YEnv.triv P (Ctx.of w ρ0 S)).G 0 false (Ctx.of w ρ0 S) := ⟨Nat.le_refl _, fun _ _ e => e, fun _ _ _ => rfl, fun _ _ _ _ _ e => e, fun _ e => e, hmem.sin, fun _ e => .inl e, fun _ e => e, fun _ e => .inl e, fun _ e => e⟩
  refine wpIn_mono (hw _ ρ0 S _ w (fun i hi => (hmem.free i (by simpa using hi)).2) hG hrep (fun t ht => ?_)) ?_
  · rw [denA_argsS, getA_argsA]
    simp only [Nat.zero_le, if_true, Nat.sub_zero]
    simp [List.getD, List.getElem?_eq_none (show (SV.denL xs).length ≤ t by rw [denL_length]; omega)]
  · rintro e a' w' ⟨C', ρ', S', A', H', nx', hC, hg', hr1, ht', SA, SH, rfl, rfl, hret⟩
    have hg' : (Ctx.of w ρ0 S).Re C' := hg'
    have hr' : Rep (Ctx.of w ρ0 S) fn.ntmps ρ' S' (getA (denA SA)) (getH (denB SH)) (fun i => nx'.n ≤ i) a' w' := by
      refine ⟨hr1.mem.back hg' (by rw [hC.ρ0]; exact Names.le.refl _) (fun _ e => e), hr1.size, hr1.slots, ?_, fun n e => hr1.dk n (hC.dk n e)⟩
      obtain ⟨ns, g1, g2, g3⟩ := hr1.marks
      refine ⟨ns, g1, g2, fun n hn => ⟨?_, (g3 n hn).2⟩⟩
      rcases (g3 n hn).1 with h1 | h1
      · exact (hg'.x1 n (hg'.ox n h1)).imp id (·.1)
      · exact .inr (Nat.le_trans hg'.size h1)
    obtain ⟨he, q, hq, hqc, x, y, Z, hx, hcoe, hidl, hyr, hZ, hfin⟩ := retS_ok hret
    have hend : LeavesInM Fence.wide 0 P fn a'.tmps (fun e w'' => ∃ v, e = .returned v ∧ ∃ ρ'' S'', Mem (Ctx.of w ρ0 S) ρ'' S'' ((Hs'.map SBlk.den)[·]?) (fun i => (Hs'.map SBlk.den).length ≤ i) w'' ∧ Rel S'' w'' ρ'' r.den v) a'.defers .returning w' := by
      obtain ⟨ns, hds, hnd, hns⟩ := hr'.marks
      rw [hds]
      refine leaves_marks (C := (Ctx.of w ρ0 S)) (fun w'' => Mem (Ctx.of w ρ0 S) ρ' S' (getH (denB SH)) (fun i => nx'.n ≤ i) w'' ∧ ∀ t v, a'.tmps[t]? = some v → Rel S' w'' ρ' (getA (denA SA) t) v) (fun w'' hq'' => ?_) (fun w1 n hr1 h1 h2 => ?_) ns w' hnd hns ⟨hr'.mem, hr'.slots⟩
      · have hr'' : Rep ((Ctx.of w ρ0 S).again w'' S') fn.ntmps ρ' S' (getA (denA SA)) (getH (denB SH)) (fun i => nx'.n ≤ i) ⟨a'.tmps, []⟩ w'' := ⟨hq''.1.again, hr'.size, hq''.2, ⟨[], rfl, List.nodup_nil, fun n hn => by cases hn⟩, fun _ e => e⟩
        obtain ⟨v, hres, hrel⟩ := run_results (fn := fn) hr'' ht' hq hqc
        have hv := hyr _ _ _ _ ((hcoe.rel hq''.1 (hx _ _ _ _ hrel)).idless hidl)
        refine ⟨v, hres, v, rfl, Sep.below Hs.length ρ', frozenS S' ρ' Z, ?_, hv.mono (Kept.refl _ _) (fun _ e => e) (fun i b e => by cases e)⟩
        have hfz := hq''.1.freeze Z (fun i hi => (hZ i hi).2)
        let Hm : List Blk := (List.range Hs.length).map fun i => (getH (denB SH) i).getD .dead
        have hm : ∀ i, i < Hs.length → ∃ c b, getH (denB SH) i = some c ∧ Hs'[i]? = some b ∧ Hm[i]? = some c ∧ c.le b.den ∧ c.idsLt Hs.length = true := fun i hi => by
          obtain ⟨b, hb⟩ : ∃ b, Hs'[i]? = some b := ⟨Hs'[i]'(by omega), by simp⟩
          obtain ⟨c, c1, c2, c3⟩ := hfin i b hb
          exact ⟨c, b, c1, hb, by simp [Hm, List.getElem?_map, List.getElem?_range hi, c1], c2, by rw [← hlen]; exact c3⟩
        have := hfz.restrict (m := Hs.length) (Hs := Hm) (fun i hi => (hmem.free i (by simpa using hi)).2) (by simp [Hm]) (fun i hi => by
          have hz : i ∉ Z := fun e => by have := (hZ i e).1; omega
          obtain ⟨c, b, c1, c2, c3, c4, c5⟩ := hm i hi
          rw [if_neg hz]
          exact ⟨by rw [c1, c3], fun k e => by rw [c3] at e; cases e; exact c5⟩)
        have := this.le (H' := ((Hs'.map SBlk.den)[·]?)) (fun i => by
          rcases Nat.lt_or_ge i Hs.length with hi | hi
          · obtain ⟨c, b, c1, c2, c3, c4, c5⟩ := hm i hi
            exact .inr ⟨c, b.den, c3, by simp [List.getElem?_map, c2], c4⟩
          · exact .inl ⟨List.getElem?_eq_none (by simp [Hm]; exact hi), List.getElem?_eq_none (by simp; omega)⟩)
        refine this.less (fun i hi => ?_)
        simp at hi
        omega
      · obtain ⟨hm2, hk2⟩ := hr1.1.turn (w' := w1.putObj n (.deferred none)) (n := n) h1 (fun vs T fz e => by rw [h2] at e; cases e) (by simp [World.putObj]) (fun c hc => World.putObj_heap_other hc) ⟨rfl, rfl⟩
        exact ⟨hm2, fun t v e => (hr1.2 t v e).mono hk2 (fun _ e => e) (Names.le.refl _)⟩
    rcases he with rfl | rfl
    · exact hend
    · exact hend

end Go.Proofs.Ytkklmkogdogbkaa.Sep
