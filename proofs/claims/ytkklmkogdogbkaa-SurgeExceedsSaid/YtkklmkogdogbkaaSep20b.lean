/-
  The small calculus, twentieth part, second half: what is left to show of a piece of code, in symbolic values. No condition. (This text proves no statement by itself.)
-/
import Derived.Test.YtkklmkogdogbkaaSep20
namespace Go.Proofs.Ytkklmkogdogbkaa.Sep
open Go
set_option linter.unusedVariables false
set_option linter.unusedSimpArgs false

/-- A call of yield. -/
def yieldOf (A : SSlots) (o : Op) : Option (List Prop × Nat × List SV) :=
  match o with
  | .call { callee := .value fo, args, argTypes := _ } =>
    match (opdS A fo).strip with
    | .lit (.func (.yield l) xs ys) =>
      match xs.toList, ys.toList with
      | [], [] => some ((opdS A fo).grd ++ args.toList.flatMap (fun x => (opdS A x).grd), l, args.toList.map fun x => (opdS A x).strip)
      | _, _ => none
    | _ => none
  | _ => none

section
variable (P : Program) (E : Eqs) (O : Orc) (ck : Bool) (ys : YS)

/-- A region whose operations come in the order of the text. -/
def runL (ops : Array Oper) (id0 : Nat) : List Oper → Nat → SSlots → SBlks → Nat → Bool → (SSlots → SBlks → Nat → Bool → Prop) → Prop
  | [], _, A, H, k, go, K => K A H k go
  | o :: rest, i, A, H, k, go, K =>
    match yieldOf A o.op with
    | some (ps, l, args) =>
      match ys.on with
      | false => False
      | true =>
        match o.guard with
        | none => allP ps (go = true ∧ l = ys.l ∧ k < ys.n ∧ leRow le2 args (ys.f k) ∧ runL ops id0 rest (i + 1) (putS A o.dst (.bool true)) H (k + 1) true K ∧ runL ops id0 rest (i + 1) (putS A o.dst (.bool false)) H (k + 1) false K)
        | some (j, want) =>
          match (ops[j]?).bind (·.dst) with
          | some d =>
            match gvS (getS A d) want with
            | some c => (c = true → allP ps (go = true ∧ l = ys.l ∧ k < ys.n ∧ leRow le2 args (ys.f k) ∧ runL ops id0 rest (i + 1) (putS A o.dst (.bool true)) H (k + 1) true K ∧ runL ops id0 rest (i + 1) (putS A o.dst (.bool false)) H (k + 1) false K)) ∧
                (c = false → runL ops id0 rest (i + 1) (putS A o.dst (.when false (.bool false))) H k go K)
            | none => False
          | none => False
    | none => stepS P E O ck ops o (id0 + 8 * i) A H fun out => force4 out.val fun v => forceW out.wr H fun H' =>
      match o.dst with
      | some d => runL ops id0 rest (i + 1) ((d, v) :: A) H' k go K
      | none => runL ops id0 rest (i + 1) A H' k go K

variable (N : Nat) (L : List Nat) (LO : Loops)

/-- What is left to show of a piece of code. -/
def vcS : Code → SPost → SSlots → SBlks → Cnt → Prop
  | .skip, Q, A, H, nx => Q .normal A H nx
  | .label _, Q, A, H, nx => Q .normal A H nx
  | .ret, Q, A, H, nx => Q .ret A H nx
  | .exit j, Q, A, H, nx => Q (.exit j) A H nx
  | .seq x y, Q, A, H, nx => vcS x (seqS (vcS y Q) Q) A H nx
  | .cond c x y, Q, A, H, nx =>
    match (opdS A c).strip with
    | .bool b => allP (opdS A c).grd ((b = true → vcS x Q A H nx) ∧ (b = false → vcS y Q A H nx))
    | _ => False
  | .block id c, Q, A, H, nx =>
    match loopAt LO id with
    | some T => T Q A H nx
    | none => vcS c (blockS id Q) A H nx
  | .region _ ops d, Q, A, H, nx =>
    match d with
    | true => runS P E O ck ops nx.n ops.toList 0 A H [] fun A' H' tr =>
      match regOK N true ops tr.reverse with
      | true => pruneK L A' fun A'' => forceN (nx.n + 8 * ops.size) fun nx' => Q .normal A'' H' ⟨nx', nx.k, nx.go⟩
      | false => False
    | false =>
      match dstsOK N ops with
      | true => runL P E O ck ys ops nx.n ops.toList 0 A H nx.k nx.go fun A' H' k go => pruneK L A' fun A'' => forceN (nx.n + 8 * ops.size) fun nx' => Q .normal A'' H' ⟨nx', k, go⟩
      | false => False
  | _, _, _, _, _ => False
end

/-- The blocks with this number. -/
def blksOf (id : Nat) : Code → List Code
  | .seq x y => blksOf id x ++ blksOf id y
  | .cond _ x y => blksOf id x ++ blksOf id y
  | .block j c => match Nat.beq j id with
    | true => c :: blksOf id c
    | false => blksOf id c
  | .loop c => blksOf id c
  | _ => []

def LoopsOK {P : Program} {ys : YS} (Y : YEnv P ys) (F : Fence) (N m : Nat) (LO : Loops) (code : Code) : Prop := ∀ p ∈ LO, ∀ c ∈ blksOf p.1 code, ∀ Q A H nx, p.2 Q A H nx → WPS Y F N m (.block p.1 c) Q A H nx

theorem WPS.mono {P : Program} {ys : YS} {Y : YEnv P ys} {F : Fence} {N m : Nat} {c : Code} {Q Q' : SPost} {A : SSlots} {H : SBlks} {nx : Cnt} (h : WPS Y F N m c Q A H nx) (hq : ∀ e A H nx, Q e A H nx → Q' e A H nx) : WPS Y F N m c Q' A H nx := fun C ρ S a w h0 hg hr ht =>
  wpIn_mono (h C ρ S a w h0 hg hr ht) (by rintro e a' w' ⟨C', ρ', S', A', H', nx', h1, h2, h3, h4, SA, SH, e1, e2, h5⟩; exact ⟨C', ρ', S', A', H', nx', h1, h2, h3, h4, SA, SH, e1, e2, hq _ _ _ _ h5⟩)

/-- A call of yield, as the machine makes it. -/
theorem yield_wp {P : Program} {F : Fence} (hF : FOK F) {o : Oper} {a : Act} {w : World} {cl : Call} {fo : Operand} {l : Nat} {R : Ending → World → Prop} {K : Act → World → Prop} {Q : Exit → Act → World → Prop} (ho : o.op = .call cl) (hcl : cl.callee = .value fo) (he : a.eval fo = .func (.yield l) #[] #[])
    (h : YieldAt Fence.wide 0 P l (cl.args.map a.eval) w R) (hK : ∀ e w', R e w' → ∃ v, e = .returned v ∧ K (a.put o.dst v) w') : o.wpIn F 0 P a w K Q := by
  have hd : ∀ c, o.op ≠ .defer c := fun c e => by rw [ho] at e; cases e
  refine ⟨fun f _ => hF.fn f, ?_⟩
  rw [Oper.semAt_eq _ _ _ hd]
  obtain ⟨fn, tmps, assign, body, h1, h2⟩ := hF.rounds h
  have hrun : (execOp a.eval o).run P w = .ok (.round l fn tmps assign body) w := by
    have : execOp a.eval o = (do let d ← resolve a.eval cl o.type; invoke d.target d.args) := by
      unfold execOp; rw [ho]
    rw [this]
    simp only [resolve, hcl, Deferred.ofValue, he, Sem.run_bind, Sem.run_pure, Result.andThen_ok, invoke, Array.empty_append, Array.append_empty]
    exact h1
  rw [hrun, Oper.uponIn_round]
  refine ⟨(fun hd => by (rw [hF.depth] at hd; cases hd)), h2.mono ?_⟩
  intro e w' hR
  obtain ⟨v, rfl, hk⟩ := hK e w' hR
  exact hk

theorem yieldOf_some {A : SSlots} {o : Op} {ps : List Prop} {l : Nat} {args : List SV} (h : yieldOf A o = some (ps, l, args)) : ∃ cl fo, o = .call cl ∧ cl.callee = .value fo ∧ (opdS A fo).strip = .lit (.func (.yield l) #[] #[]) ∧ ps = (opdS A fo).grd ++ cl.args.toList.flatMap (fun x => (opdS A x).grd) ∧ args = cl.args.toList.map fun x => (opdS A x).strip := by
  unfold yieldOf at h
  split at h
  · rename_i fo ars at'
    split at h
    · rename_i l' xs ys hs
      split at h
      · rename_i h1 h2
        simp only [Option.some.injEq, Prod.mk.injEq] at h
        obtain ⟨rfl, rfl, rfl⟩ := h
        refine ⟨_, fo, rfl, rfl, ?_, rfl, rfl⟩
        rw [hs]
        cases xs; cases ys
        simp only at h1 h2
        subst h1; subst h2; rfl
      · cases h
    · cases h
  · cases h

section
variable {P : Program} {E : Eqs} (hE : EqsOK P E) {O : Orc} (hO : OrcOK P O) {ck : Bool} {F : Fence} (hF : FOK F) (hmix : P.follows .mixedOrders = true) {ys : YS} {Y : YEnv P ys} {N m : Nat} {L : List Nat} {LO : Loops}
include hE hO hF

theorem runL_sound {ops : Array Oper} {id0 : Nat} (hd : dstsOK N ops = true) {C0 : Ctx} {Q : Exit → Act → World → Prop} {KK : SSlots → SBlks → Nat → Bool → Prop}
    (hQ : ∀ C ρ S a w A H k go, C0.Le C → Y.G k go C → Rep C N ρ S (getA (denA A)) (getH (denB H)) (fun i => id0 + 8 * ops.size ≤ i) a w → (∀ t, N ≤ t → getA (denA A) t = .top) → KK A H k go → Q .normal a w) :
    ∀ (n i : Nat) (rest : List Oper), rest = ops.toList.drop i → i + n = ops.size → ∀ (C : Ctx) (ρ : Names) (S : Nat → Prop) (a : Act) (w : World) (A : SSlots) (H : SBlks) (k : Nat) (go : Bool), C0.Le C → Y.G k go C → Rep C N ρ S (getA (denA A)) (getH (denB H)) (fun j => id0 + 8 * i ≤ j) a w →
      (∀ t, N ≤ t → getA (denA A) t = .top) → runL P E O ck ys ops id0 rest i A H k go KK → wpOpsIn F 0 P ops Q (List.range' i n) a w := by
  intro n
  induction n with
  | zero =>
    intro i rest hrest hi C ρ S a w A H k go hC hg hr ht h
    have : i = ops.size := by omega
    subst this
    have : rest = [] := by rw [hrest]; exact List.drop_of_length_le (by simp)
    subst this
    exact hQ C ρ S a w A H k go hC hg hr ht h
  | succ n ih =>
    intro i rest hrest hi C ρ S a w A H k go hC hg hr ht h
    have hlt : i < ops.size := by omega
    have hdr := List.drop_eq_getElem_cons (l := ops.toList) (i := i) (by simpa using hlt)
    rw [hdr] at hrest
    subst hrest
    have hok : ops[i]? = some ops.toList[i] := by simp [hlt]
    generalize ops.toList[i] = o at hok h
    have htop : ∀ (v : SV) t, N ≤ t → getA (denA (putS A o.dst v)) t = .top := fun v t htt => by
      rw [denA_putS, getA_setA]
      simp only [updS]
      rw [if_neg]
      · exact ht t htt
      · intro e
        have := Array.all_eq_true_iff_forall_mem.1 hd o (Array.mem_of_getElem? hok)
        rw [e] at this
        have h : decide (t < N) = true := this
        have h' := of_decide_eq_true h
        omega
    rw [List.range'_succ, wpOpsIn_cons]
    rw [runL] at h
    split at h
    · rename_i ps l args hy
      split at h
      · exact h.elim
      · rename_i hon
        obtain ⟨cl, fo, ho, hcl, hfo, hps, hargs⟩ := yieldOf_some hy
        have hopd := opd_rel hr ht
        rw [opdS_den] at hopd
        have main : allP ps (go = true ∧ l = ys.l ∧ k < ys.n ∧ leRow le2 args (ys.f k) ∧ runL P E O ck ys ops id0 (ops.toList.drop (i + 1)) (i + 1) (putS A o.dst (.bool true)) H (k + 1) true KK ∧ runL P E O ck ys ops id0 (ops.toList.drop (i + 1)) (i + 1) (putS A o.dst (.bool false)) H (k + 1) false KK) →
            o.wpIn F 0 P a w (wpOpsIn F 0 P ops Q (List.range' (i + 1) n)) Q := fun h => by
          obtain ⟨hp, hgo, hl, hk, hle, h1, h2⟩ := allP_iff.1 h
          subst hgo; subst hl
          rw [hps] at hp
          obtain ⟨hp1, hp2⟩ := AllP.app.1 hp
          have hfv := (hopd fo).strip (den_grd hp1)
          rw [den_strip, hfo] at hfv
          have hev : a.eval fo = .func (.yield ys.l) #[] #[] := hfv.lit_inv
          have hcs : RelCs S w ρ (cl.args.toList.map fun x => strip (opdS A x).den) (cl.args.map a.eval) := rel_map (grd_all hp2) hopd
          rw [← denL_map, ← hargs] at hcs
          have hle' := leRow_ok le2_ok _ _ hle
          have hcs' : RelCs S w noNames (SV.denL (ys.f k)) (cl.args.map a.eval) := by
            refine ⟨by rw [hcs.1, hle'.len], fun q c v e1 e2 => ?_⟩
            obtain ⟨x, hx, hxc⟩ := hle'.get e1
            exact (hxc _ _ _ _ (hcs.2 q x v hx e2)).idless (idlessL_get (Y.idl k) e1)
          have hre := hr.mem.re (Y.ox hg)
          have hY := Y.call hon hk (Y.re hg hre) hr.mem.sin hcs'
          refine yield_wp hF ho hcl hev hY ?_
          rintro e w' ⟨b, rfl, hs, hsh, hcells, hsame, hdk, hg'⟩
          refine ⟨_, rfl, ?_⟩
          obtain ⟨hm', hkept, hCle⟩ := hr.mem.yielded (Y.ox hg) hs hsh hcells hsame (fun n e => hdk n (hr.dk n e))
          have hr' : Rep { C.again w S with w0 := w' } N ρ S (getA (denA A)) (getH (denB H)) (fun j => id0 + 8 * i ≤ j) a w' := by
            refine ⟨hm', hr.size, fun t v e => (hr.slots t v e).mono hkept (fun _ e => e) (Names.le.refl _), ?_, fun _ e => e⟩
            obtain ⟨ns, g1, g2, g3⟩ := hr.marks
            refine ⟨ns, g1, g2, fun q hq => ?_⟩
            obtain ⟨g4, g5⟩ := g3 q hq
            have hqw := (Array.getElem?_eq_some_iff.1 g5).1
            have hO : (C.again w S).O q := g4.imp id fun e => ⟨e, hqw⟩
            exact ⟨.inl hO, (hsame q (hre.ox q hO)).trans g5⟩
          have hput := hr'.put o.dst (v := .bool b) (x := (SV.bool b).den) (.lit _)
          have hfin : runL P E O ck ys ops id0 (ops.toList.drop (i + 1)) (i + 1) (putS A o.dst (.bool b)) H (k + 1) b KK := by cases b <;> assumption
          refine ih (i + 1) _ rfl (by omega) _ ρ S _ w' (putS A o.dst (.bool b)) H (k + 1) b (hC.trans hCle) hg' (hput.ext (fun t => by rw [denA_putS, getA_setA]) (fun _ => rfl) (fun j hj => by omega)) (htop _) hfin
        unfold wpOpIn
        simp only [hok]
        split at h
        · rename_i hgd
          rw [if_pos (by simp [Region.wanted, hgd])]
          exact main h
        · rename_i j want hgd
          split at h
          · rename_i d hdd
            split at h
            · rename_i c hc
              have hc' := gvS_den hc
              rw [← getA_den] at hc'
              rw [wanted_gv hr ht hgd hdd hc']
              cases hcc : c
              · simp only [Bool.false_eq_true, if_false]
                have hput := hr.put o.dst (v := undef) (x := (SV.when false (.bool false)).den) (.when (fun e => by cases e) (fun _ => rfl))
                exact ⟨fun f _ => hF.fn f, ih (i + 1) _ rfl (by omega) C ρ S _ w (putS A o.dst (.when false (.bool false))) H k go hC hg (hput.ext (fun t => by rw [denA_putS, getA_setA]) (fun _ => rfl) (fun j hj => by omega)) (htop _) (h.2 hcc)⟩
              · simp only [if_true]
                exact main (h.1 hcc)
            · exact h.elim
          · exact h.elim
    · obtain ⟨out, hst, hK⟩ := stepS_sound hE hO h
      rw [force4_eq, forceW_eq] at hK
      have hK' : runL P E O ck ys ops id0 (ops.toList.drop (i + 1)) (i + 1) (putS A o.dst out.val) (putB H out.wr) k go KK := by
        cases hdst : o.dst <;> (simp only [hdst] at hK; exact hK)
      refine hst.wp hF hok hr (by omega) ht (fun v w' hsg => ?_)
      obtain ⟨ρ', S', hr'⟩ := hsg.rep hr o.dst
      exact ih (i + 1) _ rfl (by omega) C ρ' S' _ w' _ _ k go hC hg (hr'.ext (fun t => by rw [denA_putS, getA_setA]; rfl) (fun j => by rw [denB_putB, getH_setH]; rfl) (fun j hj => by omega)) (htop _) hK'

include hmix
theorem vcS_sound : ∀ (c : Code), LoopsOK Y F N m LO c → ∀ (Q : SPost) (A : SSlots) (H : SBlks) (nx : Cnt), vcS P E O ck ys N L LO c Q A H nx → WPS Y F N m c Q A H nx := by
  intro c
  induction c with
  | skip => intro _ Q A H nx h C ρ S a w h0 hg hr ht; exact wpIn_skip (.of hg hr ht h)
  | label l => intro _ Q A H nx h C ρ S a w h0 hg hr ht; exact wpIn_label (.of hg hr ht h)
  | ret => intro _ Q A H nx h C ρ S a w h0 hg hr ht; exact wpIn_ret (.of hg hr ht h)
  | exit j => intro _ Q A H nx h C ρ S a w h0 hg hr ht; exact wpIn_exit (.of hg hr ht h)
  | seq x y ihx ihy =>
    intro hL Q A H nx h C ρ S a w h0 hg hr ht
    have hLx : LoopsOK Y F N m LO x := fun p hp c hc => hL p hp c (by simp [blksOf, hc])
    have hLy : LoopsOK Y F N m LO y := fun p hp c hc => hL p hp c (by simp [blksOf, hc])
    refine wpIn_seq (wpIn_mono (ihx hLx _ A H nx h C ρ S a w h0 hg hr ht) ?_)
    rintro e a' w' ⟨C', ρ', S', A', H', nx', hC, hg', hr', ht', SA, SH, rfl, rfl, hq⟩
    cases e with
    | normal => exact wpIn_mono (ihy hLy Q SA SH nx' hq C' ρ' S' a' w' (by rw [hC.ρ0]; exact h0) hg' hr' ht') fun e a w h => h.le hC
    | _ => exact ⟨C', ρ', S', _, _, nx', hC, hg', hr', ht', SA, SH, rfl, rfl, hq⟩
  | cond c x y ihx ihy =>
    intro hL Q A H nx h C ρ S a w h0 hg hr ht
    have hLx : LoopsOK Y F N m LO x := fun p hp c hc => hL p hp c (by simp [blksOf, hc])
    have hLy : LoopsOK Y F N m LO y := fun p hp c hc => hL p hp c (by simp [blksOf, hc])
    simp only [vcS] at h
    split at h
    · rename_i b hb
      obtain ⟨hgd, h1, h2⟩ := allP_iff.1 h
      have h9 := opd_rel hr ht c
      rw [opdS_den] at h9
      have h9 := h9.strip (den_grd hgd)
      rw [den_strip, hb] at h9
      refine wpIn_cond_split (t := b) h9.lit_inv (fun e => ihx hLx Q A H nx (h1 e) C ρ S a w h0 hg hr ht) (fun e => ihy hLy Q A H nx (h2 e) C ρ S a w h0 hg hr ht)
    · exact h.elim
  | block id c ih =>
    intro hL Q A H nx h C ρ S a w h0 hg hr ht
    simp only [vcS] at h
    split at h
    · rename_i T hT
      exact hL _ (loopAt_mem hT) c (by simp [blksOf]) Q A H nx h C ρ S a w h0 hg hr ht
    · have hLc : LoopsOK Y F N m LO c := fun p hp c' hc => hL p hp c' (by simp only [blksOf]; split <;> simp [hc])
      refine wpIn_block (wpIn_mono (ih hLc _ A H nx h C ρ S a w h0 hg hr ht) ?_)
      rintro e a' w' ⟨C', ρ', S', A', H', nx', hC, hg', hr', ht', SA, SH, rfl, rfl, hq⟩
      cases e with
      | exit j =>
        simp only [Exit.inBlock, blockS] at hq ⊢
        split at hq
        · rename_i e; rw [if_pos (beq_true e)]; exact ⟨C', ρ', S', _, _, nx', hC, hg', hr', ht', SA, SH, rfl, rfl, hq⟩
        · rename_i e; rw [if_neg (beq_false e)]; exact ⟨C', ρ', S', _, _, nx', hC, hg', hr', ht', SA, SH, rfl, rfl, hq⟩
      | _ => exact ⟨C', ρ', S', _, _, nx', hC, hg', hr', ht', SA, SH, rfl, rfl, hq⟩
  | region id ops d =>
    intro _ Q A H nx h C ρ S a w h0 hg hr ht
    simp only [vcS] at h
    have prn : ∀ {C' ρ' S' a' w' A' n'}, Rep C' N ρ' S' (getA (denA A')) n' (fun i => nx.n + 8 * ops.size ≤ i) a' w' → (∀ t, N ≤ t → getA (denA A') t = .top) → Rep C' N ρ' S' (getA (denA (pruneS L A'))) n' (fun i => nx.n + 8 * ops.size ≤ i) a' w' ∧ (∀ t, N ≤ t → getA (denA (pruneS L A')) t = .top) := by
      intro C' ρ' S' a' w' A' n' hr' ht'
      rw [denA_pruneS]
      refine ⟨⟨hr'.mem, hr'.size, fun t v e => ?_, hr'.marks, hr'.dk⟩, fun t htt => ?_⟩
      · rcases getA_prune (L := L) (A := denA A') (t := t) with e' | e'
        · rw [e']; exact hr'.slots t v e
        · rw [e']; exact .top _
      · rcases getA_prune (L := L) (A := denA A') (t := t) with e' | e'
        · rw [e']; exact ht' t htt
        · exact e'
    cases d with
    | false =>
      simp only at h
      split at h
      · rename_i hdst
        refine wpIn_region ?_
        rw [List.range_eq_range']
        refine runL_sound hE hO hF hdst (C0 := C) (Q := EndS Y N C Q) (fun C' ρ' S' a' w' A' H' k go hC' hg' hr' ht' hk => ?_) ops.size 0 _ (by simp) (by omega) C ρ S a w A H nx.k nx.go (.refl C) hg (hr.ext (fun _ => rfl) (fun _ => rfl) (fun i hi => by simpa using hi)) ht h
        rw [pruneK_eq, forceN_eq] at hk
        obtain ⟨h1, h2⟩ := prn hr' ht'
        exact EndS.le (.of (nx := ⟨nx.n + 8 * ops.size, k, go⟩) hg' h1 h2 hk) hC'
      · exact h.elim
    | true =>
      simp only at h
      obtain ⟨outs, A', H', tr', -, hlex, hA', hH', htr, hk⟩ := runS_sound hE hO (A0 := getA (denA A)) (H0 := getH (denB H)) ops.toList 0 (fun _ => { cond := True, val := .top }) A H [] (by simp) (Nat.zero_le _) h rfl rfl (by simp)
      split at hk
      · rename_i hok
        rw [pruneK_eq, forceN_eq] at hk
        simp only [regOK, Bool.and_eq_true] at hok
        obtain ⟨hd, hok⟩ := hok
        have hlex' : ∀ k o, ops[k]? = some o → StpR P ops o (nx.n + 8 * k) (AI ops outs (getA (denA A)) allOn k) (HI outs (getH (denB H)) allOn k) (outs k) := fun k o ho => hlex k o (Nat.zero_le _) ho
        simp only [Bool.not_true, Bool.false_or] at hok
        refine region_any hF hmix hlex' ht hd (fun k hk => by rw [htr, List.getElem?_map, List.getElem?_range hk]; rfl) hok hr ?_
        intro ρ' S' a' w' hr'
        have htop := AI_top (outs := outs) (I := allOn) ht hd ops.size
        rw [hA'] at hr' htop
        rw [hH'] at hr'
        obtain ⟨h1, h2⟩ := prn hr' htop
        exact .of (nx := ⟨nx.n + 8 * ops.size, nx.k, nx.go⟩) hg h1 h2 hk
      · exact hk.elim
  | loop c ih => intro _ Q A H nx h; exact h.elim
  | rangeFunc f ps x y ihx ihy => intro _ Q A H nx h; exact h.elim
  | scope c ih => intro _ Q A H nx h; exact h.elim
  | goto l => intro _ Q A H nx h; exact h.elim
  | refuse s => intro _ Q A H nx h; exact h.elim
end
end Go.Proofs.Ytkklmkogdogbkaa.Sep
