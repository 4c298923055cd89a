/-
  The small calculus, twenty-seventh part: a range over a function, the rule. No condition. (This text proves no statement by itself.)
-/
import Derived.Test.YtkklmkogdogbkaaSep26
namespace Go.Proofs.Ytkklmkogdogbkaa.Sep
open Go
set_option linter.unusedVariables false
set_option linter.unusedSimpArgs false

/-- One round. -/
theorem RInv.round {P : Program} {E : Eqs} (hE : EqsOK P E) {O : Orc} (hO : OrcOK P O) (hmix : P.follows .mixedOrders = true) {ck : Bool} {ys : YS} {Y : YEnv P ys} {L : List Nat} {LI : Loops} {N id : Nat} {ps : Array Tmp} {assign body : Code} {l : RangeS} {i : l.ι}
    {C : Ctx} {S : Nat → Prop} {w : World} {ρs : Names} {rec : LoopState → Option Code → Loop} {a : Act} {fn : FuncId} (hrec : ∀ st pe, rec st pe = { state := st, pending := pe, fn, tmps := a.tmps, params := ps, assign, body, defers := w.heap.size })
    (hps : ∀ k, (l.f i k).length = ps.size) (hpN : ps.toList.all (fun p => Nat.blt p N) = true) (hA : LoopsOK Y (Fence.wide.inRound (w.heap.size + 1)) N l.mf LI assign) (hB : LoopsOK Y (Fence.wide.inRound (w.heap.size + 1)) N l.mf LI body)
    (hround : ∀ k, k < l.cnt i → l.pre i k → vcS P E O ck ys N L LI assign (onlyN (vcS P E O ck ys N L LI body (rfQ ys.on N id l i k))) (paramS ps.toList (l.f i k) (l.SA i)) (l.SH i k) ⟨l.n0, (l.g0 i k).1, (l.g0 i k).2⟩)
    (hCw : C.w0.heap.size ≤ w.heap.size) (hCs : C.ρ0.le ρs) (hmf : ∀ j, l.mf ≤ j → ρs j = none) (hsize : a.tmps.size = N) (hslots : ∀ t v, a.tmps[t]? = some v → Rel S w ρs (getA (denA (l.SA i)) t) v) (htop : ∀ t, N ≤ t → getA (denA (l.SA i)) t = .top)
    {k : Nat} {X Z Sy : Nat → Prop} {W : World} {args : Array Value} (hk : k < l.cnt i) {C' : Ctx} {ρ' : Names} {H : SBlks} {g : Nat × Bool} (h : RInv Y id l i C S w ρs rec k true X Z W C' ρ' H g)
    (hZS : ∀ b, Z b → Sy b) (hSy : ∀ b, Sy b → (S b ∨ X b) ∧ b < W.heap.size) (hargs : RelCs Sy W noNames (SV.denL (l.f i k)) args) :
    YieldAt Fence.wide 0 P (w.heap.size + 1) args W fun e W' => ∃ b, e = .returned (.bool b) ∧ W.heap.size ≤ W'.heap.size ∧ (∀ b s, shp W b = some s → shp W' b = some s) ∧ (∀ b vs T fz, Sy b → W.heap[b]? = some (.cells vs T fz) → W'.heap[b]? = some (.cells vs T fz)) ∧
      (∀ b, X b → W'.heap[b]? = W.heap[b]?) ∧ (∀ n : Nat, W.heap[n]? = some (.deferred (some [])) → W'.heap[n]? = some (.deferred (some []))) ∧ ∃ C'' ρ'' H' g', RInv Y id l i C S w ρs rec (k + 1) b X Sy W' C'' ρ'' H' g' := by
  obtain ⟨hpre, rfl, rfl, hl⟩ := h.on rfl
  have hw := h.w0
  have hasz : args.size = ps.size := by rw [hargs.1, denL_length, hps]
  have hy := run_yield (P := P) (args := args) hl (by rw [hrec]; exact hasz)
  rw [hrec] at hy
  refine ⟨fn, _, assign, body, hy, roundIn_of_wpIn (F := Fence.wide) trivial ?_⟩
  have hOn : ∀ a b, ρ' a = some b → C'.O b := fun a b e => by
    obtain ⟨h1, h2⟩ := h.mem.rin a b e
    rcases h2 with h2 | h2
    · exact h2
    · rw [hw] at h2; omega
  let Sb : Nat → Prop := fun b => C'.S0 b ∨ Sy b
  let Cb : Ctx := ⟨W, ρs, Sb, C'.O, C'.X⟩
  have hSbX : ∀ b, Sb b → X b → Sy b := fun b e e' => by
    rcases e with e | e
    · exact hZS b (h.sz b e e')
    · exact e
  have hSb : ∀ b, Sb b → b < W.heap.size := fun b e => by
    rcases e with e | e
    · exact h.mem.sin b e
    · exact (hSy b e).2
  have hm0 : Mem Cb ρ' Sb (getH (denB (l.SH i k))) (fun j => l.n0 ≤ j) W := h.mem.move2 ρs Sb C'.O C'.X h.nm (fun b e => .inl e) hSb (fun a b e e' => by
    rcases e' with e' | e'
    · exact e'
    · rcases (hSy b e').1 with h1 | h1
      · exact h.s b h1
      · exact ((h.xs b h1).2.2.2 (hOn a b e)).elim) hOn (Kept.refl _ _) (fun _ _ _ => rfl)
  have hg0 : Y.G (l.g0 i k).1 (l.g0 i k).2 Cb := Y.re h.gh ⟨by rw [hw]; exact Nat.le_refl _, by rw [hw]; exact fun _ _ e => e, by rw [hw]; exact fun _ _ _ => rfl, by rw [hw]; exact fun _ _ _ _ _ e => e, fun b e => .inl e, hSb, fun b e => by
      rcases e with e | e
      · exact .inl e
      · rcases (hSy b e).1 with h1 | h1
        · exact .inl (h.s b h1)
        · exact .inr (h.xs b h1).2.2.1, fun _ e => e, fun _ e => .inl e, fun b (e : C'.O b) => Y.ox h.gh b e⟩
  have hslot : ∀ t v, ((ps.zip args).foldl (fun (tmps : Array Value) (p : Tmp × Value) => tmps.setIfInBounds p.1 p.2) a.tmps)[t]? = some v → Rel Sb W ρ' (getA (denA (paramS ps.toList (l.f i k) (l.SA i))) t) v := fun t v e => by
    rw [← Array.foldl_toList, Array.toList_zip] at e
    refine slots_fold ps.toList (l.f i k) args.toList (l.SA i) a.tmps (by rw [hps]; simp [hasz]) (fun q x u e1 e2 => ?_) (fun t v e => (hslots t v e).mono h.kept (fun b e => .inl (h.s b e)) h.nm) t v e
    exact (hargs.2 q x.den u (by rw [denL_getElem, e1]; rfl) (by simpa using e2)).mono (Kept.refl _ _) (fun b e => .inr e) (fun _ _ e => by cases e)
  have hr0 : Rep Cb N ρ' Sb (getA (denA (paramS ps.toList (l.f i k) (l.SA i)))) (getH (denB (l.SH i k))) (fun j => l.n0 ≤ j) { tmps := (ps.zip args).foldl (fun (tmps : Array Value) (p : Tmp × Value) => tmps.setIfInBounds p.1 p.2) a.tmps, defers := [] } W :=
    ⟨hm0, by rw [← Array.foldl_toList]; simp only; rw [fold_size]; exact hsize, hslot, ⟨[], rfl, List.nodup_nil, fun n hn => by cases hn⟩, fun _ e => e⟩
  -- the loop's variables are set
  have hwa := vcS_sound hE hO (FOK.inRound (w.heap.size + 1)) hmix (Y := Y) assign hA _ _ _ _ (hround k hk hpre) Cb ρ' Sb _ W hmf hg0 hr0 (paramS_top _ _ _ hpN htop)
  refine wpIn_mono hwa ?_
  rintro e a1 w1 ⟨C1, ρ1, S1, A1, H1, nx1, hC1, hg1, hr1, ht1, SA1, SH1, rfl, rfl, hq1⟩
  have lok : ∀ {C2 ρ2 S2 H2 nx2 w2}, Cb.Le C2 → Mem C2 ρ2 S2 H2 nx2 w2 → C2.X (w.heap.size + 1) ∧ ¬ C2.O (w.heap.size + 1) ∧ w.heap.size + 1 < C2.w0.heap.size ∧ w2.heap[w.heap.size + 1]? = W.heap[w.heap.size + 1]? := fun hle hm =>
    hle.thru hm (Array.getElem?_eq_some_iff.1 hl).1 h.xl.1 h.xl.2
  cases e with
  | normal =>
    have hq1 : vcS P E O ck ys N L LI body (rfQ ys.on N id l i k) SA1 SH1 nx1 := hq1
    obtain ⟨x1, o1, s1, e1⟩ := lok hC1 hr1.mem
    have hl1 : w1.heap[w.heap.size + 1]? = some (.loop (rec .ready none)) := e1.trans hl
    obtain ⟨hm2, hk2, hre2, hd2, hl2, hoth2⟩ := hr1.mem.turned (Y.ox hg1) (r' := { rec .ready none with state := .busy }) x1 o1 s1 hl1 C1.ρ0 hr1.mem.ent
    refine ⟨_, run_beginRound hl1 (by rw [hrec]), ?_⟩
    generalize hw2 : w1.putObj (w.heap.size + 1) (.loop { rec .ready none with state := .busy }) = w2 at *
    obtain ⟨C2, hC2⟩ : ∃ C2 : Ctx, C2 = ⟨w2, C1.ρ0, S1, fun b => (C1.O b ∨ C1.w0.heap.size ≤ b) ∧ b < w1.heap.size, fun b => C1.X b ∨ (C1.w0.heap.size ≤ b ∧ b < w1.heap.size)⟩ := ⟨_, rfl⟩
    rw [← hC2] at hm2 hre2
    have c2w : C2.w0 = w2 := by rw [hC2]
    have hr2 : Rep C2 N ρ1 S1 (getA (denA SA1)) (getH (denB SH1)) (fun j => nx1.n ≤ j) a1 w2 := by
      refine ⟨hm2, hr1.size, fun t v e => (hr1.slots t v e).mono hk2 (fun _ e => e) (Names.le.refl _), ?_, fun n e => by rwa [c2w] at e⟩
      obtain ⟨ns, g1, g2, g3⟩ := hr1.marks
      refine ⟨ns, g1, g2, fun n hn => ⟨?_, hd2 n (g3 n hn).2⟩⟩
      rw [hC2]
      exact .inl ⟨(g3 n hn).1, (Array.getElem?_eq_some_iff.1 (g3 n hn).2).1⟩
    have hwb := vcS_sound hE hO (FOK.inRound (w.heap.size + 1)) hmix (Y := Y) body hB _ _ _ _ hq1 C2 ρ1 S1 a1 w2 (by rw [hC2]; show ∀ j, l.mf ≤ j → C1.ρ0 j = none; rw [hC1.ρ0]; exact hmf) (Y.re hg1 hre2) hr2 ht1
    refine wpIn_mono hwb ?_
    rintro e a3 w3 ⟨C3, ρ3, S3, A3, H3, nx3, hC3, hg3, hr3, ht3, SA3, SH3, rfl, rfl, hq3⟩
    have hρ3 : C3.ρ0 = ρs := by rw [hC3.ρ0, hC2]; exact hC1.ρ0
    have hs1w : C1.w0.heap.size ≤ w1.heap.size := hr1.mem.size
    have hs2 : w2.heap.size = w1.heap.size := by rw [← hw2]; exact World.putObj_size
    have hs3 : C2.w0.heap.size ≤ C3.w0.heap.size := hC3.size
    have hs3w := hr3.mem.size
    have hWs : W.heap.size ≤ C1.w0.heap.size := hC1.size
    rw [c2w] at hs3
    -- a block that others own
    have step2 : ∀ c, c < C1.w0.heap.size → C1.X c → ¬ C1.O c → C3.X c ∧ ¬ C3.O c ∧ c < C3.w0.heap.size ∧ w3.heap[c]? = w2.heap[c]? := fun c hc hx ho => by
      have := hC3.thru hr3.mem (c := c) (by rw [c2w]; omega) (by rw [hC2]; exact .inl hx) (by
        rw [hC2]
        rintro ⟨e | e, -⟩
        · exact ho e
        · omega)
      rw [c2w] at this
      exact this
    have fix : ∀ c, c < W.heap.size → C'.X c → ¬ C'.O c → C3.X c ∧ ¬ C3.O c ∧ c < C3.w0.heap.size ∧ (c ≠ w.heap.size + 1 → w3.heap[c]? = W.heap[c]?) := fun c hc hx ho => by
      obtain ⟨g1, g2, g3, g4⟩ := hC1.thru hr1.mem (c := c) hc hx ho
      obtain ⟨g5, g6, g7, g8⟩ := step2 c g3 g1 g2
      exact ⟨g5, g6, g7, fun hne => by rw [g8, hoth2 c hne, g4]⟩
    obtain ⟨x3, o3, s3, -⟩ := fix _ (Array.getElem?_eq_some_iff.1 hl).1 h.xl.1 h.xl.2
    have hl3 : w3.heap[w.heap.size + 1]? = some (.loop { rec .ready none with state := .busy }) := by
      rw [(step2 _ s1 x1 o1).2.2.2]; exact hl2
    -- far away
    have far2 : ∀ b, (C2.O b ∨ C2.w0.heap.size ≤ b) → Cb.O b ∨ Cb.w0.heap.size ≤ b := fun b e => by
      rw [hC2] at e
      rcases e with ⟨e, -⟩ | e
      · exact hC1.far e
      · have e : w2.heap.size ≤ b := e
        exact .inr (by show W.heap.size ≤ b; omega)
    have far3 : ∀ b, (C3.O b ∨ C3.w0.heap.size ≤ b) → C'.O b ∨ W.heap.size ≤ b := fun b e => far2 b (hC3.far e)
    have sfar : ∀ b, S3 b → Sb b ∨ (C'.O b ∨ W.heap.size ≤ b) := fun b e => by
      rcases hC3.snew hr3.mem e with h1 | h1
      · have h1 : S1 b := by rw [hC2] at h1; exact h1
        exact hC1.snew hr1.mem h1
      · exact .inr (far2 b h1)
    have Sb3 : ∀ b, Sb b → S3 b := fun b e => hr3.mem.s0 b (hC3.s0 b (by rw [hC2]; exact hr1.mem.s0 b (hC1.s0 b e)))
    have cells3 : ∀ b vs T fz, Sb b → W.heap[b]? = some (.cells vs T fz) → w3.heap[b]? = some (.cells vs T fz) := fun b vs T fz e e' => by
      have g1 := hC1.cells hr1.mem e e'
      have hne : b ≠ w.heap.size + 1 := fun e => by subst e; rw [hl1] at g1; cases g1
      refine hC3.cells hr3.mem (by rw [hC2]; exact hr1.mem.s0 b (hC1.s0 b e)) ?_
      rw [c2w, hoth2 b hne]; exact g1
    have shape3 : ∀ b s, shp W b = some s → shp w3 b = some s := fun b s e => by
      have g1 := hr1.mem.shape b s (hC1.shape b s e)
      refine hr3.mem.shape b s (hC3.shape b s ?_)
      rw [c2w]
      exact hk2.shape b s g1
    have dk3 : ∀ n : Nat, W.heap[n]? = some (.deferred (some [])) → w3.heap[n]? = some (.deferred (some [])) := fun n e => by
      have g1 := hr1.dk n (hC1.dk n e)
      refine hr3.dk n (hC3.dk n ?_)
      rw [c2w]
      exact hd2 n g1
    -- behind the round
    have close : ∀ (jump : Option Code) (H4 : SBlks) (g4 : Nat × Bool) (ρ4 : Names) (go : Bool), Mem C3 ρ4 S3 (getH (denB H4)) (fun j => l.n0 ≤ j) w3 → Y.G g4.1 g4.2 C3 → go = jump.isNone →
        (go = true → l.pre i (k + 1) ∧ H4 = l.SH i (k + 1) ∧ g4 = l.g0 i (k + 1)) →
        (go = false → H4 = l.XH i k ∧ gWas ys.on ⟨l.n0, g4.1, g4.2⟩ l.n0 (l.gR i k) True ∧ ∃ c, jump = some c ∧ ((c = .ret ∧ l.retP i k) ∨ (c = .exit id ∧ l.brkP i k))) →
        ∃ v w4, (Instr.endRound (w.heap.size + 1) jump).run P w3 = .ok v w4 ∧ ∃ b, (Ending.returned v) = .returned (.bool b) ∧ W.heap.size ≤ w4.heap.size ∧ (∀ b s, shp W b = some s → shp w4 b = some s) ∧ (∀ b vs T fz, Sy b → W.heap[b]? = some (.cells vs T fz) → w4.heap[b]? = some (.cells vs T fz)) ∧
          (∀ b, X b → w4.heap[b]? = W.heap[b]?) ∧ (∀ n : Nat, W.heap[n]? = some (.deferred (some [])) → w4.heap[n]? = some (.deferred (some []))) ∧ ∃ C'' ρ'' H' g', RInv Y id l i C S w ρs rec (k + 1) b X Sy w4 C'' ρ'' H' g' := by
      intro jump H4 g4 ρ4 go hm4 hg4 hgo hon hoff
      subst hgo
      have hrun := run_endRound (P := P) jump hl3
      obtain ⟨hm5, hk5, hre5, hd5, hl5, hoth5⟩ := hm4.turned (Y.ox hg4) (r' := { rec .ready none with state := if jump.isNone then .ready else .done, pending := jump }) x3 o3 s3 hl3 C.ρ0 (hCs.trans (by rw [← hρ3]; exact hm4.ent))
      refine ⟨_, _, hrun, jump.isNone, rfl, ?_⟩
      have hw5s : (w3.putObj (w.heap.size + 1) (.loop { rec .ready none with state := if jump.isNone then .ready else .done, pending := jump })).heap.size = w3.heap.size := World.putObj_size
      generalize hw5 : w3.putObj (w.heap.size + 1) (.loop { rec .ready none with state := if jump.isNone then .ready else .done, pending := jump }) = w5 at *
      have hx5 : ∀ c, c < W.heap.size → C'.X c → ¬ C'.O c → c ≠ w.heap.size + 1 → w5.heap[c]? = W.heap[c]? := fun c hc hx ho hne => by rw [hoth5 c hne]; exact (fix c hc hx ho).2.2.2 hne
      have cells5 : ∀ b vs T fz, Sb b → W.heap[b]? = some (.cells vs T fz) → w5.heap[b]? = some (.cells vs T fz) := fun b vs T fz e e' => by
        have g1 := cells3 b vs T fz e e'
        rw [hoth5 b (fun e => by subst e; rw [hl3] at g1; cases g1)]; exact g1
      have shape5 : ∀ b s, shp W b = some s → shp w5 b = some s := fun b s e => hk5.shape b s (shape3 b s e)
      have size5 : W.heap.size ≤ w5.heap.size := by omega
      have no5 : ∀ c, c < W.heap.size → C'.X c → ¬ C'.O c → ¬ ((C3.O c ∨ C3.w0.heap.size ≤ c) ∧ c < w3.heap.size) := fun c hc hx ho => by
        obtain ⟨g1, g2, g3, -⟩ := fix c hc hx ho
        rintro ⟨e | e, -⟩
        · exact g2 e
        · omega
      have hdlt := (Array.getElem?_eq_some_iff.1 h.d).1
      have hllt := (Array.getElem?_eq_some_iff.1 hl).1
      have dk5 : ∀ n : Nat, W.heap[n]? = some (.deferred (some [])) → w5.heap[n]? = some (.deferred (some [])) := fun n e => hd5 n (dk3 n e)
      refine ⟨size5, shape5, fun b vs T fz e e' => cells5 b vs T fz (.inr e) e', fun b e => ?_, dk5, ⟨w5, C.ρ0, S3, fun b => (C3.O b ∨ C3.w0.heap.size ≤ b) ∧ b < w3.heap.size, fun b => C3.X b ∨ (C3.w0.heap.size ≤ b ∧ b < w3.heap.size)⟩, ρ4, H4, g4, ?_⟩
      · obtain ⟨g1, g2, g3, g4⟩ := h.xs b e
        exact hx5 b g2 g3 g4 (by omega)
      refine ⟨rfl, ⟨rfl, fun b e => Sb3 b (.inl (h.le.s0 b e)), fun b e => ?_, ?_, fun b s e => shape5 b s (by have := h.le.shape b s e; rwa [hw] at this), fun b vs T fz e e' => cells5 b vs T fz (.inl (h.le.s0 b e)) (by have := h.le.keep b vs T fz e e'; rwa [hw] at this), fun b e => ?_, fun b hb hx ho => ?_, fun b e => ?_, fun n e => dk5 n (by have := h.le.dk n e; rwa [hw] at this)⟩,
        Y.re hg4 hre5, hm5, ?_, fun b e => Sb3 b (.inl (h.s b e)), h.kept.trans ⟨size5, shape5, fun b vs T fz e e' => cells5 b vs T fz (.inl e) e'⟩ h.s, dk5 _ h.d, ?_, ?_, fun b e => ?_, fun b e e' => ?_, fun b e => ?_, fun n h1 h2 => ?_, fun n e => dk5 n (h.dkw n e), fun e => ?_, fun e => ?_⟩
      · rcases sfar b e with h1 | h1
        · rcases h1 with h1 | h1
          · exact h.le.s1 b h1
          · rcases (hSy b h1).1 with h2 | h2
            · exact h.le.s1 b (h.s b h2)
            · exact .inr (.inl (by have := (h.xs b h2).1; omega))
        · rcases h1 with h1 | h1
          · rcases h.le.o b h1 with h2 | h2
            · exact .inr (.inr h2)
            · exact .inr (.inl h2)
          · exact .inr (.inl (by have := h.le.size; rw [hw] at this; omega))
      · show C.w0.heap.size ≤ w5.heap.size
        have := h.le.size; rw [hw] at this; omega
      · exact .inl (hC3.x b (by rw [hC2]; exact .inl (hC1.x b (h.le.x b e))))
      · obtain ⟨g1, g2⟩ := h.le.same b hb hx ho
        rw [hw] at g2
        have hbW : b < W.heap.size := by have := h.le.size; rw [hw] at this; omega
        exact ⟨no5 b hbW (h.le.x b hx) g1, (hx5 b hbW (h.le.x b hx) g1 (by omega)).trans g2⟩
      · rcases far3 b e.1 with h1 | h1
        · exact h.le.o b h1
        · exact .inr (by have := h.le.size; rw [hw] at this; omega)
      · rw [← hρ3]; exact hm4.ent
      · exact ⟨.inl (fix _ hdlt h.xd.1 h.xd.2).1, no5 _ hdlt h.xd.1 h.xd.2⟩
      · exact ⟨.inl x3, no5 _ hllt h.xl.1 h.xl.2⟩
      · obtain ⟨g1, g2, g3, g4⟩ := h.xs b e
        exact ⟨g1, by show b < w5.heap.size; omega, .inl (fix b g2 g3 g4).1, no5 b g2 g3 g4⟩
      · obtain ⟨g1, g2, g3, g4⟩ := h.xs b e'
        rcases sfar b e with h1 | h1
        · exact hSbX b h1 e'
        · rcases h1 with h1 | h1
          · exact (g4 h1).elim
          · omega
      · have := e.2
        show b < w5.heap.size
        omega
      · exact .inl (hC3.x n (by rw [hC2]; exact .inl (hC1.x n (h.mkx n h1 h2))))
      · obtain ⟨g1, g2, g3⟩ := hon e
        refine ⟨g1, g2, g3, hl5.trans ?_⟩
        have hj : jump = none := by cases jump with | none => rfl | some c => cases e
        subst hj
        simp [hrec]
      · obtain ⟨g1, g2, c, g3, g4⟩ := hoff e
        subst g3
        refine ⟨k, rfl, hk, hpre, g1, g2, c, hl5.trans ?_, g4⟩
        simp [hrec]
    -- how the body was left
    unfold rfQ at hq3
    have h03 : ∀ j, l.mf ≤ j → C3.ρ0 j = none := by rw [hρ3]; exact hmf
    split at hq3
    · obtain ⟨g1, g2⟩ := hq3
      obtain ⟨g2, g3⟩ := gOK_ok g2 hg3
      obtain ⟨ρ4, g4, -⟩ := fit_ok h03 hr3 g2
      exact close none _ _ ρ4 true g4.mem g3 rfl (fun _ => ⟨g1, rfl, rfl⟩) (fun e => by cases e)
    · obtain ⟨g1, g2⟩ := hq3
      obtain ⟨g2, ⟨n2, k2, go2⟩, hn2, hw2, g3⟩ := gOK'_ok l.n0 g2 hg3
      have hn2 : n2 = l.n0 := hn2
      subst hn2
      obtain ⟨ρ4, g4, -⟩ := fit_ok h03 hr3 g2
      exact close (some .ret) _ (k2, go2) ρ4 false g4.mem g3 rfl (fun e => by cases e) (fun _ => ⟨rfl, hw2, _, rfl, .inl ⟨rfl, g1⟩⟩)
    · rename_i j
      split at hq3
      · rename_i hj
        have hj := beq_true hj
        subst hj
        obtain ⟨g1, g2⟩ := hq3
        obtain ⟨g2, ⟨n2, k2, go2⟩, hn2, hw2, g3⟩ := gOK'_ok l.n0 g2 hg3
        have hn2 : n2 = l.n0 := hn2
        subst hn2
        obtain ⟨ρ4, g4, -⟩ := fit_ok h03 hr3 g2
        exact close (some (.exit _)) _ (k2, go2) ρ4 false g4.mem g3 rfl (fun e => by cases e) (fun _ => ⟨rfl, hw2, _, rfl, .inr ⟨rfl, g1⟩⟩)
      · exact hq3.elim
    · exact hq3.elim
  | _ => exact hq1.elim

end Go.Proofs.Ytkklmkogdogbkaa.Sep
