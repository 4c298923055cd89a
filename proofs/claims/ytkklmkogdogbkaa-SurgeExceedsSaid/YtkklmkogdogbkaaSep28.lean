/-
  The small calculus, twenty-eighth part: a range over a function, as the code before it sees it. No condition. (This text proves no statement by itself.)
-/
import Derived.Test.YtkklmkogdogbkaaSep27
namespace Go.Proofs.Ytkklmkogdogbkaa.Sep
open Go
set_option linter.unusedVariables false
set_option linter.unusedSimpArgs false

theorem getS_low {m N : Nat} : ∀ {A : SSlots}, A.all (fun p => p.2.low m && Nat.blt p.1 N) = true → ∀ t, (getS A t).den = .top ∨ (getS A t).den.idsLt m = true := by
  intro A
  induction A with
  | nil => intro _ t; exact .inl rfl
  | cons p A ih =>
    intro h t
    simp only [List.all_cons, Bool.and_eq_true] at h
    simp only [getS]
    split
    · exact .inr (low_den _ h.1.1)
    · exact ih (by simpa using h.2) t

section
variable {P : Program} {E : Eqs} (hE : EqsOK P E) {O : Orc} (hO : OrcOK P O) (hmix : P.follows .mixedOrders = true) {ck : Bool} {ys : YS} {Y : YEnv P ys} {F : Fence} (hF : FOK F) (hround : F.round = none)
include hE hO hmix hF hround

theorem rangeT_ok {L : List Nat} {LI : Loops} {N m id : Nat} {fo : Operand} {gf : FuncId} {it : List SV → Option (List Prop × Nat × (Nat → List SV))} (hit : IterOK P gf it) {ps : Array Tmp} {assign body : Code} {l : RangeS} {par : SSlots → SBlks → Cnt → l.ι}
    (hps : ∀ i k, (l.f i k).length = ps.size) (hpN : ps.toList.all (fun p => Nat.blt p N) = true) (hA : ∀ b, LoopsOK Y (Fence.wide.inRound b) N l.mf LI assign) (hB : ∀ b, LoopsOK Y (Fence.wide.inRound b) N l.mf LI body)
    (hrd : ∀ i k, k < l.cnt i → l.pre i k → vcS P E O ck ys N L LI assign (onlyN (vcS P E O ck ys N L LI body (rfQ ys.on N id l i k))) (paramS ps.toList (l.f i k) (l.SA i)) (l.SH i k) ⟨l.n0, (l.g0 i k).1, (l.g0 i k).2⟩) :
    ∀ Q A H nx, rangeT ys.on N m fo gf it l par Q A H nx → WPS Y F N m (.block id (.rangeFunc fo ps assign body)) Q A H nx := by
  rintro Q A H nx ⟨hp0, hfit, hrf, hdone, hret, hbrk⟩ C ρ0 S a w h0 hg hr _
  generalize par A H nx = i at *
  obtain ⟨hf, hg⟩ := gOK_ok hfit hg
  obtain ⟨ρ, hr, ht⟩ := fit_ok h0 hr hf
  unfold rangeF at hrf
  split at hrf
  · rename_i hck
    simp only [Bool.and_eq_true] at hck
    obtain ⟨⟨hlow, hm⟩, hmn⟩ := hck
    have hm := Nat.le_of_ble_eq_true hm
    -- the iterator
    obtain ⟨lb, n, f, hev, hI, hcap, hn, hff⟩ : ∃ (lb : Array Value) (n : Nat) (f : Nat → List SV), a.eval fo = .func (.func gf) #[] lb ∧ (∃ xs, Iter P gf xs n f ∧ RelCs S w noNames (SV.denL xs) lb) ∧ True ∧ n = l.cnt i ∧ ∀ k, k < n → f k = l.f i k := by
      split at hrf
      · rename_i g caps hfn
        split at hrf
        · rename_i hgb
          have := beq_true hgb
          subst this
          obtain ⟨hgrd, hrf⟩ := allP_iff.1 hrf
          split at hrf
          · rename_i ps' ys' hco
            obtain ⟨hps', hrf⟩ := allP_iff.1 hrf
            split at hrf
            · rename_i qs n f hite
              obtain ⟨hqs, h1, h2⟩ := allP_iff.1 hrf
              have hopd := opd_rel hr ht
              rw [opdS_den] at hopd
              have hv := (hopd fo).strip (den_grd hgrd)
              rw [den_strip] at hv
              obtain ⟨us, vs, e1, e2, e3⟩ := fnOf_rel (fnOfS_den hfn) hv
              have hus : us = #[] := by
                have := e2.1
                simp only [SV.denL, List.length_nil] at this
                exact Array.eq_empty_of_size_eq_zero this
              subst hus
              refine ⟨vs, n, f, e1, ⟨ys', hit _ _ _ _ hite hqs, ?_⟩, trivial, h1, h2⟩
              obtain ⟨c1, c2, -⟩ := coeRow_ok (coe2_ok _) _ _ _ _ hco hps'
              obtain ⟨c3, c4⟩ := c1.get
              refine ⟨by rw [e3.1, c3], fun k c v e4 e5 => ?_⟩
              have hk : k < (SV.denL caps).length := by rw [c3]; exact (List.getElem?_eq_some_iff.1 e4).1
              have ha : (SV.denL caps)[k]? = some (SV.denL caps)[k] := by simp [hk]
              have hm' := hr.mem
              rw [getH_den] at hm'
              have hre := ((c4 k _ c ha e4).rel hm' (e3.2 k _ v ha e5)).idless (idlessL_get c2 e4)
              exact hre.mono (Kept.refl _ _) (fun b e => by
                rcases e with e | ⟨j, hj, -⟩
                · exact e
                · cases hj) (Names.le.refl _)
            · exact hrf.elim
          · exact hrf.elim
        · exact hrf.elim
      · exact hrf.elim
    clear hcap hrf
    subst hn
    refine wpIn_block (wpIn_rangeFunc fun fn hfn => ?_)
    rw [hround]
    obtain ⟨rec, hrec⟩ : ∃ rec : LoopState → Option Code → Loop, ∀ st pe, rec st pe = { state := st, pending := pe, fn, tmps := a.tmps, params := ps, assign, body, defers := w.heap.size } := ⟨fun st pe => _, fun _ _ => rfl⟩
    have hloop : (Instr.enterLoop fn a.tmps ps assign body none).run P w = .ok (w.heap.size + 1, [{ target := .collected w.heap.size, args := #[] }]) ((w.alloc (.deferred (some []))).alloc (.loop (rec .ready none))) := by
      rw [hrec]; exact run_enterLoop_outer _ _ _ _ _
    obtain ⟨W1, hW1⟩ : ∃ W1, W1 = (w.alloc (.deferred (some []))).alloc (.loop (rec .ready none)) := ⟨_, rfl⟩
    rw [← hW1] at hloop
    have hW1s : W1.heap.size = w.heap.size + 2 := by rw [hW1]; simp
    have hL1 : W1.heap[w.heap.size + 1]? = some (.loop (rec .ready none)) := by
      rw [hW1]; have := World.alloc_heap_new (w.alloc (.deferred (some []))) (.loop (rec .ready none)); rwa [World.size_alloc] at this
    have hD1 : W1.heap[w.heap.size]? = some (.deferred (some [])) := by
      rw [hW1, heap_alloc_lt (by simp)]; exact World.alloc_heap_new w _
    have hold1 : ∀ b, b < w.heap.size → W1.heap[b]? = w.heap[b]? := fun b hb => by rw [hW1, heap_alloc_lt (by simp; omega), heap_alloc_lt hb]
    have hsh1 : ∀ b s, shp w b = some s → shp W1 b = some s := shp_all (by rw [hW1]; exact ⟨rfl, rfl⟩) fun b s e => shape?_keep (shape?_of_heap (hold1 b (shape?_lt e))) e
    have hk1 : Kept S w W1 := ⟨by omega, hsh1, fun b vs T fz _ e => by rw [hold1 b (Array.getElem?_eq_some_iff.1 e).1]; exact e⟩
    let ρs : Names := Sep.below l.mf ρ
    have hρs : ρs.le ρ := fun j b e => by
      have e : (if j < l.mf then ρ j else none) = some b := e
      split at e
      · exact e
      · cases e
    have hCs : C.ρ0.le ρs := fun j b e => by
      have hj : j < l.mf := by
        rcases Nat.lt_or_ge j m with hj | hj
        · omega
        · rw [h0 j hj] at e; cases e
      show (if j < l.mf then ρ j else none) = some b
      rw [if_pos hj]; exact hr.mem.ent j b e
    have hmf : ∀ j, l.mf ≤ j → ρs j = none := fun j hj => by
      show (if j < l.mf then ρ j else none) = none
      rw [if_neg (by omega)]
    have hslots : ∀ t v, a.tmps[t]? = some v → Rel S w ρs (getA (denA (l.SA i)) t) v := fun t v e => by
      have hv := hr.slots t v e
      rw [getA_den] at hv ⊢
      rcases getS_low hlow t with h1 | h1
      · rw [h1]; exact .top v
      · exact hv.lt h1
    -- what holds before the first round
    let C1 : Ctx := ⟨W1, C.ρ0, S, fun b => (C.O b ∨ C.w0.heap.size ≤ b) ∧ b < w.heap.size, fun b => C.X b ∨ (C.w0.heap.size ≤ b ∧ b < W1.heap.size)⟩
    have hCw := hr.mem.size
    have hinv : RInv Y id l i C S w ρs rec 0 true (fun _ => False) S W1 C1 ρ (l.SH i 0) (l.g0 i 0) := by
      refine ⟨rfl, ⟨rfl, hr.mem.s0, hr.mem.snew, by show C.w0.heap.size ≤ W1.heap.size; omega, fun b s e => hsh1 b s (hr.mem.shape b s e), fun b vs T fz e e' => hk1.same b vs T fz (hr.mem.s0 b e) (hr.mem.keep b vs T fz e e'), fun b e => .inl e, fun b hb hx ho => ⟨?_, ?_⟩, fun b e => e.1, fun n e => ?_⟩,
        Y.re hg ⟨by show C.w0.heap.size ≤ W1.heap.size; omega, fun b s e => hsh1 b s (hr.mem.shape b s e), fun b hb hx => ?_, fun b vs T fz e e' => hk1.same b vs T fz (hr.mem.s0 b e) (hr.mem.keep b vs T fz e e'), hr.mem.s0, fun b e => Nat.lt_of_lt_of_le (hr.mem.sin b e) hk1.size, fun b e => ?_, fun b e => .inl e, fun b e => e, fun b e => ?_⟩,
        hr.mem.move2 _ _ _ _ hr.mem.ent (fun _ e => e) (fun b e => Nat.lt_of_lt_of_le (hr.mem.sin b e) hk1.size) (fun _ _ _ e => e) (fun j b e => ⟨(hr.mem.rin j b e).2, (hr.mem.rin j b e).1⟩) hk1 (fun j b e => hold1 b (hr.mem.rin j b e).1),
        hρs, fun _ e => e, hk1, hD1, ⟨.inr ⟨hCw, by omega⟩, fun e => by have := e.2; omega⟩, ⟨.inr ⟨by omega, by omega⟩, fun e => by have := e.2; omega⟩, fun b e => e.elim, fun b e e' => e'.elim, fun b e => by have := e.2; omega, fun n h1 h2 => ?_, fun n e => (hold1 n (Array.getElem?_eq_some_iff.1 e).1).trans e, fun _ => ⟨hp0, rfl, rfl, hL1⟩, fun e => by cases e⟩
      · rintro ⟨e | e, -⟩
        · exact ho e
        · omega
      · exact (hold1 b (by omega)).trans (hr.mem.old b hb ho)
      · have := hr.dk n e
        exact (hold1 n (Array.getElem?_eq_some_iff.1 this).1).trans this
      · exact (hold1 b (by omega)).trans (hr.mem.old b hb fun e => hx (Y.ox hg b e))
      · rcases hr.mem.snew b e with h1 | h1 | h1
        · exact .inl h1
        · exact .inr (.inr ⟨h1, by have := hr.mem.sin b e; omega⟩)
        · exact .inr (.inl (Y.ox hg b h1))
      · rcases e.1 with h1 | h1
        · exact .inl (Y.ox hg b h1)
        · exact .inr ⟨h1, by have := e.2; omega⟩
      · rcases h2 with h2 | h2
        · exact .inl (Y.ox hg n h2)
        · exact .inr ⟨h2, by omega⟩
    obtain ⟨xs, hI, hcap⟩ := hI
    obtain ⟨hent, hidl, hI⟩ := hI
    have hcalls := hI S W1 lb (fun b e => Nat.lt_of_lt_of_le (hr.mem.sin b e) hk1.size) ⟨hcap.1, fun q c v e1 e2 => (hcap.2 q c v e1 e2).mono hk1 (fun _ e => e) (Names.le.refl _)⟩ (w.heap.size + 1)
      (fun k go X Z W => ∃ C' ρ' H g, RInv Y id l i C S w ρs rec k go X Z W C' ρ' H g)
      (fun {k go X X' Z W W'} hJ h1 h2 h3 h4 h5 h6 => by
        obtain ⟨C', ρ', H, g, hJ⟩ := hJ
        exact ⟨_, ρ', H, g, hJ.abide hCw h1 h2 h3 h4 h5 h6⟩)
      (fun {k X Z Sy W args} hk hJ h1 h2 h3 => by
        obtain ⟨C', ρ', H, g, hJ⟩ := hJ
        exact hJ.round hE hO hmix hrec (hps i) hpN (hA _) (hB _) (hrd i) hCw hCs hmf hr.size hslots ht hk h1 h2 (by rw [← hff k hk]; exact h3))
      ⟨C1, ρ, _, _, hinv⟩
    refine ⟨w.heap.size + 1, [{ target := .collected w.heap.size, args := #[] }], W1, { target := .fn (.func gf) lb, args := #[.func (.yield (w.heap.size + 1)) #[] #[]] }, W1, gf, #[.func (.yield (w.heap.size + 1)) #[] #[]] ++ lb, W1, hloop, ?_, ?_, ?_, (fun hd => by (rw [hF.depth] at hd; cases hd)), ?_⟩
    · simp only [resolve, hev]
      simp [go_sem]
    · intro f' _; exact hF.fn f'
    · have e := hent (#[.func (.yield (w.heap.size + 1)) #[] #[]] ++ lb) W1
      simp only [invoke]
      exact e
    · refine (hF.calls hcalls).mono ?_
      rintro e W2 ⟨v, k, go, X, Z, rfl, ⟨C', ρ', H', g', hJ⟩, hgo⟩
      -- behind the iterator
      have hw := hJ.w0
      have fin : ∀ (st : LoopState) (pe : Option Code), W2.heap[w.heap.size + 1]? = some (.loop (rec st pe)) → st ≠ .busy → ∃ W3, (Instr.endLoop (w.heap.size + 1)).run P W2 = .ok pe W3 ∧ ∃ C5 ρ5 S5, C.Le C5 ∧ Y.G g'.1 g'.2 C5 ∧ Rep C5 N ρ5 S5 (getA (denA (l.SA i))) (getH (denB H')) (fun j => l.n0 ≤ j) { a with defers := [{ target := .collected w.heap.size, args := #[] }] ++ a.defers } W3 := by
        intro st pe hl hst
        have hrun := run_endLoop (P := P) hl (by rw [hrec]; exact hst)
        have hpe : (rec st pe).pending = pe := by rw [hrec]
        rw [hpe] at hrun
        obtain ⟨W3, hrun, hoth, hsz, hio3⟩ : ∃ W3, (Instr.endLoop (w.heap.size + 1)).run P W2 = .ok pe W3 ∧ (∀ b, b ≠ w.heap.size + 1 → W3.heap[b]? = W2.heap[b]?) ∧ W3.heap.size = W2.heap.size ∧ W3.os = W2.os ∧ W3.output = W2.output := ⟨_, hrun, fun b hb => World.putObj_heap_other hb, World.putObj_size, rfl, rfl⟩
        refine ⟨W3, hrun, ?_⟩
        have hllt := (Array.getElem?_eq_some_iff.1 hl).1
        clear hrun
        have hcl : ∀ (b : Nat) vs T fz, W2.heap[b]? = some (.cells vs T fz) → W3.heap[b]? = some (.cells vs T fz) := fun b vs T fz e => by
          rw [hoth b (fun e' => by subst e'; rw [hl] at e; cases e)]; exact e
        have hsh : ∀ b s, shp W2 b = some s → shp W3 b = some s := shp_all hio3 fun b s e => by
          by_cases hb : b = w.heap.size + 1
          · subst hb; exact (shape?_not e (fun vs T fz => by rw [hl]; intro e'; cases e')).elim
          · exact shape?_keep (shape?_of_heap (hoth b hb)) e
        have hdf : ∀ n : Nat, W2.heap[n]? = some (.deferred (some [])) → W3.heap[n]? = some (.deferred (some [])) := fun n e => by
          rw [hoth n (fun e' => by subst e'; rw [hl] at e; cases e)]; exact e
        have hk3 : Kept C'.S0 W2 W3 := ⟨by omega, hsh, fun b vs T fz _ e => hcl b vs T fz e⟩
        have hOn : ∀ a b, ρ' a = some b → C'.O b := fun a b e => by
          obtain ⟨h1, h2⟩ := hJ.mem.rin a b e
          rcases h2 with h2 | h2
          · exact h2
          · rw [hw] at h2; omega
        have hne : ∀ b, C'.O b → b ≠ w.heap.size + 1 := fun b e e' => hJ.xl.2 (e' ▸ e)
        have hO5 : ∀ b, (C'.O b ∨ ((C.O b ∨ C.w0.heap.size ≤ b) ∧ b ≤ w.heap.size)) → C'.X b := fun b e => by
          rcases e with e | ⟨e1, e2⟩
          · have := Y.ox hJ.gh b e; exact this
          · rcases Nat.lt_or_ge b w.heap.size with h1 | h1
            · exact hJ.mkx b h1 e1
            · have : b = w.heap.size := by omega
              subst this; exact hJ.xd.1
        refine ⟨⟨W3, C.ρ0, C'.S0, fun b => C'.O b ∨ ((C.O b ∨ C.w0.heap.size ≤ b) ∧ b ≤ w.heap.size), C'.X⟩, ρ', C'.S0, ⟨rfl, hJ.le.s0, hJ.le.s1, ?_, fun b s e => hsh b s (by have := hJ.le.shape b s e; rwa [hw] at this), fun b vs T fz e e' => hcl b vs T fz (by have := hJ.le.keep b vs T fz e e'; rwa [hw] at this), hJ.le.x, fun b hb hx ho => ⟨?_, ?_⟩, fun b e => ?_, fun n e => hdf n (by have := hJ.le.dk n e; rwa [hw] at this)⟩,
          Y.re hJ.gh ⟨by rw [hw]; show W2.heap.size ≤ W3.heap.size; omega, by rw [hw]; exact hsh, fun b hb hx => ?_, fun b vs T fz e e' => hcl b vs T fz (by rwa [hw] at e'), fun _ e => e, fun b e => Nat.lt_of_lt_of_le (hJ.mem.sin b e) hk3.size, fun _ e => .inl e, fun _ e => e, fun _ e => .inl e, hO5⟩,
          hJ.mem.move2 _ _ _ _ (hCs.trans hJ.nm) (fun _ e => e) (fun b e => Nat.lt_of_lt_of_le (hJ.mem.sin b e) hk3.size) (fun _ _ _ e => e) (fun j b e => Or.inl (hOn j b e)) hk3 (fun j b e => hoth b (hne b (hOn j b e))),
          hr.size, fun t v e => (hslots t v e).mono (hJ.kept.trans hk3 hJ.s) hJ.s hJ.nm, ?_, fun _ e => e⟩
        · have := hJ.le.size
          rw [hw] at this
          show C.w0.heap.size ≤ W3.heap.size
          omega
        · rintro (e | ⟨e | e, -⟩)
          · exact (hJ.le.same b hb hx ho).1 e
          · exact ho e
          · omega
        · have := (hJ.le.same b hb hx ho).2
          rw [hw] at this
          exact (hoth b (by omega)).trans this
        · rcases e with e | e
          · exact hJ.le.o b e
          · exact e.1
        · rw [hw] at hb ⊢
          exact hoth b fun e => hx (e ▸ hJ.xl.1)
        · obtain ⟨ns, g1, g2, g3⟩ := hr.marks
          refine ⟨w.heap.size :: ns, by simp [g1], List.nodup_cons.2 ⟨fun e => ?_, g2⟩, fun n hn => ?_⟩
          · have := (Array.getElem?_eq_some_iff.1 (g3 _ e).2).1; omega
          · rcases List.mem_cons.1 hn with rfl | hn
            · exact ⟨.inl (.inr ⟨.inr hCw, Nat.le_refl _⟩), hdf _ hJ.d⟩
            · obtain ⟨g4, g5⟩ := g3 n hn
              have := (Array.getElem?_eq_some_iff.1 g5).1
              exact ⟨.inl (.inr ⟨g4, by omega⟩), hdf n (hJ.dkw n g5)⟩
      cases hgo' : go with
      | true =>
        obtain ⟨g1, g2, g3, g4⟩ := hJ.on hgo'
        have hkn := hgo hgo'
        subst hkn
        obtain ⟨W3, h1, C5, ρ5, S5, h2, h3, h4⟩ := fin _ _ g4 (by simp)
        refine ⟨none, W3, h1, ?_⟩
        subst g2; subst g3
        exact ⟨C5, ρ5, S5, _, _, ⟨l.n0, _, _⟩, h2, h3, h4, ht, _, _, rfl, rfl, hdone g1⟩
      | false =>
        obtain ⟨q, rfl, hq, g1, g2, g3, c, g4, g5⟩ := hJ.off hgo'
        obtain ⟨W3, h1, C5, ρ5, S5, h2, h3, h4⟩ := fin _ _ g4 (by simp)
        refine ⟨some c, W3, h1, ?_⟩
        subst g2
        rcases g5 with ⟨rfl, g5⟩ | ⟨rfl, g5⟩
        · exact wpIn_ret ⟨C5, ρ5, S5, _, _, ⟨l.n0, _, _⟩, h2, h3, h4, ht, _, _, rfl, rfl, gAll_ok (hret q hq g1 g5) g3⟩
        · refine wpIn_exit ?_
          simp only [Exit.inBlock, if_true]
          exact ⟨C5, ρ5, S5, _, _, ⟨l.n0, _, _⟩, h2, h3, h4, ht, _, _, rfl, rfl, gAll_ok (hbrk q hq g1 g5) g3⟩
  · exact hrf.elim
end
end Go.Proofs.Ytkklmkogdogbkaa.Sep
