/-
  The small calculus, twenty-fourth part: iterators. No condition. (This text proves no statement by itself.)
-/
import Derived.Test.YtkklmkogdogbkaaSep23
namespace Go.Proofs.Ytkklmkogdogbkaa.Sep
open Go
set_option linter.unusedVariables false
set_option linter.unusedSimpArgs false

/-- WHAT AN ITERATOR DOES: it hands n values on, one after the other, while more are asked for. -/
def Iter (P : Program) (g : FuncId) (xs : List SV) (n : Nat) (f : Nat → List SV) : Prop :=
  Ent P g ∧ (∀ k, AV.idlessL (SV.denL (f k)) = true) ∧ ∀ (S0 : Nat → Prop) (W0 : World) (vs : Array Value), (∀ b, S0 b → b < W0.heap.size) → RelCs S0 W0 noNames (SV.denL xs) vs →
    ∀ (l : Nat) (J : Nat → Bool → (Nat → Prop) → (Nat → Prop) → World → Prop),
      (∀ {k go X X' Z W W'}, J k go X Z W → W.heap.size ≤ W'.heap.size → (∀ b s, shp W b = some s → shp W' b = some s) → (∀ b, b < W.heap.size → ¬ X b → W'.heap[b]? = W.heap[b]?) → (∀ b vs T fz, Z b → W.heap[b]? = some (.cells vs T fz) → W'.heap[b]? = some (.cells vs T fz)) →
        (∀ b, X b → X' b) → (∀ b, X' b → X b ∨ (W.heap.size ≤ b ∧ b < W'.heap.size)) → J k go X' Z W') →
      (∀ {k X Z S W args}, k < n → J k true X Z W → (∀ b, Z b → S b) → (∀ b, S b → (S0 b ∨ X b) ∧ b < W.heap.size) → RelCs S W noNames (SV.denL (f k)) args →
        YieldAt Fence.wide 0 P l args W fun e W' => ∃ b, e = .returned (.bool b) ∧ W.heap.size ≤ W'.heap.size ∧ (∀ b s, shp W b = some s → shp W' b = some s) ∧ (∀ b vs T fz, S b → W.heap[b]? = some (.cells vs T fz) → W'.heap[b]? = some (.cells vs T fz)) ∧ (∀ b, X b → W'.heap[b]? = W.heap[b]?) ∧
          (∀ n : Nat, W.heap[n]? = some (.deferred (some [])) → W'.heap[n]? = some (.deferred (some []))) ∧ J (k + 1) b X S W') →
      J 0 true (fun _ => False) S0 W0 →
      Calls P g (#[.func (.yield l) #[] #[]] ++ vs) W0 fun e W' => ∃ v k go X Z, e = .returned v ∧ J k go X Z W' ∧ (go = true → k = n)

/-- What must hold where an iterator ends. -/
def retI (rs : List ResultVar) (n : Nat) : SPost := fun e _ _ nx =>
  match e with
  | .normal | .ret =>
    match rs with
    | [] => nx.go = true → nx.k = n
    | _ => False
  | _ => False

/-- INTO AN ITERATOR. -/
theorem Iter.enterS {P : Program} {E : Eqs} (hE : EqsOK P E) {O : Orc} (hO : OrcOK P O) (hmix : P.follows .mixedOrders = true) (ck : Bool) (L : List Nat) (LO : Nat → Loops) {g : FuncId} {fn : Func} {code : Code} {xs : List SV} {n : Nat} {f : Nat → List SV}
    (hf : P.funcs[g]? = some fn) (hn : (fn.name == "runtime.NumGoroutine") = false) (hb : fn.body = some code) (hxs : xs.length + 1 ≤ fn.ntmps) (hidl : ∀ k, AV.idlessL (SV.denL (f k)) = true) (hL : ∀ l (Y : YEnv P ⟨true, l, n, f⟩), LoopsOK Y Fence.wide fn.ntmps 0 (LO l) code)
    (h : ∀ l, vcS P E O ck ⟨true, l, n, f⟩ fn.ntmps L (LO l) code (retI fn.results.toList n) (argsS 0 (.lit (.func (.yield l) #[] #[]) :: xs)) [] ⟨0, 0, true⟩) : Iter P g xs n f := by
  refine ⟨Ent.of hf hn (by rw [hb]; rfl), hidl, fun S0 W0 vs hS0 hargs l J hJ hY hJ0 => ?_⟩
  refine callsIn_wide.1 (callsIn_of_wp_marks (F := Fence.wide) (n := 0) hf hb trivial ?_)
  have hsz : vs.size = xs.length := by rw [hargs.1, denL_length]
  let C0 : Ctx := ⟨W0, noNames, S0, fun _ => False, fun _ => False⟩
  let Y : YEnv P ⟨true, l, n, f⟩ := {
    G := fun k go C => (∃ Z, J k go C.X Z C.w0 ∧ ∀ b, Z b → C.S0 b) ∧ (∀ b, C.O b → C.X b) ∧ (∀ b, C.S0 b → S0 b ∨ C.X b)
    re := fun {k go C C'} hg hre => by
      obtain ⟨⟨Z, h1, h2⟩, h3, h4⟩ := hg
      refine ⟨⟨Z, hJ h1 hre.size hre.shape hre.old (fun b vs T fz e => hre.keep b vs T fz (h2 b e)) hre.x hre.x1, fun b e => hre.s0 b (h2 b e)⟩, hre.ox, fun b e => ?_⟩
      rcases hre.s3 b e with h5 | h5
      · exact (h4 b h5).imp id (hre.x b)
      · exact .inr h5
    ox := fun hg => hg.2.1
    off := fun e => by cases e
    idl := hidl
    call := fun {k C args} _ hk hg hs hr => by
      obtain ⟨⟨Z, h1, h2⟩, h3, h4⟩ := hg
      obtain ⟨fn, tmps, assign, body, h5, h6⟩ := hY hk h1 h2 (fun b e => ⟨h4 b e, hs b e⟩) hr
      refine ⟨fn, tmps, assign, body, h5, h6.mono ?_⟩
      rintro e W' ⟨b, e1, e2, e3, e4, e5, e6, e7⟩
      exact ⟨b, e1, e2, e3, e4, e5, e6, ⟨C.S0, e7, fun _ e => e⟩, h3, h4⟩ }
  have hG : Y.G 0 true C0 := ⟨⟨S0, hJ0, fun _ e => e⟩, fun _ e => e, fun _ e => .inl e⟩
  have hsl : ∀ (t : Nat) v, (#[Value.func (.yield l) #[] #[]] ++ vs)[t]? = some v → Rel S0 W0 noNames ((SV.denL (.lit (.func (.yield l) #[] #[]) :: xs)).getD t .top) v := fun t v e => by
    cases t with
    | zero =>
      rw [Array.getElem?_append_left (by simp)] at e
      have e : some (Value.func (.yield l) #[] #[]) = some v := e
      cases e
      exact .lit _
    | succ t =>
      rw [Array.getElem?_append_right (by simp)] at e
      have e : vs[t]? = some v := e
      have : t < (SV.denL xs).length := by rw [denL_length, ← hsz]; exact (Array.getElem?_eq_some_iff.1 e).1
      simp only [SV.denL, List.getD_cons_succ]
      exact hargs.2 t _ v (by simp [List.getD, this]) e
  have hrep : Rep C0 fn.ntmps noNames S0 (getA (denA (argsS 0 (.lit (.func (.yield l) #[] #[]) :: xs)))) (getH (denB [])) (fun i => 0 ≤ i) { tmps := (#[.func (.yield l) #[] #[]] ++ vs) ++ Array.replicate (fn.ntmps - (#[Value.func (.yield l) #[] #[]] ++ vs).size) undef, defers := [] } W0 := by
    rw [denA_argsS]
    refine ⟨⟨Nat.le_refl _, fun _ _ e => e, fun _ _ _ => rfl, Names.le.refl _, fun _ e => e, fun _ e => .inl e, hS0, fun i b e => (by cases e), fun i k b e => (by cases e), fun i j k l b e => (by cases e), fun i k e => (by cases e), fun i _ => ⟨rfl, rfl⟩, fun _ _ _ _ _ e => e⟩, by simp [hsz]; omega, fun t v e => ?_, ⟨[], rfl, List.nodup_nil, fun n hn => by cases hn⟩, fun _ e => e⟩
    rw [getA_argsA]
    simp only [Nat.zero_le, if_true, Nat.sub_zero]
    rcases Nat.lt_or_ge t (#[Value.func (.yield l) #[] #[]] ++ vs).size with hlt | hge
    · rw [Array.getElem?_append_left hlt] at e
      exact hsl t v e
    · rw [show (SV.denL (.lit (.func (.yield l) #[] #[]) :: xs)).getD t .top = .top by
        simp [List.getD, List.getElem?_eq_none (show (SV.denL (.lit (.func (.yield l) #[] #[]) :: xs)).length ≤ t by rw [denL_length]; simp at hge ⊢; omega)]]
      exact .top _
  have hw := vcS_sound hE hO FOK.wide hmix (Y := Y) code (hL l Y) _ _ _ _ (h l)
  refine wpIn_mono (hw C0 noNames S0 _ W0 (fun i hi => rfl) hG hrep (fun t ht => ?_)) ?_
  · rw [denA_argsS, getA_argsA]
    simp only [Nat.zero_le, if_true, Nat.sub_zero]
    simp [List.getD, List.getElem?_eq_none (show (SV.denL (.lit (.func (.yield l) #[] #[]) :: xs)).length ≤ t by rw [denL_length]; simp; omega)]
  · rintro e a' w' ⟨C', ρ', S', A', H', nx', hC, hg', hr', ht', SA, SH, rfl, rfl, hret⟩
    have hret' : (e = .normal ∨ e = .ret) ∧ fn.results.toList = [] ∧ (nx'.go = true → nx'.k = n) := by
      unfold retI at hret
      split at hret
      · split at hret
        · rename_i hr; exact ⟨.inl rfl, hr, hret⟩
        · exact hret.elim
      · split at hret
        · rename_i hr; exact ⟨.inr rfl, hr, hret⟩
        · exact hret.elim
      · exact hret.elim
    obtain ⟨he, hres, hfin⟩ := hret'
    have hend : LeavesInM Fence.wide 0 P fn a'.tmps (fun e W' => ∃ v k go X Z, e = .returned v ∧ J k go X Z W' ∧ (go = true → k = n)) a'.defers .returning w' := by
      obtain ⟨ns, hds, hnd, hns⟩ := hr'.marks
      rw [hds]
      refine leaves_marks (C := C') (fun w'' => Mem C' ρ' S' (getH (denB SH)) (fun i => nx'.n ≤ i) w'' ∧ ∀ t v, a'.tmps[t]? = some v → Rel S' w'' ρ' (getA (denA SA) t) v) (fun w'' hq'' => ?_) (fun w1 n hr1 h1 h2 => ?_) ns w' hnd hns ⟨hr'.mem, hr'.slots⟩
      · have hr'' : Rep (C'.again w'' S') fn.ntmps ρ' S' (getA (denA SA)) (getH (denB SH)) (fun i => nx'.n ≤ i) ⟨a'.tmps, []⟩ w'' := ⟨hq''.1.again, hr'.size, hq''.2, ⟨[], rfl, List.nodup_nil, fun n hn => by cases hn⟩, fun _ e => e⟩
        obtain ⟨v, hv, -⟩ := run_results (fn := fn) hr'' ht' (q := (True, [])) (by rw [hres]; rfl) trivial
        obtain ⟨⟨Z, h1, -⟩, -⟩ := Y.re hg' (hq''.1.re (Y.ox hg'))
        exact ⟨v, hv, v, nx'.k, nx'.go, _, Z, rfl, h1, hfin⟩
      · obtain ⟨hm2, hk2⟩ := hr1.1.turn (w' := w1.putObj n (.deferred none)) (n := n) h1 (fun vs T fz e => by rw [h2] at e; cases e) (by simp [World.putObj]) (fun c hc => World.putObj_heap_other hc) ⟨rfl, rfl⟩
        exact ⟨hm2, fun t v e => (hr1.2 t v e).mono hk2 (fun _ e => e) (Names.le.refl _)⟩
    rcases he with rfl | rfl
    · exact hend
    · exact hend

end Go.Proofs.Ytkklmkogdogbkaa.Sep
