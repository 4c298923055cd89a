/-
  From a contract to what a row says: the call answers true, and its arguments read as they did. No condition. (This text proves no statement by itself.)
-/
import Derived.Test.YtkklmkogdogbkaaBase
import Derived.Test.YtkklmkogdogbkaaChecked
import Derived.ProofKit
import Derived.HandedShaped
import Derived.Deep.SlicePairs
namespace Go.Proofs.Ytkklmkogdogbkaa.Sep
open Go Go.ChangeShapes Go.WideShapes Go.ChangeAt Go.RowKit
set_option linter.unusedVariables false
set_option linter.unusedSimpArgs false

/-- Nothing that was there has turned. -/
structure Stays (W W' : World) : Prop where
  os : W'.os = W.os
  output : W'.output = W.output
  size : W.heap.size ≤ W'.heap.size
  block : ∀ k, k < W.heap.size → W'.heap[k]? = W.heap[k]?
abbrev oldS (W : World) : Nat → Prop := fun b => b < W.heap.size
theorem calls_true {f : FuncId} {xs : List SV} {W : World} {vs : Array Value} (hp : Pure PP f (SV.denL xs) (SV.bool true).den) (hr : RelCs (oldS W) W noNames (SV.denL xs) vs) :
    Calls PP f vs W fun e W' => e = .returned (.bool true) ∧ Stays W W' := by
  have hmem : Mem (Ctx.of W noNames (oldS W)) noNames (oldS W) (([] : List Blk)[·]?) (fun i => ([] : List Blk).length ≤ i) W :=
    ⟨Nat.le_refl _, fun _ _ e => e, fun _ _ _ => rfl, Names.le.refl _, fun _ e => e, fun _ e => .inl e, fun b hb => hb, fun i b e => (by cases e), fun i k b e => (by simp at e), fun i j k l b e => (by simp at e), fun i k e => (by simp at e), fun i _ => ⟨by simp, rfl⟩, fun _ _ _ _ _ e => e⟩
  refine (hp.2.2 noNames (oldS W) W vs hmem hr).mono ?_
  rintro e W' ⟨v, rfl, ρ', S', hm, hv⟩
  obtain rfl := hv.lit_inv
  have hio := shp_io hm.shape
  exact ⟨rfl, hio.1, hio.2, hm.size, fun k hk => hm.old k hk (fun ⟨j, h⟩ => by cases h)⟩

section
variable {H : Type} {enc : TypeId × Value → H} {P : Program}
theorem Stays.kept {W W' : World} (h : Stays W W') (may : MemPlace → Prop) : W.keptBut W' may := by
  refine ⟨h.os, h.output, fun i hi => ?_⟩
  rw [h.block i hi]
  cases W.heap[i]? with
  | none => rfl
  | some o => cases o <;> first | exact ⟨rfl, rfl, rfl, fun _ _ => rfl⟩ | exact .inr ⟨rfl, rfl⟩ | rfl
theorem Stays.same {W W' : World} (h : Stays W W') {p : MemPlace} (hp : p.block < W.heap.size) : W.sameAt W' p := by
  cases p with
  | cell b off => exact World.cell?_of_block (w := W) (h.block b hp)
  | map b => exact h.block b hp
theorem Stays.frozen {W W' : World} (h : Stays W W') {a : Addr} (hp : a.block < W.heap.size) : W'.frozen? a = W.frozen? a := World.frozen?_of_block (w := W) (h.block a.block hp)
/-- The types of the parameters can be read. -/
def readTs (P : Program) (ts : List TypeId) : Bool := ts.all fun t => P.readableRec t && decide (t < P.types.size)
theorem Stays.trodAll (hl : laidOutB P = true) {W W' : World} (hb : Stays W W') {sp' : Nat → Bool} : ∀ {ts : List TypeId} {vs : List Value} {ds : List (DataW H)} {ps : List MemPlace}, readTs P ts = true → (∀ p ∈ ps, p.block < W.heap.size) → (∀ p ∈ ps, sp' p.block = true) →
    DataW.TrodAll enc P W 0 (fun _ => true) true ts vs ds ps → DataW.TrodAll enc P W' 0 sp' true ts vs ds ps
  | [], [], [], _, _, _, _, h => h
  | [], [], _ :: _, _, _, _, _, h => h.elim
  | [], _ :: _, [], _, _, _, _, h => h.elim
  | [], _ :: _, _ :: _, _, _, _, _, h => h.elim
  | _ :: _, [], _, _, _, _, _, h => h.elim
  | _ :: _, _ :: _, [], _, _, _, _, h => h.elim
  | t :: ts, v :: vs, d :: ds, ps, hr, hlt, hs, h => by
    obtain ⟨p, q, h1, h2, rfl⟩ := h
    simp only [readTs, List.all_cons, Bool.and_eq_true, decide_eq_true_eq] at hr
    refine ⟨p, q, WideElems.Trod_stays hl hr.1.1 hr.1.2 h1 (fun x hx => hb.same (hlt x (by simp [hx]))) (fun x hx => hs x (by simp [hx])), ?_, rfl⟩
    exact Stays.trodAll hl hb (by simpa [readTs] using hr.2) (fun x hx => hlt x (by simp [hx])) (fun x hx => hs x (by simp [hx])) h2

/-- What is asked behind the call. -/
theorem post_true (hl : laidOutB P = true) {f : Func} {s : ChangeSpec} {apart fresh handsOn again : Bool} {W W' : World} {args : Array Value} {ds gs : List (DataW H)} {before : List MemPlace} {tb : TypeId}
    (hv : s.vars = []) (hts : readTs P f.params.toList = true) (hrt : f.resultTypes = #[tb]) (htb : P.underlying tb = some .bool) (hfn : s.fn H (ds ++ gs) = { results := [.lit (.bool true)], args := ds })
    (hW : DataW.Whole enc P f.params.toList s.vars apart W args.toList ds gs before) (hb : Stays W W') :
    s.post enc P f apart fresh handsOn again W args (.bool true) W' := by
  have hlt := hW.lt
  have hold : ∀ p ∈ before, (fun b => decide (b < W.heap.size)) p.block = true := fun p hp => by simpa using hlt p hp
  have hW' := hW
  obtain ⟨pa, pv, hA, hV, hps, hz, hn⟩ := hW'
  have hpv : gs = [] ∧ pv = [] := by rw [hv] at hV; exact trodVars_none hV
  obtain ⟨rfl, rfl⟩ := hpv
  simp only [List.append_nil] at hps
  subst hps
  have hres : ∀ (b : Nat) (sp : Nat → Bool) (hd : Bool), DataW.TrodAll enc P W' b sp hd f.resultTypes.toList ((Value.bool true).resultList f.resultTypes.size) (s.fn H (ds ++ [])).results [] := fun b sp hd => by
    rw [hfn, hrt]
    exact trodAll_mk1 (shut_bool htb true)
  have hargs : ∀ sp : Nat → Bool, (∀ p ∈ before, sp p.block = true) → DataW.TrodAll enc P W' 0 sp true f.params.toList args.toList (s.fn H (ds ++ [])).args before := fun sp hsp => by
    rw [hfn]
    exact Stays.trodAll hl hb hts hlt hsp hA
  have hvars : ∀ sp : Nat → Bool, DataW.TrodVars enc P W' sp s.vars (s.fn H (ds ++ [])).vars [] := fun sp => by
    rw [hfn, hv]; rfl
  refine ⟨ds, [], before, [], before, [], hW, hres _ _ _, hargs _ hold, hvars _, World.keptBut_mono (fun p hp => ⟨hp, ?_⟩) (hb.kept (· ∈ before)), fun _ => ?_⟩
  · exact Or.inr (.inl hp)
  · refine ⟨ok_one hrt rfl (okWide_bool_mk htb true), _, _, ([] ++ before) ++ [], ⟨[] ++ before, [], trodAll_append (hargs _ (fun _ _ => rfl)) (hres _ _ _), hvars _, rfl, ?_, ?_⟩, ?_⟩
    · intro b off hp
      have hp : MemPlace.cell b off ∈ before := by simpa using hp
      rw [hb.frozen (a := ⟨b, off, none⟩) (hlt _ hp)]
      exact hz b off hp
    · intro ha
      simpa using hn ha
    · intro p hp _
      simpa using hp
end
end Go.Proofs.Ytkklmkogdogbkaa.Sep
