/-
  The small calculus, twenty-third part: loops. No condition. (This text proves no statement by itself.)
-/
import Derived.Test.YtkklmkogdogbkaaSep22
import Derived.LoopNIn
namespace Go.Proofs.Ytkklmkogdogbkaa.Sep
open Go
set_option linter.unusedVariables false
set_option linter.unusedSimpArgs false

/-- What is told of a loop: what the states at its head look like, and the states behind it. -/
structure LoopS where
  ι : Type
  β : Type
  pre : ι → Prop
  μ : ι → Nat
  next : ι → SSlots → SBlks → Cnt → ι
  out : ι → β
  early : β → Bool
  SA : ι → SSlots
  SH : ι → SBlks
  n0 : Nat
  g0 : ι → Nat × Bool := fun _ => (0, false)
  NA : β → SSlots
  NH : β → SBlks
  n1 : Nat
  RA : β → SSlots
  RH : β → SBlks
  gN : β → Nat → Bool → Prop := fun _ _ _ => True
  gR : β → Nat → Bool → Prop := fun _ _ _ => False

/-- What was handed on, where something is. -/
def gOK (on : Bool) (nx : Cnt) (g : Nat × Bool) (p : Prop) : Prop := match on with
  | false => p
  | true => nx.k = g.1 ∧ nx.go = g.2 ∧ p
theorem gOK_ok {P : Program} {ys : YS} {Y : YEnv P ys} {nx : Cnt} {g : Nat × Bool} {p : Prop} {C : Ctx} (h : gOK ys.on nx g p) (hg : Y.G nx.k nx.go C) : p ∧ Y.G g.1 g.2 C := by
  unfold gOK at h
  split at h
  · rename_i ho; exact ⟨h, Y.off ho hg⟩
  · obtain ⟨h1, h2, h3⟩ := h; rw [← h1, ← h2]; exact ⟨h3, hg⟩

/-- The same of what is not known ahead. -/
def gOK' (on : Bool) (nx : Cnt) (g : Nat → Bool → Prop) (b p : Prop) : Prop := match on with
  | false => b ∧ p
  | true => g nx.k nx.go ∧ p
def gAll (on : Bool) (n : Nat) (g : Nat → Bool → Prop) (b : Prop) (K : Cnt → Prop) : Prop := match on with
  | false => b → K ⟨n, 0, false⟩
  | true => ∀ k go, g k go → K ⟨n, k, go⟩
def gWas (on : Bool) (nx : Cnt) (n : Nat) (g : Nat → Bool → Prop) (b : Prop) : Prop := match on with
  | false => b ∧ nx = ⟨n, 0, false⟩
  | true => nx.n = n ∧ g nx.k nx.go
theorem gOK'_ok {P : Program} {ys : YS} {Y : YEnv P ys} {nx : Cnt} {g : Nat → Bool → Prop} {b p : Prop} {C : Ctx} (n : Nat) (h : gOK' ys.on nx g b p) (hg : Y.G nx.k nx.go C) : p ∧ ∃ nx' : Cnt, nx'.n = n ∧ gWas ys.on nx' n g b ∧ Y.G nx'.k nx'.go C := by
  unfold gOK' at h
  unfold gWas
  split at h
  · rename_i ho; exact ⟨h.2, ⟨n, 0, false⟩, rfl, ⟨h.1, rfl⟩, Y.off ho hg⟩
  · rename_i ho; exact ⟨h.2, ⟨n, nx.k, nx.go⟩, rfl, ⟨rfl, h.1⟩, hg⟩
theorem gAll_ok {on : Bool} {n : Nat} {g : Nat → Bool → Prop} {b : Prop} {K : Cnt → Prop} (h : gAll on n g b K) {nx : Cnt} (hw : gWas on nx n g b) : K nx := by
  cases on
  · have hw : b ∧ nx = ⟨n, 0, false⟩ := hw
    rw [hw.2]; exact h hw.1
  · have hw : nx.n = n ∧ g nx.k nx.go := hw
    obtain ⟨k, j, go⟩ := nx
    obtain ⟨rfl, h2⟩ := hw
    exact h j go h2

/-- What one round must come to. -/
def roundQ (on : Bool) (N m : Nat) (id : Nat) (l : LoopS) (i : l.ι) : SPost := fun e A H nx =>
  match e with
  | .normal => l.pre (l.next i A H nx) ∧ l.μ (l.next i A H nx) < l.μ i ∧ l.out (l.next i A H nx) = l.out i ∧ gOK on nx (l.g0 (l.next i A H nx)) (fit N m A H (l.SA (l.next i A H nx)) (l.SH (l.next i A H nx)) l.n0)
  | .exit k => match Nat.beq k id with
    | true => gOK' on nx (l.gN (l.out i)) (l.early (l.out i) = false) (fit N m A H (l.NA (l.out i)) (l.NH (l.out i)) l.n1)
    | false => False
  | .ret => gOK' on nx (l.gR (l.out i)) (l.early (l.out i) = true) (fit N m A H (l.RA (l.out i)) (l.RH (l.out i)) l.n1)
  | _ => False

/-- What the whole loop comes to. -/
def loopQ (on : Bool) (l : LoopS) (i : l.ι) : SPost := fun e A H nx =>
  (e = .normal ∧ gWas on nx l.n1 (l.gN (l.out i)) (l.early (l.out i) = false) ∧ A = l.NA (l.out i) ∧ H = l.NH (l.out i)) ∨ (e = .ret ∧ gWas on nx l.n1 (l.gR (l.out i)) (l.early (l.out i) = true) ∧ A = l.RA (l.out i) ∧ H = l.RH (l.out i))

/-- The loop as the code before it sees it. -/
def loopT (on : Bool) (N m : Nat) (l : LoopS) (par : SSlots → SBlks → Cnt → l.ι) (Q : SPost) (A : SSlots) (H : SBlks) (nx : Cnt) : Prop :=
  l.pre (par A H nx) ∧ gOK on nx (l.g0 (par A H nx)) (fit N m A H (l.SA (par A H nx)) (l.SH (par A H nx)) l.n0) ∧
    gAll on l.n1 (l.gN (l.out (par A H nx))) (l.early (l.out (par A H nx)) = false) (Q .normal (l.NA (l.out (par A H nx))) (l.NH (l.out (par A H nx)))) ∧
    gAll on l.n1 (l.gR (l.out (par A H nx))) (l.early (l.out (par A H nx)) = true) (Q .ret (l.RA (l.out (par A H nx))) (l.RH (l.out (par A H nx))))

section
variable {P : Program} {ys : YS} {Y : YEnv P ys} {F : Fence} {N m id : Nat} {c : Code}
theorem WPS.fit {Q : SPost} {A A' : SSlots} {H H' : SBlks} {nx : Cnt} {n' : Nat} {g : Nat × Bool} (h : WPS Y F N m c Q A' H' ⟨n', g.1, g.2⟩) (hf : gOK ys.on nx g (fit N m A H A' H' n')) : WPS Y F N m c Q A H nx := fun C ρ S a w h0 hg hr _ => by
  obtain ⟨hf, hg'⟩ := gOK_ok hf hg
  obtain ⟨ρ', h1, h2⟩ := fit_ok h0 hr hf
  exact h C ρ' S a w h0 hg' h1 h2

theorem loop_ok {l : LoopS} (h : ∀ i, l.pre i → WPS Y F N m c (roundQ ys.on N m id l i) (l.SA i) (l.SH i) ⟨l.n0, (l.g0 i).1, (l.g0 i).2⟩) : ∀ i, l.pre i → WPS Y F N m (.block id (.loop c)) (loopQ ys.on l i) (l.SA i) (l.SH i) ⟨l.n0, (l.g0 i).1, (l.g0 i).2⟩ := by
  intro i0 hp C0 ρ S a w h0 hg hr ht
  refine wpIn_block (wpIn_loop_rounds (l.μ i0 + 1) ?_)
  have key : ∀ (n : Nat) (i : l.ι) (C : Ctx) (ρ : Names) (S : Nat → Prop) (a : Act) (w : World), C0.Le C → l.μ i < n → l.pre i → l.out i = l.out i0 → Y.G (l.g0 i).1 (l.g0 i).2 C → Rep C N ρ S (getA (denA (l.SA i))) (getH (denB (l.SH i))) (fun k => l.n0 ≤ k) a w → (∀ t, N ≤ t → getA (denA (l.SA i)) t = .top) →
      Code.roundsIn F 0 P c (Exit.inBlock id (EndS Y N C0 (loopQ ys.on l i0))) n a w := by
    intro n
    induction n with
    | zero => intro i C ρ S a w _ hn; omega
    | succ n ih =>
      intro i C ρ S a w hC hn hp ho hg hr ht
      rw [roundsIn_succ]
      have h0' : ∀ i, m ≤ i → C.ρ0 i = none := by rw [hC.ρ0]; exact h0
      refine wpIn_mono (h i hp C ρ S a w h0' hg hr ht) ?_
      rintro e a' w' ⟨C', ρ', S', A', H', nx', hC', hg', hr', ht', SA, SH, rfl, rfl, hq⟩
      have h0'' : ∀ i, m ≤ i → C'.ρ0 i = none := by rw [hC'.ρ0]; exact h0'
      unfold roundQ at hq
      split at hq
      · obtain ⟨h1, h2, h3, h4⟩ := hq
        obtain ⟨h4, hg2⟩ := gOK_ok h4 hg'
        obtain ⟨ρ'', h5, h6⟩ := fit_ok h0'' hr' h4
        exact ih _ C' ρ'' S' a' w' (hC.trans hC') (by omega) h1 (h3.trans ho) hg2 h5 h6
      · rename_i k
        split at hq
        · rename_i hk
          have := beq_true hk
          subst this
          obtain ⟨h2, nx2, hn2, hw2, hg2⟩ := gOK'_ok l.n1 hq hg'
          obtain ⟨ρ'', h5, h6⟩ := fit_ok h0'' hr' h2
          rw [ho] at hw2 h5 h6
          rw [← hn2] at h5
          simp only [Exit.then, Exit.inBlock, if_true]
          exact ⟨C', ρ'', S', _, _, nx2, hC.trans hC', hg2, h5, h6, l.NA (l.out i0), l.NH (l.out i0), rfl, rfl, .inl ⟨rfl, hw2, rfl, rfl⟩⟩
        · exact hq.elim
      · obtain ⟨h2, nx2, hn2, hw2, hg2⟩ := gOK'_ok l.n1 hq hg'
        obtain ⟨ρ'', h5, h6⟩ := fit_ok h0'' hr' h2
        rw [ho] at hw2 h5 h6
        rw [← hn2] at h5
        simp only [Exit.then, Exit.inBlock]
        exact ⟨C', ρ'', S', _, _, nx2, hC.trans hC', hg2, h5, h6, l.RA (l.out i0), l.RH (l.out i0), rfl, rfl, .inr ⟨rfl, hw2, rfl, rfl⟩⟩
      · exact hq.elim
  exact key _ i0 C0 ρ S a w (.refl _) (Nat.lt_succ_self _) hp rfl hg hr ht

/-- The loop may be passed so. -/
theorem loopT_ok {l : LoopS} {par : SSlots → SBlks → Cnt → l.ι} (h : ∀ i, l.pre i → WPS Y F N m c (roundQ ys.on N m id l i) (l.SA i) (l.SH i) ⟨l.n0, (l.g0 i).1, (l.g0 i).2⟩) :
    ∀ Q A H nx, loopT ys.on N m l par Q A H nx → WPS Y F N m (.block id (.loop c)) Q A H nx := by
  rintro Q A H nx ⟨h1, h2, h3, h4⟩
  refine WPS.fit (WPS.mono (loop_ok h _ h1) ?_) h2
  rintro e A' H' nx' (⟨rfl, h5, rfl, rfl⟩ | ⟨rfl, h5, rfl, rfl⟩)
  · exact gAll_ok h3 h5
  · exact gAll_ok h4 h5
end

theorem LoopsOK.nil {P : Program} {ys : YS} {Y : YEnv P ys} {F : Fence} {N m : Nat} {code : Code} : LoopsOK Y F N m [] code := fun p hp => by cases hp
theorem LoopsOK.cons {P : Program} {ys : YS} {Y : YEnv P ys} {F : Fence} {N m id : Nat} {code c : Code} {T : SPost → SSlots → SBlks → Cnt → Prop} {LO : Loops} (hb : blksOf id code = [c]) (h : ∀ Q A H nx, T Q A H nx → WPS Y F N m (.block id c) Q A H nx) (hL : LoopsOK Y F N m LO code) :
    LoopsOK Y F N m ((id, T) :: LO) code := by
  intro p hp
  rcases List.mem_cons.1 hp with rfl | hp
  · intro c' hc'
    simp only [hb, List.mem_singleton] at hc'
    subst hc'
    exact h
  · exact hL p hp

/-- The code of the block with this number, of the loop in it. -/
def blkOf (id : Nat) (code : Code) : Code := match blksOf id code with
  | c :: _ => c
  | [] => .skip
def loopOf (id : Nat) (code : Code) : Code := match blkOf id code with
  | .loop c => c
  | _ => .skip

/-- A loop of this code may be passed so, if its round is as it should be. -/
theorem LoopsOK.loop {P : Program} {E : Eqs} (hE : EqsOK P E) {O : Orc} (hO : OrcOK P O) (hmix : P.follows .mixedOrders = true) {ck : Bool} {ys : YS} {Y : YEnv P ys} {L : List Nat} {LO LI : Loops} {F : Fence} (hF : FOK F) {N m id : Nat} {code : Code} {l : LoopS} {par : SSlots → SBlks → Cnt → l.ι}
    (hb : blksOf id code = [.loop (loopOf id code)]) (hI : LoopsOK Y F N m LI (loopOf id code)) (hL : LoopsOK Y F N m LO code)
    (h : ∀ i, l.pre i → vcS P E O ck ys N L LI (loopOf id code) (roundQ ys.on N m id l i) (l.SA i) (l.SH i) ⟨l.n0, (l.g0 i).1, (l.g0 i).2⟩) : LoopsOK Y F N m ((id, loopT ys.on N m l par) :: LO) code :=
  .cons hb (loopT_ok fun i hp => vcS_sound hE hO hF hmix _ hI _ _ _ _ (h i hp)) hL

end Go.Proofs.Ytkklmkogdogbkaa.Sep
