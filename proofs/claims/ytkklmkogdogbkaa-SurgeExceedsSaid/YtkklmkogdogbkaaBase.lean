/-
  The small calculus at this program: how a function is entered. No condition. (This text proves no statement by itself.)
-/
import Derived.Test.YtkklmkogdogbkaaSep29
import Derived.Test.YtkklmkogdogbkaaProg
namespace Go.Proofs.Ytkklmkogdogbkaa.Sep
open Go
set_option linter.unusedVariables false
set_option linter.unusedSimpArgs false

noncomputable abbrev PP : Program := Try.prog
theorem hmix : PP.follows .mixedOrders = true := by kernel_rfl
def bodyOf (f : Func) : Code := match f.body with
  | some c => c
  | none => .skip
def isFn (f : Func) (n : Nat) : Bool := f.body.isSome && !(f.name == "runtime.NumGoroutine") && Nat.ble n f.ntmps

/-- The block with this number, wherever it lies. -/
def blkIn (id : Nat) : Code → Option Code
  | .seq x y => match blkIn id x with
    | some c => some c
    | none => blkIn id y
  | .cond _ x y => match blkIn id x with
    | some c => some c
    | none => blkIn id y
  | .block j c => match Nat.beq j id with
    | true => some c
    | false => blkIn id c
  | .loop c => blkIn id c
  | .rangeFunc _ _ x y => match blkIn id x with
    | some c => some c
    | none => blkIn id y
  | _ => none
def blkAt (id : Nat) (f : Func) : Code := match blkIn id (bodyOf f) with
  | some c => c
  | none => .skip
def loopIn : Code → Code
  | .loop c => c
  | _ => .skip
def rfFn : Code → Operand
  | .rangeFunc g _ _ _ => g
  | _ => .const undef
def rfPs : Code → Array Tmp
  | .rangeFunc _ ps _ _ => ps
  | _ => #[]
def rfAssign : Code → Code
  | .rangeFunc _ _ c _ => c
  | _ => .skip
def rfBody : Code → Code
  | .rangeFunc _ _ _ c => c
  | _ => .skip

/-- What is left to show of a function that writes nothing of its caller's. -/
abbrev V (ck : Bool) (E : Eqs) (O : Orc) (f : Func) (L : List Nat) (LO : Loops) (xs : List SV) (r : SV) : Prop :=
  vcS PP E O ck YS.none f.ntmps L LO (bodyOf f) (retS PP f.results.toList r []) (argsS 0 xs) [] ⟨0, 0, false⟩
/-- What is left to show of an iterator. -/
abbrev VI (ck : Bool) (E : Eqs) (O : Orc) (f : Func) (L : List Nat) (LO : Loops) (xs : List SV) (l n : Nat) (g : Nat → List SV) : Prop :=
  vcS PP E O ck ⟨true, l, n, g⟩ f.ntmps L LO (bodyOf f) (retI f.results.toList n) (argsS 0 (.lit (.func (.yield l) #[] #[]) :: xs)) [] ⟨0, 0, true⟩
/-- What is left to show of a loop's round. -/
abbrev VL (ck : Bool) (E : Eqs) (O : Orc) (ys : YS) (f : Func) (m : Nat) (L : List Nat) (LI : Loops) (id : Nat) (l : LoopS) (i : l.ι) : Prop :=
  vcS PP E O ck ys f.ntmps L LI (loopIn (blkAt id f)) (roundQ ys.on f.ntmps m id l i) (l.SA i) (l.SH i) ⟨l.n0, (l.g0 i).1, (l.g0 i).2⟩
/-- What is left to show of a range's round. -/
abbrev VR (ck : Bool) (E : Eqs) (O : Orc) (ys : YS) (f : Func) (L : List Nat) (LI : Loops) (id : Nat) (l : RangeS) (i : l.ι) (k : Nat) : Prop :=
  vcS PP E O ck ys f.ntmps L LI (rfAssign (blkAt id f)) (onlyN (vcS PP E O ck ys f.ntmps L LI (rfBody (blkAt id f)) (rfQ ys.on f.ntmps id l i k))) (paramS (rfPs (blkAt id f)).toList (l.f i k) (l.SA i)) (l.SH i k) ⟨l.n0, (l.g0 i k).1, (l.g0 i k).2⟩

/-- A proposition that is not looked into. -/
structure Hold (p : Prop) : Prop where
  out : p
theorem Hold.of {p q : Prop} (h : p = q) (hq : q) : Hold p := ⟨h.mpr hq⟩

theorem isFn_inv {f : Func} {n : Nat} (hn : isFn f n = true) : (f.name == "runtime.NumGoroutine") = false ∧ f.body = some (bodyOf f) ∧ n ≤ f.ntmps := by
  simp only [isFn, Bool.and_eq_true, Bool.not_eq_true'] at hn
  obtain ⟨⟨h1, h2⟩, h3⟩ := hn
  refine ⟨h2, ?_, Nat.le_of_ble_eq_true h3⟩
  cases hb : f.body with
  | none => rw [hb] at h1; cases h1
  | some c => simp [bodyOf, hb]

section
variable {E : Eqs} (hE : EqsOK PP E) {O : Orc} (hO : OrcOK PP O) {ck : Bool} {L : List Nat}
include hE hO

theorem enter {LO : Loops} {k : FuncId} {f : Func} {xs : List SV} {r : SV} (hf : PP.funcs[k]? = some f) (hn : isFn f xs.length = true)
    (hL : ∀ Y : YEnv PP YS.none, LoopsOK Y Fence.wide f.ntmps 0 LO (bodyOf f)) (h : Hold (V ck E O f L LO xs r)) : Pure PP k (SV.denL xs) r.den := by
  obtain ⟨h1, h2, h3⟩ := isFn_inv hn
  exact Spec.enterS hE hO hmix ck L LO hf h1 h2 h3 (Hs := []) (Hs' := []) rfl hL h.out

theorem enterI {LO : Nat → Loops} {k : FuncId} {f : Func} {xs : List SV} {n : Nat} {g : Nat → List SV} (hf : PP.funcs[k]? = some f) (hn : isFn f (xs.length + 1) = true) (hidl : ∀ k, AV.idlessL (SV.denL (g k)) = true)
    (hL : ∀ l (Y : YEnv PP ⟨true, l, n, g⟩), LoopsOK Y Fence.wide f.ntmps 0 (LO l) (bodyOf f)) (h : ∀ l, Hold (VI ck E O f L (LO l) xs l n g)) : Iter PP k xs n g := by
  obtain ⟨h1, h2, h3⟩ := isFn_inv hn
  exact Iter.enterS hE hO hmix ck L LO hf h1 h2 h3 hidl hL fun l => (h l).out

theorem loopW {ys : YS} (Y : YEnv PP ys) {F : Fence} (hF : FOK F) {f : Func} {m id : Nat} {l : LoopS} {LI : l.ι → Loops} {par : SSlots → SBlks → Cnt → l.ι} (hc : blkAt id f = .loop (loopIn (blkAt id f))) (hI : ∀ i, LoopsOK Y F f.ntmps m (LI i) (loopIn (blkAt id f)))
    (h : ∀ i, l.pre i → Hold (VL ck E O ys f m L (LI i) id l i)) : ∀ Q A H nx, loopT ys.on f.ntmps m l par Q A H nx → WPS Y F f.ntmps m (.block id (blkAt id f)) Q A H nx := by
  rw [hc]
  exact loopT_ok fun i hp => vcS_sound hE hO hF hmix _ (hI i) _ _ _ _ (h i hp).out

theorem rangeW {ys : YS} (Y : YEnv PP ys) {F : Fence} (hF : FOK F) (hr : F.round = none) {gf : FuncId} {it : List SV → Option (List Prop × Nat × (Nat → List SV))} (hit : IterOK PP gf it) {f : Func} {m id : Nat} {l : RangeS} {LI : Loops} {par : SSlots → SBlks → Cnt → l.ι}
    (hc : blkAt id f = .rangeFunc (rfFn (blkAt id f)) (rfPs (blkAt id f)) (rfAssign (blkAt id f)) (rfBody (blkAt id f))) (hps : ∀ i k, (l.f i k).length = (rfPs (blkAt id f)).size) (hpN : (rfPs (blkAt id f)).toList.all (fun p => Nat.blt p f.ntmps) = true)
    (hA : ∀ b, LoopsOK Y (Fence.wide.inRound b) f.ntmps l.mf LI (rfAssign (blkAt id f))) (hB : ∀ b, LoopsOK Y (Fence.wide.inRound b) f.ntmps l.mf LI (rfBody (blkAt id f)))
    (h : ∀ i k, k < l.cnt i → l.pre i k → Hold (VR ck E O ys f L LI id l i k)) : ∀ Q A H nx, rangeT ys.on f.ntmps m (rfFn (blkAt id f)) gf it l par Q A H nx → WPS Y F f.ntmps m (.block id (blkAt id f)) Q A H nx := by
  intro Q A H nx hT
  have := rangeT_ok hE hO hmix hF hr hit hps hpN hA hB (fun i k hk hp => (h i k hk hp).out) Q A H nx hT
  rw [← hc] at this
  exact this
end

theorem EqsOK.nil {P : Program} : EqsOK P [] := fun p h => by cases h
theorem EqsOK.cons {P : Program} {E : Eqs} {T : TypeId} {ks : List Nat} (h : EqOK P T ks) (hE : EqsOK P E) : EqsOK P ((T, ks) :: E) := fun p hp => by
  rcases List.mem_cons.1 hp with rfl | hp
  · exact h
  · exact hE p hp

def eqs : Eqs := [(26, [5, 5]), (32, [5, 5, 5, 5, 5]), (43, [5, 5, 5, 5, 5])]
theorem eqsok : EqsOK PP eqs := .cons (eqCk_ok (by kernel_rfl) (by kernel_rfl)) (.cons (eqCk_ok (by kernel_rfl) (by kernel_rfl)) (.cons (eqCk_ok (by kernel_rfl) (by kernel_rfl)) .nil))

/-- Values taken apart. -/
def asI (x : SV) : Int := match x with
  | .int _ n => n
  | _ => 0
def asB (x : SV) : Bool := match x with
  | .bool b => b
  | _ => false
def asN (x : SV) : Nat := match x with
  | .sl _ n _ => n
  | .vec _ _ _ n => n
  | _ => 0
def asF (x : SV) : Nat → List SV := match x with
  | .sl _ _ f => f
  | _ => fun _ => []
def asC (x : SV) (k : Nat) : SV := match x with
  | .agg cs => cs.getD k .top
  | _ => .top
/-- What a pointer of our own points to. -/
def ptrC (H : SBlks) (x : SV) (k : Nat) : SV := match x with
  | .ptr i off => match getB H i with
    | some (.cells cs) => cs.getD (off + k) .top
    | _ => .top
  | .sptr _ _ f n j => (f n).getD (j + k) .top
  | _ => .top
/-- What a slice of our own holds. -/
def vecF (H : SBlks) (x : SV) : Nat → List SV := match x with
  | .vec i _ lo _ => match getB H i with
    | some (.row _ _ f) => fun k => f (lo + k)
    | _ => fun _ => []
  | .sl _ _ f => f
  | _ => fun _ => []

/-- Of two values the second says less. -/
def SLe (x y : SV) : Prop := x.den.le y.den
inductive SLeL : List SV → List SV → Prop
  | nil : SLeL [] []
  | cons {x y : SV} {xs ys : List SV} (h : SLe x y) (hs : SLeL xs ys) : SLeL (x :: xs) (y :: ys)
theorem SLe.refl (x : SV) : SLe x x := AV.le.refl _
theorem SLeL.refl : ∀ xs : List SV, SLeL xs xs
  | [] => .nil
  | x :: xs => .cons (.refl x) (.refl xs)
theorem SLeL.to {xs ys : List SV} (h : SLeL xs ys) : LeL (SV.denL xs) (SV.denL ys) := by
  induction h with
  | nil => trivial
  | cons h _ ih => exact ⟨h, ih⟩
theorem SLe.agg {xs ys : List SV} (h : SLeL xs ys) : SLe (.agg xs) (.agg ys) := by
  unfold SLe; simp only [SV.den]; exact AV.le.agg h.to
theorem SLe.tup {xs ys : List SV} (h : SLeL xs ys) : SLe (.tup xs) (.tup ys) := by
  unfold SLe; simp only [SV.den]; exact AV.le.tup h.to
theorem SLe.fn {f : FuncId} {xs ys cs ds : List SV} (h : SLeL xs ys) (h' : SLeL cs ds) : SLe (.fn f xs cs) (.fn f ys ds) := fun S w ρ v hv => by
  simp only [SV.den] at hv ⊢
  obtain ⟨us, vs, rfl, h1, h2, h3, h4⟩ := hv.fn_inv
  refine .fn (by rw [h1, h.to.len]) (fun k c u e1 e2 => ?_) (by rw [h3, h'.to.len]) (fun k c u e1 e2 => ?_)
  · obtain ⟨x, hx, hle⟩ := h.to.get e1
    exact hle _ _ _ _ (h2 k x u hx e2)
  · obtain ⟨x, hx, hle⟩ := h'.to.get e1
    exact hle _ _ _ _ (h4 k x u hx e2)
theorem SLe.sl {s n : Nat} {f g : Nat → List SV} (h : ∀ k, k < n → SLeL (f k) (g k)) : SLe (.sl s n f) (.sl s n g) := by
  unfold SLe; simp only [SV.den]; exact AV.le.vsl (rows_le fun k hk => (h k hk).to)
theorem SLe.ref {s : Nat} {f : Nat → List SV} {cs ds : List SV} {j : Nat} (e : f 0 = cs) (h : SLeL cs ds) : SLe (.sptr s 1 f 0 j) (.sptr s 1 (fun _ => ds) 0 j) := by
  unfold SLe
  simp only [SV.den]
  exact AV.le.vptr (rows_le fun k hk => by
    have : k = 0 := by omega
    subst this
    rw [e]; exact h.to)
/-- The integers of a row. -/
def cI (f : Nat → List SV) (j : Nat) (k : Nat) : Int := asI ((f k).getD j .top)
def rowI (f : Nat → List SV) (k : Nat) : Nat → Nat → List SV
  | 0, _ => []
  | n + 1, j => SI (cI f j k) :: rowI f k n (j + 1)
/-- The rows hold integers. -/
def Row (n m : Nat) (f : Nat → List SV) : Prop := ∀ k, k < m → leRow le0 (f k) (rowI f k n 0)
theorem leRow_to {g : SV → SV → Prop} (hg : LeOK g) : ∀ (xs ys : List SV), leRow g xs ys → SLeL xs ys
  | [], [], _ => .nil
  | [x], [y], h => .cons (hg _ _ h) .nil
  | [x], y :: z :: ys, h => h.elim
  | x :: z :: xs, y :: ys, h => .cons (hg _ _ h.1) (leRow_to hg (z :: xs) ys h.2)
  | [], y :: ys, h => h.elim
  | x :: xs, [], h => by unfold leRow at h; exact h.elim
theorem SLe.row {n m : Nat} {f g : Nat → List SV} (h : Row n m f) (e : ∀ k, g k = rowI f k n 0) : SLe (.sl n m f) (.sl n m g) := .sl fun k hk => by rw [e]; exact leRow_to le0_ok _ _ (h k hk)
theorem Spec.args {P : Program} {f : FuncId} {xs ys : List SV} {Hs Hs' : List Blk} {r : AV} (hs : Spec P f (SV.denL ys) Hs r Hs') (h : SLeL xs ys) : Spec P f (SV.denL xs) Hs r Hs' := by
  refine ⟨hs.1, hs.2.1, fun ρ0 S w vs hm hr => hs.2.2 ρ0 S w vs hm ⟨by rw [hr.1, h.to.len], fun k c v e1 e2 => ?_⟩⟩
  obtain ⟨x, hx, hle⟩ := h.to.get e1
  exact hle _ _ _ _ (hr.2 k x v hx e2)
theorem Iter.args {P : Program} {g : FuncId} {xs ys : List SV} {n : Nat} {f : Nat → List SV} (hs : Iter P g ys n f) (h : SLeL xs ys) : Iter P g xs n f := by
  refine ⟨hs.1, hs.2.1, fun S0 W0 vs h0 hr => hs.2.2 S0 W0 vs h0 ⟨by rw [hr.1, h.to.len], fun k c v e1 e2 => ?_⟩⟩
  obtain ⟨x, hx, hle⟩ := h.to.get e1
  exact hle _ _ _ _ (hr.2 k x v hx e2)
/-- One entry or the other. -/
def altE (e e' : List SV → Option (List Prop × SV)) : List SV → Option (List Prop × SV) := fun xs => match e xs with
  | some r => some r
  | none => e' xs
theorem altE_ok {f : FuncId} {e e' : List SV → Option (List Prop × SV)} (h : PureOK PP f e) (h' : PureOK PP f e') : PureOK PP f (altE e e') := fun xs ps res hx hp => by
  unfold altE at hx
  split at hx
  · rename_i r hr; cases hx; exact h _ _ _ hr hp
  · exact h' _ _ _ hx hp

end Go.Proofs.Ytkklmkogdogbkaa.Sep
