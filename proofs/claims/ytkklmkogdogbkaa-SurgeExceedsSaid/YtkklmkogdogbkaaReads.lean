/-
  What arguments that read as data stand for: rows of pairs of integers. No condition. (This text proves no statement by itself.)
-/
import Derived.Test.YtkklmkogdogbkaaLaw
namespace Go.Proofs.Ytkklmkogdogbkaa.Sep
open Go Go.ChangeShapes Go.WideShapes Go.ChangeAt Go.RowKit
set_option linter.unusedVariables false
set_option linter.unusedSimpArgs false

theorem laidOut : laidOutB Try.prog = true := by kernel_rfl
theorem own : ownKnob Try.prog.godebug = none := by kernel_rfl
theorem wf_R64 {n : Int} (h : (Lit.int .i64 n).wf = true) : R64 n := by
  simp only [Lit.wf, Bool.and_eq_true, decide_eq_true_eq] at h
  have h1 : IntKind.i64.min = -9223372036854775808 := rfl
  have h2 : IntKind.i64.max = 9223372036854775807 := rfl
  unfold R64; omega
section
variable {H : Type} {enc : TypeId × Value → H} {P : Program} {W : World} {sp : Nat → Bool} {r : Reach}
theorem int_rel {t : TypeId} {b0 : Nat} {v : Value} {d : DataW H} {ps : List MemPlace} (ht : P.underlying t = some (.int .i64)) (hval : Value.okWide P W r b0 t v) (hd : DataW.Trod enc P W 0 sp true t v d ps) :
    ∃ n : Int, R64 n ∧ Rel (oldS W) W noNames (SI n).den v := by
  obtain ⟨n, rfl, -, -, hw⟩ := open_int ht hval hd
  exact ⟨n, wf_R64 hw, .lit _⟩
theorem pairs_rel {t e : TypeId} {f0 f1 : Field} {b0 : Nat} {v : Value} {d : DataW H} {ps : List MemPlace} (ht : P.underlying t = some (.slice e)) (he : P.underlying e = some (.struct #[f0, f1]))
    (ce : P.cellsOf e = 2) (o0 : f0.offset = 0) (o1 : f1.offset = 1) (c0 : P.cellsOf f0.type = 1) (c1 : P.cellsOf f1.type = 1) (t0 : P.underlying f0.type = some (.int .i64)) (t1 : P.underlying f1.type = some (.int .i64))
    (hval : Value.okWide P W r b0 t v) (hd : DataW.Trod enc P W 0 (fun _ => true) true t v d ps) :
    ∃ (n : Nat) (x y : Nat → Int), R64 n ∧ Rel (oldS W) W noNames (SV.sl 2 n (fun k => [SI (x k), SI (y k)])).den v := by
  obtain ⟨a, len, cap, rfl⟩ := okWide_slice ht hval
  obtain ⟨fuel, hf⟩ := hd
  have hcells : (Value.slice a len cap).cells.toList = [.slice a len cap] := rfl
  rw [hcells] at hf
  rcases Deep.open_slice_pairs ht he ce o0 o1 c0 c1 hf with ⟨h0, -⟩ | ⟨a', _, _, m, n, V0, V1, D0, D1, P0, P1, h0, -, hlc, hmax, hm, -, hall⟩
  · cases h0
    exact ⟨0, fun _ => 0, fun _ => 0, by unfold R64; omega, .vslNil⟩
  · cases h0
    have hm' : m = cap := by rw [hm]; simp
    have hi : ∀ k, k < len → ∃ q : Int × Int, V0 k = .int .i64 q.1 ∧ V1 k = .int .i64 q.2 := fun k hk => by
      obtain ⟨-, -, h3, h4⟩ := hall k (by omega)
      obtain ⟨n0, e0, -, -⟩ := DataW.trod_int t0 h3
      obtain ⟨n1, e1, -, -⟩ := DataW.trod_int t1 h4
      exact ⟨(n0, n1), by simpa using e0, by simpa using e1⟩
    obtain ⟨q, hq⟩ := Deep.choose_lt hi
    refine ⟨len, fun k => (q k).1, fun k => (q k).2, ?_, ?_⟩
    · unfold maxLen at hmax; unfold R64; omega
    · simp only [SV.den]
      by_cases hl : len = 0
      · subst hl; exact .vslNil
      · obtain ⟨g1, -, -, -⟩ := hall 0 (by omega)
        obtain ⟨b, off, s⟩ := a'
        have hs : s = none := by
          unfold World.cell? at g1
          split at g1
          · cases s with
            | none => rfl
            | some _ => simp [Addr.add] at g1
          · cases g1
        subst hs
        have hb : b < W.heap.size := by
          unfold World.cell? at g1
          split at g1
          · rename_i hc; exact (Array.getElem?_eq_some_iff.1 hc).1
          · cases g1
        have key := Rel.vsl (S := oldS W) (w := W) (ρ := noNames) (sz := 2) (b := b) (off := off) (cap := cap) (xs := (List.range len).map fun k => SV.denL [SI (q k).1, SI (q k).2])
          (fun k j => if j = 0 then V0 k else V1 k) (by simpa using hlc) hb (fun k cs h => by
            simp only [List.getElem?_map, Option.map_eq_some_iff] at h
            obtain ⟨i, -, rfl⟩ := h; rfl) (fun k j cs c h1 h2 => ?_) (fun k j cs c h1 h2 => ?_)
        · simpa using key
        · simp only [List.getElem?_map, Option.map_eq_some_iff] at h1
          obtain ⟨i, hi', rfl⟩ := h1
          have hk : k < len := by
            have := (List.getElem?_eq_some_iff.1 hi').1; simpa using this
          obtain ⟨g1, g2, -, -⟩ := hall k (by omega)
          match j, h2 with
          | 0, _ =>
            by_cases h0 : k = 0
            · subst h0; simpa [Addr.add] using g1
            · simpa [Addr.add, show ¬ k * 2 = 0 by omega] using g1
          | 1, _ => simpa [Addr.add, Nat.add_assoc] using g2
          | j + 2, h2 => simp [SV.denL] at h2
        · simp only [List.getElem?_map, Option.map_eq_some_iff] at h1
          obtain ⟨i, hi', rfl⟩ := h1
          have hk : k < len := by
            have := (List.getElem?_eq_some_iff.1 hi').1; simpa using this
          have hik : i = k := by
            rw [List.getElem?_range hk] at hi'
            exact (Option.some.inj hi').symm
          subst hik
          obtain ⟨e0, e1⟩ := hq i hk
          match j, h2 with
          | 0, h2 => simp [SV.denL] at h2; subst h2; simp only [if_true, e0]; exact .lit _
          | 1, h2 => simp [SV.denL] at h2; subst h2; simp only [e1]; exact .lit _
          | j + 2, h2 => simp [SV.denL] at h2
end
/-- The values of a call, one by one. -/
theorem relCs_nil {S : Nat → Prop} {w : World} {ρ : Names} : RelCs S w ρ [] #[] := ⟨rfl, fun k c v h => by simp at h⟩
theorem relCs_cons {S : Nat → Prop} {w : World} {ρ : Names} {a : AV} {xs : List AV} {v : Value} {vs : List Value} (h : Rel S w ρ a v) (hs : RelCs S w ρ xs vs.toArray) : RelCs S w ρ (a :: xs) (v :: vs).toArray := by
  refine ⟨by simpa using hs.1, fun k c u h1 h2 => ?_⟩
  cases k with
  | zero => simp at h1 h2; subst h1; subst h2; exact h
  | succ k => exact hs.2 k c u (by simpa using h1) (by simpa using h2)
end Go.Proofs.Ytkklmkogdogbkaa.Sep
