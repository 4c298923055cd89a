/-
  Contracts of small functions of the stage 'surge' and of its reference. No condition. (This text proves no statement by itself.)
-/
import Derived.Test.YtkklmkogdogbkaaBase
import Derived.Test.YtkklmkogdogbkaaMod2
namespace Go.Proofs.Ytkklmkogdogbkaa.Sep
open Go
set_option linter.unusedVariables false
set_option linter.unusedSimpArgs false
def e24 : List SV → Option (List Prop × SV)
  | [.int .i64 a] => some ([], .agg [SI a, SI a])
  | _ => none
theorem r24 (a : Int) : V true [] [] Try.f24 [0,2] [] [SI a] (.agg [SI a, SI a]) = (a = a ∧ a = a) := by kernel_rfl
theorem br24 (a : Int)  : a = a ∧ a = a := by
  simp
theorem s24 : PureOK PP 24 e24 := by
  intro xs ps res h hp
  unfold e24 at h
  split at h
  · rename_i a
    simp only [Option.some.injEq, Prod.mk.injEq] at h
    obtain ⟨rfl, rfl⟩ := h
    clear hp
    refine enter (L := [0,2]) (LO := []) (E := []) (O := []) (ck := true) (.nil) (.nil) (k := 24) (f := Try.f24) (xs := [SI a]) (r := (.agg [SI a, SI a])) (by kernel_rfl) (by kernel_rfl) (fun _ => .nil) ?_
    exact Hold.of (r24 a) (br24 a )
  · cases h
def e58 : List SV → Option (List Prop × SV)
  | [.int .i64 a, .int .i64 b] => some ([], .agg [SI a, SI b])
  | _ => none
theorem r58 (a b : Int) : V true [] [] Try.f58 [0,1,4] [] [SI a, SI b] (.agg [SI a, SI b]) = (a = a ∧ b = b) := by kernel_rfl
theorem br58 (a b : Int)  : a = a ∧ b = b := by
  simp
theorem s58 : PureOK PP 58 e58 := by
  intro xs ps res h hp
  unfold e58 at h
  split at h
  · rename_i a b
    simp only [Option.some.injEq, Prod.mk.injEq] at h
    obtain ⟨rfl, rfl⟩ := h
    clear hp
    refine enter (L := [0,1,4]) (LO := []) (E := []) (O := []) (ck := true) (.nil) (.nil) (k := 58) (f := Try.f58) (xs := [SI a, SI b]) (r := (.agg [SI a, SI b])) (by kernel_rfl) (by kernel_rfl) (fun _ => .nil) ?_
    exact Hold.of (r58 a b) (br58 a b )
  · cases h
def e59 : List SV → Option (List Prop × SV)
  | [.agg [.int .i64 a, .int .i64 b], .agg [.int .i64 c, .int .i64 d]] => some ([R64 (a - d), R64 (b - c)], .agg [SI (a - d), SI (b - c)])
  | _ => none
theorem r59 (a b c d : Int) : V true [] [(58, pureE e58)] Try.f59 [0,1,2,3,4] [] [.agg [SI a, SI b], .agg [SI c, SI d]] (.agg [SI (a - d), SI (b - c)]) = (R64 (a - d) ∧ R64 (b - c) ∧ a - d = a - d ∧ b - c = b - c) := by kernel_rfl
theorem br59 (a b c d : Int) (hp : (R64 (a - d)) ∧ (R64 (b - c)) ∧ AllP []) : R64 (a - d) ∧ R64 (b - c) ∧ a - d = a - d ∧ b - c = b - c := by
  simp [hp]
theorem s59 : PureOK PP 59 e59 := by
  intro xs ps res h hp
  unfold e59 at h
  split at h
  · rename_i a b c d
    simp only [Option.some.injEq, Prod.mk.injEq] at h
    obtain ⟨rfl, rfl⟩ := h
    simp only [AllP.cons] at hp
    refine enter (L := [0,1,2,3,4]) (LO := []) (E := []) (O := [(58, pureE e58)]) (ck := true) (.nil) (.cons (pureE_ok s58) (.nil)) (k := 59) (f := Try.f59) (xs := [.agg [SI a, SI b], .agg [SI c, SI d]]) (r := (.agg [SI (a - d), SI (b - c)])) (by kernel_rfl) (by kernel_rfl) (fun _ => .nil) ?_
    exact Hold.of (r59 a b c d) (br59 a b c d hp)
  · cases h
def e61 : List SV → Option (List Prop × SV)
  | [.agg [.int .i64 a, .int .i64 b]] => some ([R64 (-b)], SI (M.near a b))
  | _ => none
theorem r61 (a b : Int) : V true [] [] Try.f61 [0,1,2] [] [.agg [SI a, SI b]] (SI (M.near a b)) = (R64 (-b) ∧ max (max (0 : Int) a) (-b) = M.near a b) := by kernel_rfl
theorem br61 (a b : Int) (hp : (R64 (-b)) ∧ AllP []) : R64 (-b) ∧ max (max (0 : Int) a) (-b) = M.near a b := by
  simp [hp, M.near]
theorem s61 : PureOK PP 61 e61 := by
  intro xs ps res h hp
  unfold e61 at h
  split at h
  · rename_i a b
    simp only [Option.some.injEq, Prod.mk.injEq] at h
    obtain ⟨rfl, rfl⟩ := h
    simp only [AllP.cons] at hp
    refine enter (L := [0,1,2]) (LO := []) (E := []) (O := []) (ck := true) (.nil) (.nil) (k := 61) (f := Try.f61) (xs := [.agg [SI a, SI b]]) (r := (SI (M.near a b))) (by kernel_rfl) (by kernel_rfl) (fun _ => .nil) ?_
    exact Hold.of (r61 a b) (br61 a b hp)
  · cases h
def e74 : List SV → Option (List Prop × SV)
  | [.agg [.int .i64 a, .int .i64 b]] => some ([R64 (-b)], SI (M.near a b))
  | _ => none
theorem r74 (a b : Int) : V true [] [] Try.f74 [0,1,2] [] [.agg [SI a, SI b]] (SI (M.near a b)) = (R64 (-b) ∧ max (max (0 : Int) a) (-b) = M.near a b) := by kernel_rfl
theorem br74 (a b : Int) (hp : (R64 (-b)) ∧ AllP []) : R64 (-b) ∧ max (max (0 : Int) a) (-b) = M.near a b := by
  simp [hp, M.near]
theorem s74 : PureOK PP 74 e74 := by
  intro xs ps res h hp
  unfold e74 at h
  split at h
  · rename_i a b
    simp only [Option.some.injEq, Prod.mk.injEq] at h
    obtain ⟨rfl, rfl⟩ := h
    simp only [AllP.cons] at hp
    refine enter (L := [0,1,2]) (LO := []) (E := []) (O := []) (ck := true) (.nil) (.nil) (k := 74) (f := Try.f74) (xs := [.agg [SI a, SI b]]) (r := (SI (M.near a b))) (by kernel_rfl) (by kernel_rfl) (fun _ => .nil) ?_
    exact Hold.of (r74 a b) (br74 a b hp)
  · cases h
def e62 : List SV → Option (List Prop × SV)
  | [.agg [.int .i64 a, .int .i64 b]] => some ([R64 (-a)], SI (M.far a b))
  | _ => none
theorem r62 (a b : Int) : V true [] [] Try.f62 [0,1,2] [] [.agg [SI a, SI b]] (SI (M.far a b)) = (R64 (-a) ∧ max b (-a) = M.far a b) := by kernel_rfl
theorem br62 (a b : Int) (hp : (R64 (-a)) ∧ AllP []) : R64 (-a) ∧ max b (-a) = M.far a b := by
  simp [hp, M.far]
theorem s62 : PureOK PP 62 e62 := by
  intro xs ps res h hp
  unfold e62 at h
  split at h
  · rename_i a b
    simp only [Option.some.injEq, Prod.mk.injEq] at h
    obtain ⟨rfl, rfl⟩ := h
    simp only [AllP.cons] at hp
    refine enter (L := [0,1,2]) (LO := []) (E := []) (O := []) (ck := true) (.nil) (.nil) (k := 62) (f := Try.f62) (xs := [.agg [SI a, SI b]]) (r := (SI (M.far a b))) (by kernel_rfl) (by kernel_rfl) (fun _ => .nil) ?_
    exact Hold.of (r62 a b) (br62 a b hp)
  · cases h
def e75 : List SV → Option (List Prop × SV)
  | [.agg [.int .i64 a, .int .i64 b]] => some ([R64 (-a)], SI (M.far a b))
  | _ => none
theorem r75 (a b : Int) : V true [] [] Try.f75 [0,1,2] [] [.agg [SI a, SI b]] (SI (M.far a b)) = (R64 (-a) ∧ max b (-a) = M.far a b) := by kernel_rfl
theorem br75 (a b : Int) (hp : (R64 (-a)) ∧ AllP []) : R64 (-a) ∧ max b (-a) = M.far a b := by
  simp [hp, M.far]
theorem s75 : PureOK PP 75 e75 := by
  intro xs ps res h hp
  unfold e75 at h
  split at h
  · rename_i a b
    simp only [Option.some.injEq, Prod.mk.injEq] at h
    obtain ⟨rfl, rfl⟩ := h
    simp only [AllP.cons] at hp
    refine enter (L := [0,1,2]) (LO := []) (E := []) (O := []) (ck := true) (.nil) (.nil) (k := 75) (f := Try.f75) (xs := [.agg [SI a, SI b]]) (r := (SI (M.far a b))) (by kernel_rfl) (by kernel_rfl) (fun _ => .nil) ?_
    exact Hold.of (r75 a b) (br75 a b hp)
  · cases h
def e64 : List SV → Option (List Prop × SV)
  | [.int .i64 a, .int .i64 b] => some ([0 < b, R64 a, R64 b, R64 (b - 1 - a)], SI (a / b))
  | _ => none
theorem r64 (a b : Int) : V true [] [] Try.f64 [0,1,4,6] [] [SI a, SI b] (SI (a / b)) = ((decide (a < (0 : Int)) = true → R64 (b - (1 : Int)) ∧ R64 (b - (1 : Int) - a) ∧ b ≠ (0 : Int) ∧ R64 (Int.tdiv (b - (1 : Int) - a) b) ∧ R64 (-Int.tdiv (b - (1 : Int) - a) b) ∧ -Int.tdiv (b - (1 : Int) - a) b = a / b) ∧ (decide (a < (0 : Int)) = false → b ≠ (0 : Int) ∧ R64 (Int.tdiv a b) ∧ Int.tdiv a b = a / b)) := by kernel_rfl
theorem br64 (a b : Int) (hp : (0 < b) ∧ (R64 a) ∧ (R64 b) ∧ (R64 (b - 1 - a)) ∧ AllP []) : (decide (a < (0 : Int)) = true → R64 (b - (1 : Int)) ∧ R64 (b - (1 : Int) - a) ∧ b ≠ (0 : Int) ∧ R64 (Int.tdiv (b - (1 : Int) - a) b) ∧ R64 (-Int.tdiv (b - (1 : Int) - a) b) ∧ -Int.tdiv (b - (1 : Int) - a) b = a / b) ∧ (decide (a < (0 : Int)) = false → b ≠ (0 : Int) ∧ R64 (Int.tdiv a b) ∧ Int.tdiv a b = a / b) := by
  have hf := M.floor_eq (a := a) hp.1
  unfold M.floor at hf
  unfold R64 at hp ⊢
  refine ⟨fun ha => ?_, fun ha => ?_⟩ <;> simp only [decide_eq_true_eq, decide_eq_false_iff_not] at ha
  · have h1 : 0 ≤ (b - 1 - a).tdiv b := Int.tdiv_nonneg (by omega) (by omega)
    have h2 : (b - 1 - a).tdiv b ≤ b - 1 - a := Int.tdiv_le_self _ (by omega)
    rw [if_pos ha] at hf
    omega
  · have h1 : 0 ≤ a.tdiv b := Int.tdiv_nonneg (by omega) (by omega)
    have h2 : a.tdiv b ≤ a := Int.tdiv_le_self _ (by omega)
    rw [if_neg ha] at hf
    omega
theorem s64 : PureOK PP 64 e64 := by
  intro xs ps res h hp
  unfold e64 at h
  split at h
  · rename_i a b
    simp only [Option.some.injEq, Prod.mk.injEq] at h
    obtain ⟨rfl, rfl⟩ := h
    simp only [AllP.cons] at hp
    refine enter (L := [0,1,4,6]) (LO := []) (E := []) (O := []) (ck := true) (.nil) (.nil) (k := 64) (f := Try.f64) (xs := [SI a, SI b]) (r := (SI (a / b))) (by kernel_rfl) (by kernel_rfl) (fun _ => .nil) ?_
    exact Hold.of (r64 a b) (br64 a b hp)
  · cases h
def e65 : List SV → Option (List Prop × SV)
  | [.int .i64 a, .int .i64 b] => some ([0 < b, R64 (-a), R64 b, R64 (b - 1 + a), R64 (-(-a / b))], SI (-(-a / b)))
  | _ => none
theorem r65 (a b : Int) : V true [] [(64, pureE e64)] Try.f65 [0,1,4] [] [SI a, SI b] (SI (-(-a / b))) = (R64 (-a) ∧ (0 : Int) < b ∧ R64 (-a) ∧ R64 b ∧ R64 (b - (1 : Int) - -a) ∧ R64 (-(-a / b)) ∧ -(-a / b) = -(-a / b)) := by kernel_rfl
theorem br65 (a b : Int) (hp : (0 < b) ∧ (R64 (-a)) ∧ (R64 b) ∧ (R64 (b - 1 + a)) ∧ (R64 (-(-a / b))) ∧ AllP []) : R64 (-a) ∧ (0 : Int) < b ∧ R64 (-a) ∧ R64 b ∧ R64 (b - (1 : Int) - -a) ∧ R64 (-(-a / b)) ∧ -(-a / b) = -(-a / b) := by
  refine ⟨by simp [hp], by simp [hp], by simp [hp], by simp [hp], ?_, by simp [hp], rfl⟩
  have := hp.2.2.2.1
  rw [show b - 1 - -a = b - 1 + a by omega]
  exact this
theorem s65 : PureOK PP 65 e65 := by
  intro xs ps res h hp
  unfold e65 at h
  split at h
  · rename_i a b
    simp only [Option.some.injEq, Prod.mk.injEq] at h
    obtain ⟨rfl, rfl⟩ := h
    simp only [AllP.cons] at hp
    refine enter (L := [0,1,4]) (LO := []) (E := []) (O := [(64, pureE e64)]) (ck := true) (.nil) (.cons (pureE_ok s64) (.nil)) (k := 65) (f := Try.f65) (xs := [SI a, SI b]) (r := (SI (-(-a / b)))) (by kernel_rfl) (by kernel_rfl) (fun _ => .nil) ?_
    exact Hold.of (r65 a b) (br65 a b hp)
  · cases h
def e104 : List SV → Option (List Prop × SV)
  | [.int .i64 a, .int .i64 b] => some ([0 < b, M.Sm a, R64 b], SI (a / b))
  | _ => none
theorem r104 (a b : Int) : V true [] [] Try.f104 [0,1,4,5,13] [] [SI a, SI b] (SI (a / b)) = (b ≠ (0 : Int) ∧ R64 (Int.tdiv a b) ∧ R64 (Int.tdiv a b * b) ∧ (decide (a < Int.tdiv a b * b) = true → R64 (Int.tdiv a b - (1 : Int)) ∧ Int.tdiv a b - (1 : Int) = a / b) ∧ (decide (a < Int.tdiv a b * b) = false → Int.tdiv a b = a / b)) := by kernel_rfl
theorem br104 (a b : Int) (hp : (0 < b) ∧ (M.Sm a) ∧ (R64 b) ∧ AllP []) : b ≠ (0 : Int) ∧ R64 (Int.tdiv a b) ∧ R64 (Int.tdiv a b * b) ∧ (decide (a < Int.tdiv a b * b) = true → R64 (Int.tdiv a b - (1 : Int)) ∧ Int.tdiv a b - (1 : Int) = a / b) ∧ (decide (a < Int.tdiv a b * b) = false → Int.tdiv a b = a / b) := by
  have hf := M.down_eq (a := a) hp.1
  have h1 := M.tdiv_mul_abs (m := 100000000000000000) hp.1 hp.2.1.1 hp.2.1.2
  unfold R64
  refine ⟨by omega, by omega, by omega, fun ha => ?_, fun ha => ?_⟩ <;> simp only [decide_eq_true_eq, decide_eq_false_iff_not] at ha
  · rw [if_pos ha] at hf; omega
  · rw [if_neg ha] at hf; omega
theorem s104 : PureOK PP 104 e104 := by
  intro xs ps res h hp
  unfold e104 at h
  split at h
  · rename_i a b
    simp only [Option.some.injEq, Prod.mk.injEq] at h
    obtain ⟨rfl, rfl⟩ := h
    simp only [AllP.cons] at hp
    refine enter (L := [0,1,4,5,13]) (LO := []) (E := []) (O := []) (ck := true) (.nil) (.nil) (k := 104) (f := Try.f104) (xs := [SI a, SI b]) (r := (SI (a / b))) (by kernel_rfl) (by kernel_rfl) (fun _ => .nil) ?_
    exact Hold.of (r104 a b) (br104 a b hp)
  · cases h
def e105 : List SV → Option (List Prop × SV)
  | [.int .i64 a, .int .i64 b] => some ([0 < b, M.Sm a, R64 b], SI (-(-a / b)))
  | _ => none
theorem r105 (a b : Int) : V true [] [(104, pureE e104)] Try.f105 [0,1,4] [] [SI a, SI b] (SI (-(-a / b))) = (R64 (-a) ∧ (0 : Int) < b ∧ M.Sm (-a) ∧ R64 b ∧ R64 (-(-a / b)) ∧ -(-a / b) = -(-a / b)) := by kernel_rfl
theorem br105 (a b : Int) (hp : (0 < b) ∧ (M.Sm a) ∧ (R64 b) ∧ AllP []) : R64 (-a) ∧ (0 : Int) < b ∧ M.Sm (-a) ∧ R64 b ∧ R64 (-(-a / b)) ∧ -(-a / b) = -(-a / b) := by
  have h1 := M.ediv_abs (a := -a) (m := 100000000000000000) hp.1 (by have := hp.2.1; unfold M.Sm at this; omega) (by have := hp.2.1; unfold M.Sm at this; omega)
  have h2 := hp.2.1
  unfold M.Sm at h2 ⊢
  unfold R64 at hp ⊢
  refine ⟨by omega, hp.1, by omega, by omega, by omega, rfl⟩
theorem s105 : PureOK PP 105 e105 := by
  intro xs ps res h hp
  unfold e105 at h
  split at h
  · rename_i a b
    simp only [Option.some.injEq, Prod.mk.injEq] at h
    obtain ⟨rfl, rfl⟩ := h
    simp only [AllP.cons] at hp
    refine enter (L := [0,1,4]) (LO := []) (E := []) (O := [(104, pureE e104)]) (ck := true) (.nil) (.cons (pureE_ok s104) (.nil)) (k := 105) (f := Try.f105) (xs := [SI a, SI b]) (r := (SI (-(-a / b)))) (by kernel_rfl) (by kernel_rfl) (fun _ => .nil) ?_
    exact Hold.of (r105 a b) (br105 a b hp)
  · cases h
def e69 : List SV → Option (List Prop × SV)
  | [.agg [.int .i64 a, .int .i64 b], .int .i64 lo, .int .i64 hi] => some ([], .bool (M.within a b lo hi))
  | _ => none
theorem r69 (a b lo hi : Int) : V true [] [] Try.f69 [0,1,2,3,6] [] [.agg [SI a, SI b], SI lo, SI hi] (.bool (M.within a b lo hi)) = ((decide (a ≤ b) = true → decide (a ≤ b) = true) ∧ (decide (a ≤ b) = true → decide (a ≤ b) = true) ∧ (decide (a ≤ b) = true → decide (a ≤ b) = true) ∧ (decide (a ≤ b) = true → decide (a ≤ b) = true) ∧ (decide (a ≤ b) = true → decide (a ≤ b) = true) ∧ ((bif decide (a ≤ b) then decide (lo ≤ a) else false) = true → (bif decide (a ≤ b) then decide (lo ≤ a) else false) = true) ∧ ((bif decide (a ≤ b) then decide (lo ≤ a) else false) = true → (bif decide (a ≤ b) then decide (lo ≤ a) else false) = true) ∧ ((bif decide (a ≤ b) then decide (lo ≤ a) else false) = true → (bif decide (a ≤ b) then decide (lo ≤ a) else false) = true) ∧ ((bif decide (a ≤ b) then decide (lo ≤ a) else false) = true → (bif decide (a ≤ b) then decide (lo ≤ a) else false) = true) ∧ ((bif decide (a ≤ b) then decide (lo ≤ a) else false) = true → (bif decide (a ≤ b) then decide (lo ≤ a) else false) = true) ∧ (bif bif decide (a ≤ b) then decide (lo ≤ a) else false then decide (b ≤ hi) else false) = M.within a b lo hi) := by kernel_rfl
theorem br69 (a b lo hi : Int)  : (decide (a ≤ b) = true → decide (a ≤ b) = true) ∧ (decide (a ≤ b) = true → decide (a ≤ b) = true) ∧ (decide (a ≤ b) = true → decide (a ≤ b) = true) ∧ (decide (a ≤ b) = true → decide (a ≤ b) = true) ∧ (decide (a ≤ b) = true → decide (a ≤ b) = true) ∧ ((bif decide (a ≤ b) then decide (lo ≤ a) else false) = true → (bif decide (a ≤ b) then decide (lo ≤ a) else false) = true) ∧ ((bif decide (a ≤ b) then decide (lo ≤ a) else false) = true → (bif decide (a ≤ b) then decide (lo ≤ a) else false) = true) ∧ ((bif decide (a ≤ b) then decide (lo ≤ a) else false) = true → (bif decide (a ≤ b) then decide (lo ≤ a) else false) = true) ∧ ((bif decide (a ≤ b) then decide (lo ≤ a) else false) = true → (bif decide (a ≤ b) then decide (lo ≤ a) else false) = true) ∧ ((bif decide (a ≤ b) then decide (lo ≤ a) else false) = true → (bif decide (a ≤ b) then decide (lo ≤ a) else false) = true) ∧ (bif bif decide (a ≤ b) then decide (lo ≤ a) else false then decide (b ≤ hi) else false) = M.within a b lo hi := by
  unfold M.within
  grind
theorem s69 : PureOK PP 69 e69 := by
  intro xs ps res h hp
  unfold e69 at h
  split at h
  · rename_i a b lo hi
    simp only [Option.some.injEq, Prod.mk.injEq] at h
    obtain ⟨rfl, rfl⟩ := h
    clear hp
    refine enter (L := [0,1,2,3,6]) (LO := []) (E := []) (O := []) (ck := true) (.nil) (.nil) (k := 69) (f := Try.f69) (xs := [.agg [SI a, SI b], SI lo, SI hi]) (r := (.bool (M.within a b lo hi))) (by kernel_rfl) (by kernel_rfl) (fun _ => .nil) ?_
    exact Hold.of (r69 a b lo hi) (br69 a b lo hi )
  · cases h
def e71 : List SV → Option (List Prop × SV)
  | [.agg [.int .i64 a, .int .i64 b], .int .i64 lo, .int .i64 hi] => some ([], .bool (M.within a b lo hi))
  | _ => none
theorem r71 (a b lo hi : Int) : V true [] [] Try.f71 [0,1,2,3,6] [] [.agg [SI a, SI b], SI lo, SI hi] (.bool (M.within a b lo hi)) = ((decide (a ≤ b) = true → decide (a ≤ b) = true) ∧ (decide (a ≤ b) = true → decide (a ≤ b) = true) ∧ (decide (a ≤ b) = true → decide (a ≤ b) = true) ∧ (decide (a ≤ b) = true → decide (a ≤ b) = true) ∧ ((bif decide (a ≤ b) then decide (lo ≤ a) else false) = true → (bif decide (a ≤ b) then decide (lo ≤ a) else false) = true) ∧ ((bif decide (a ≤ b) then decide (lo ≤ a) else false) = true → (bif decide (a ≤ b) then decide (lo ≤ a) else false) = true) ∧ ((bif decide (a ≤ b) then decide (lo ≤ a) else false) = true → (bif decide (a ≤ b) then decide (lo ≤ a) else false) = true) ∧ ((bif decide (a ≤ b) then decide (lo ≤ a) else false) = true → (bif decide (a ≤ b) then decide (lo ≤ a) else false) = true) ∧ (bif bif decide (a ≤ b) then decide (lo ≤ a) else false then decide (b ≤ hi) else false) = M.within a b lo hi) := by kernel_rfl
theorem br71 (a b lo hi : Int)  : (decide (a ≤ b) = true → decide (a ≤ b) = true) ∧ (decide (a ≤ b) = true → decide (a ≤ b) = true) ∧ (decide (a ≤ b) = true → decide (a ≤ b) = true) ∧ (decide (a ≤ b) = true → decide (a ≤ b) = true) ∧ ((bif decide (a ≤ b) then decide (lo ≤ a) else false) = true → (bif decide (a ≤ b) then decide (lo ≤ a) else false) = true) ∧ ((bif decide (a ≤ b) then decide (lo ≤ a) else false) = true → (bif decide (a ≤ b) then decide (lo ≤ a) else false) = true) ∧ ((bif decide (a ≤ b) then decide (lo ≤ a) else false) = true → (bif decide (a ≤ b) then decide (lo ≤ a) else false) = true) ∧ ((bif decide (a ≤ b) then decide (lo ≤ a) else false) = true → (bif decide (a ≤ b) then decide (lo ≤ a) else false) = true) ∧ (bif bif decide (a ≤ b) then decide (lo ≤ a) else false then decide (b ≤ hi) else false) = M.within a b lo hi := by
  unfold M.within
  grind
theorem s71 : PureOK PP 71 e71 := by
  intro xs ps res h hp
  unfold e71 at h
  split at h
  · rename_i a b lo hi
    simp only [Option.some.injEq, Prod.mk.injEq] at h
    obtain ⟨rfl, rfl⟩ := h
    clear hp
    refine enter (L := [0,1,2,3,6]) (LO := []) (E := []) (O := []) (ck := true) (.nil) (.nil) (k := 71) (f := Try.f71) (xs := [.agg [SI a, SI b], SI lo, SI hi]) (r := (.bool (M.within a b lo hi))) (by kernel_rfl) (by kernel_rfl) (fun _ => .nil) ?_
    exact Hold.of (r71 a b lo hi) (br71 a b lo hi )
  · cases h
def e19 : List SV → Option (List Prop × SV)
  | [.agg [.int .i64 a, .int .i64 b], .agg [.int .i64 c, .int .i64 d]] => some ([], .bool (M.within a b c d))
  | _ => none
theorem r19 (a b c d : Int) : V true [] [] Try.f19 [0,1,2,3,4] [] [.agg [SI a, SI b], .agg [SI c, SI d]] (.bool (M.within a b c d)) = ((decide (a ≤ b) = true → decide (a ≤ b) = true) ∧ (decide (a ≤ b) = true → decide (a ≤ b) = true) ∧ (decide (a ≤ b) = true → decide (a ≤ b) = true) ∧ (decide (a ≤ b) = true → decide (a ≤ b) = true) ∧ (decide (a ≤ b) = true → decide (a ≤ b) = true) ∧ ((bif decide (a ≤ b) then decide (c ≤ a) else false) = true → (bif decide (a ≤ b) then decide (c ≤ a) else false) = true) ∧ ((bif decide (a ≤ b) then decide (c ≤ a) else false) = true → (bif decide (a ≤ b) then decide (c ≤ a) else false) = true) ∧ ((bif decide (a ≤ b) then decide (c ≤ a) else false) = true → (bif decide (a ≤ b) then decide (c ≤ a) else false) = true) ∧ ((bif decide (a ≤ b) then decide (c ≤ a) else false) = true → (bif decide (a ≤ b) then decide (c ≤ a) else false) = true) ∧ ((bif decide (a ≤ b) then decide (c ≤ a) else false) = true → (bif decide (a ≤ b) then decide (c ≤ a) else false) = true) ∧ (bif bif decide (a ≤ b) then decide (c ≤ a) else false then decide (b ≤ d) else false) = M.within a b c d) := by kernel_rfl
theorem br19 (a b c d : Int)  : (decide (a ≤ b) = true → decide (a ≤ b) = true) ∧ (decide (a ≤ b) = true → decide (a ≤ b) = true) ∧ (decide (a ≤ b) = true → decide (a ≤ b) = true) ∧ (decide (a ≤ b) = true → decide (a ≤ b) = true) ∧ (decide (a ≤ b) = true → decide (a ≤ b) = true) ∧ ((bif decide (a ≤ b) then decide (c ≤ a) else false) = true → (bif decide (a ≤ b) then decide (c ≤ a) else false) = true) ∧ ((bif decide (a ≤ b) then decide (c ≤ a) else false) = true → (bif decide (a ≤ b) then decide (c ≤ a) else false) = true) ∧ ((bif decide (a ≤ b) then decide (c ≤ a) else false) = true → (bif decide (a ≤ b) then decide (c ≤ a) else false) = true) ∧ ((bif decide (a ≤ b) then decide (c ≤ a) else false) = true → (bif decide (a ≤ b) then decide (c ≤ a) else false) = true) ∧ ((bif decide (a ≤ b) then decide (c ≤ a) else false) = true → (bif decide (a ≤ b) then decide (c ≤ a) else false) = true) ∧ (bif bif decide (a ≤ b) then decide (c ≤ a) else false then decide (b ≤ d) else false) = M.within a b c d := by
  unfold M.within
  grind
theorem s19 : PureOK PP 19 e19 := by
  intro xs ps res h hp
  unfold e19 at h
  split at h
  · rename_i a b c d
    simp only [Option.some.injEq, Prod.mk.injEq] at h
    obtain ⟨rfl, rfl⟩ := h
    clear hp
    refine enter (L := [0,1,2,3,4]) (LO := []) (E := []) (O := []) (ck := true) (.nil) (.nil) (k := 19) (f := Try.f19) (xs := [.agg [SI a, SI b], .agg [SI c, SI d]]) (r := (.bool (M.within a b c d))) (by kernel_rfl) (by kernel_rfl) (fun _ => .nil) ?_
    exact Hold.of (r19 a b c d) (br19 a b c d )
  · cases h
def e72 : List SV → Option (List Prop × SV)
  | [.int .i64 n, .int .i64 lo, .int .i64 hi] => some ([], .bool (decide (lo ≤ n) && decide (n ≤ hi)))
  | _ => none
theorem r72 (n lo hi : Int) : V true [] [] Try.f72 [0,1,2,6] [] [SI n, SI lo, SI hi] (.bool (decide (lo ≤ n) && decide (n ≤ hi))) = ((decide (lo ≤ n) = true → decide (lo ≤ n) = true) ∧ (decide (lo ≤ n) = true → decide (lo ≤ n) = true) ∧ (decide (lo ≤ n) = true → decide (lo ≤ n) = true) ∧ (bif decide (lo ≤ n) then decide (n ≤ hi) else false) = (decide (lo ≤ n) && decide (n ≤ hi))) := by kernel_rfl
theorem br72 (n lo hi : Int)  : (decide (lo ≤ n) = true → decide (lo ≤ n) = true) ∧ (decide (lo ≤ n) = true → decide (lo ≤ n) = true) ∧ (decide (lo ≤ n) = true → decide (lo ≤ n) = true) ∧ (bif decide (lo ≤ n) then decide (n ≤ hi) else false) = (decide (lo ≤ n) && decide (n ≤ hi)) := by
  grind
theorem s72 : PureOK PP 72 e72 := by
  intro xs ps res h hp
  unfold e72 at h
  split at h
  · rename_i n lo hi
    simp only [Option.some.injEq, Prod.mk.injEq] at h
    obtain ⟨rfl, rfl⟩ := h
    clear hp
    refine enter (L := [0,1,2,6]) (LO := []) (E := []) (O := []) (ck := true) (.nil) (.nil) (k := 72) (f := Try.f72) (xs := [SI n, SI lo, SI hi]) (r := (.bool (decide (lo ≤ n) && decide (n ≤ hi)))) (by kernel_rfl) (by kernel_rfl) (fun _ => .nil) ?_
    exact Hold.of (r72 n lo hi) (br72 n lo hi )
  · cases h
def e93 : List SV → Option (List Prop × SV)
  | [.int .i64 n, .int .i64 lo, .int .i64 hi] => some ([], .bool (decide (lo ≤ n) && decide (n ≤ hi)))
  | _ => none
theorem r93 (n lo hi : Int) : V true [] [] Try.f93 [0,1,2,6] [] [SI n, SI lo, SI hi] (.bool (decide (lo ≤ n) && decide (n ≤ hi))) = ((decide (lo ≤ n) = true → decide (lo ≤ n) = true) ∧ (decide (lo ≤ n) = true → decide (lo ≤ n) = true) ∧ (decide (lo ≤ n) = true → decide (lo ≤ n) = true) ∧ (bif decide (lo ≤ n) then decide (n ≤ hi) else false) = (decide (lo ≤ n) && decide (n ≤ hi))) := by kernel_rfl
theorem br93 (n lo hi : Int)  : (decide (lo ≤ n) = true → decide (lo ≤ n) = true) ∧ (decide (lo ≤ n) = true → decide (lo ≤ n) = true) ∧ (decide (lo ≤ n) = true → decide (lo ≤ n) = true) ∧ (bif decide (lo ≤ n) then decide (n ≤ hi) else false) = (decide (lo ≤ n) && decide (n ≤ hi)) := by
  grind
theorem s93 : PureOK PP 93 e93 := by
  intro xs ps res h hp
  unfold e93 at h
  split at h
  · rename_i n lo hi
    simp only [Option.some.injEq, Prod.mk.injEq] at h
    obtain ⟨rfl, rfl⟩ := h
    clear hp
    refine enter (L := [0,1,2,6]) (LO := []) (E := []) (O := []) (ck := true) (.nil) (.nil) (k := 93) (f := Try.f93) (xs := [SI n, SI lo, SI hi]) (r := (.bool (decide (lo ≤ n) && decide (n ≤ hi)))) (by kernel_rfl) (by kernel_rfl) (fun _ => .nil) ?_
    exact Hold.of (r93 n lo hi) (br93 n lo hi )
  · cases h
def e101 : List SV → Option (List Prop × SV)
  | [.int .i64 n, .int .i64 lo, .int .i64 hi] => some ([], .bool (decide (lo ≤ n) && decide (n ≤ hi)))
  | _ => none
theorem r101 (n lo hi : Int) : V true [] [] Try.f101 [0,1,2,6] [] [SI n, SI lo, SI hi] (.bool (decide (lo ≤ n) && decide (n ≤ hi))) = ((decide (lo ≤ n) = true → decide (lo ≤ n) = true) ∧ (decide (lo ≤ n) = true → decide (lo ≤ n) = true) ∧ (decide (lo ≤ n) = true → decide (lo ≤ n) = true) ∧ (bif decide (lo ≤ n) then decide (n ≤ hi) else false) = (decide (lo ≤ n) && decide (n ≤ hi))) := by kernel_rfl
theorem br101 (n lo hi : Int)  : (decide (lo ≤ n) = true → decide (lo ≤ n) = true) ∧ (decide (lo ≤ n) = true → decide (lo ≤ n) = true) ∧ (decide (lo ≤ n) = true → decide (lo ≤ n) = true) ∧ (bif decide (lo ≤ n) then decide (n ≤ hi) else false) = (decide (lo ≤ n) && decide (n ≤ hi)) := by
  grind
theorem s101 : PureOK PP 101 e101 := by
  intro xs ps res h hp
  unfold e101 at h
  split at h
  · rename_i n lo hi
    simp only [Option.some.injEq, Prod.mk.injEq] at h
    obtain ⟨rfl, rfl⟩ := h
    clear hp
    refine enter (L := [0,1,2,6]) (LO := []) (E := []) (O := []) (ck := true) (.nil) (.nil) (k := 101) (f := Try.f101) (xs := [SI n, SI lo, SI hi]) (r := (.bool (decide (lo ≤ n) && decide (n ≤ hi)))) (by kernel_rfl) (by kernel_rfl) (fun _ => .nil) ?_
    exact Hold.of (r101 n lo hi) (br101 n lo hi )
  · cases h
def e96 : List SV → Option (List Prop × SV)
  | [.agg [.int .i64 a, .int .i64 b], .int .i64 m] => some ([R64 (-m)], .bool (M.within a b (-m) m))
  | _ => none
theorem r96 (a b m : Int) : V true [] [] Try.f96 [0,1,2,4] [] [.agg [SI a, SI b], SI m] (.bool (M.within a b (-m) m)) = ((decide (a ≤ b) = true → decide (a ≤ b) = true) ∧ (decide (a ≤ b) = true → decide (a ≤ b) = true) ∧ (decide (a ≤ b) = true → R64 (-m)) ∧ (decide (a ≤ b) = true → decide (a ≤ b) = true) ∧ (decide (a ≤ b) = true → decide (a ≤ b) = true) ∧ (decide (a ≤ b) = true → decide (a ≤ b) = true) ∧ ((bif decide (a ≤ b) then decide (-m ≤ a) else false) = true → (bif decide (a ≤ b) then decide (-m ≤ a) else false) = true) ∧ ((bif decide (a ≤ b) then decide (-m ≤ a) else false) = true → (bif decide (a ≤ b) then decide (-m ≤ a) else false) = true) ∧ ((bif decide (a ≤ b) then decide (-m ≤ a) else false) = true → (bif decide (a ≤ b) then decide (-m ≤ a) else false) = true) ∧ ((bif decide (a ≤ b) then decide (-m ≤ a) else false) = true → (bif decide (a ≤ b) then decide (-m ≤ a) else false) = true) ∧ (bif bif decide (a ≤ b) then decide (-m ≤ a) else false then decide (b ≤ m) else false) = M.within a b (-m) m) := by kernel_rfl
theorem br96 (a b m : Int) (hp : (R64 (-m)) ∧ AllP []) : (decide (a ≤ b) = true → decide (a ≤ b) = true) ∧ (decide (a ≤ b) = true → decide (a ≤ b) = true) ∧ (decide (a ≤ b) = true → R64 (-m)) ∧ (decide (a ≤ b) = true → decide (a ≤ b) = true) ∧ (decide (a ≤ b) = true → decide (a ≤ b) = true) ∧ (decide (a ≤ b) = true → decide (a ≤ b) = true) ∧ ((bif decide (a ≤ b) then decide (-m ≤ a) else false) = true → (bif decide (a ≤ b) then decide (-m ≤ a) else false) = true) ∧ ((bif decide (a ≤ b) then decide (-m ≤ a) else false) = true → (bif decide (a ≤ b) then decide (-m ≤ a) else false) = true) ∧ ((bif decide (a ≤ b) then decide (-m ≤ a) else false) = true → (bif decide (a ≤ b) then decide (-m ≤ a) else false) = true) ∧ ((bif decide (a ≤ b) then decide (-m ≤ a) else false) = true → (bif decide (a ≤ b) then decide (-m ≤ a) else false) = true) ∧ (bif bif decide (a ≤ b) then decide (-m ≤ a) else false then decide (b ≤ m) else false) = M.within a b (-m) m := by
  unfold M.within
  grind
theorem s96 : PureOK PP 96 e96 := by
  intro xs ps res h hp
  unfold e96 at h
  split at h
  · rename_i a b m
    simp only [Option.some.injEq, Prod.mk.injEq] at h
    obtain ⟨rfl, rfl⟩ := h
    simp only [AllP.cons] at hp
    refine enter (L := [0,1,2,4]) (LO := []) (E := []) (O := []) (ck := true) (.nil) (.nil) (k := 96) (f := Try.f96) (xs := [.agg [SI a, SI b], SI m]) (r := (.bool (M.within a b (-m) m))) (by kernel_rfl) (by kernel_rfl) (fun _ => .nil) ?_
    exact Hold.of (r96 a b m) (br96 a b m hp)
  · cases h
def e95 : List SV → Option (List Prop × SV)
  | [.agg [.int .i64 a, .int .i64 b]] => some ([], .bool (!M.within a b (-1200000) 1200000))
  | _ => none
theorem r95 (a b : Int) : V true [] [(96, pureE e96)] Try.f95 [0,1,2] [] [.agg [SI a, SI b]] (.bool (!M.within a b (-1200000) 1200000)) = (R64 (-1200000 : Int) ∧ (!M.within a b (-1200000 : Int) (1200000 : Int)) = !M.within a b (-1200000 : Int) (1200000 : Int)) := by kernel_rfl
theorem br95 (a b : Int)  : R64 (-1200000 : Int) ∧ (!M.within a b (-1200000 : Int) (1200000 : Int)) = !M.within a b (-1200000 : Int) (1200000 : Int) := by
  unfold R64
  grind
theorem s95 : PureOK PP 95 e95 := by
  intro xs ps res h hp
  unfold e95 at h
  split at h
  · rename_i a b
    simp only [Option.some.injEq, Prod.mk.injEq] at h
    obtain ⟨rfl, rfl⟩ := h
    clear hp
    refine enter (L := [0,1,2]) (LO := []) (E := []) (O := [(96, pureE e96)]) (ck := true) (.nil) (.cons (pureE_ok s96) (.nil)) (k := 95) (f := Try.f95) (xs := [.agg [SI a, SI b]]) (r := (.bool (!M.within a b (-1200000) 1200000))) (by kernel_rfl) (by kernel_rfl) (fun _ => .nil) ?_
    exact Hold.of (r95 a b) (br95 a b )
  · cases h
def e63 : List SV → Option (List Prop × SV)
  | [.agg [.int .i64 x0, .int .i64 x1, .int .i64 y0, .int .i64 y1, .int .i64 r, .int .i64 m0, .int .i64 m1, .int .i64 l0, .int .i64 l1], .int .i64 d] => some ([], .tup [SI (min d r), SI (max d r)])
  | _ => none
theorem r63 (x0 x1 y0 y1 r m0 m1 l0 l1 d : Int) : V true [] [] Try.f63 [0,1,2,4,5] [] [.agg [SI x0, SI x1, SI y0, SI y1, SI r, SI m0, SI m1, SI l0, SI l1], SI d] (.tup [SI (min d r), SI (max d r)]) = (min d r = min d r ∧ max d r = max d r) := by kernel_rfl
theorem br63 (x0 x1 y0 y1 r m0 m1 l0 l1 d : Int)  : min d r = min d r ∧ max d r = max d r := by
  simp
theorem s63 : PureOK PP 63 e63 := by
  intro xs ps res h hp
  unfold e63 at h
  split at h
  · rename_i x0 x1 y0 y1 r m0 m1 l0 l1 d
    simp only [Option.some.injEq, Prod.mk.injEq] at h
    obtain ⟨rfl, rfl⟩ := h
    clear hp
    refine enter (L := [0,1,2,4,5]) (LO := []) (E := []) (O := []) (ck := true) (.nil) (.nil) (k := 63) (f := Try.f63) (xs := [.agg [SI x0, SI x1, SI y0, SI y1, SI r, SI m0, SI m1, SI l0, SI l1], SI d]) (r := (.tup [SI (min d r), SI (max d r)])) (by kernel_rfl) (by kernel_rfl) (fun _ => .nil) ?_
    exact Hold.of (r63 x0 x1 y0 y1 r m0 m1 l0 l1 d) (br63 x0 x1 y0 y1 r m0 m1 l0 l1 d )
  · cases h
def e68 : List SV → Option (List Prop × SV)
  | [.agg [.int .i64 a, .int .i64 b]] => some ([R64 (-b), R64 (-a)], .agg [SI (-b), SI (-a)])
  | _ => none
theorem r68 (a b : Int) : V true [] [(58, pureE e58)] Try.f68 [0,1,2] [] [.agg [SI a, SI b]] (.agg [SI (-b), SI (-a)]) = (R64 (-b) ∧ R64 (-a) ∧ -b = -b ∧ -a = -a) := by kernel_rfl
theorem br68 (a b : Int) (hp : (R64 (-b)) ∧ (R64 (-a)) ∧ AllP []) : R64 (-b) ∧ R64 (-a) ∧ -b = -b ∧ -a = -a := by
  simp [hp]
theorem s68 : PureOK PP 68 e68 := by
  intro xs ps res h hp
  unfold e68 at h
  split at h
  · rename_i a b
    simp only [Option.some.injEq, Prod.mk.injEq] at h
    obtain ⟨rfl, rfl⟩ := h
    simp only [AllP.cons] at hp
    refine enter (L := [0,1,2]) (LO := []) (E := []) (O := [(58, pureE e58)]) (ck := true) (.nil) (.cons (pureE_ok s58) (.nil)) (k := 68) (f := Try.f68) (xs := [.agg [SI a, SI b]]) (r := (.agg [SI (-b), SI (-a)])) (by kernel_rfl) (by kernel_rfl) (fun _ => .nil) ?_
    exact Hold.of (r68 a b) (br68 a b hp)
  · cases h
def e78 : List SV → Option (List Prop × SV)
  | [.agg [.int .i64 a, .int .i64 b]] => some ([R64 (-b), R64 (-a)], .agg [SI (-b), SI (-a)])
  | _ => none
theorem r78 (a b : Int) : V true [] [] Try.f78 [0,1,2] [] [.agg [SI a, SI b]] (.agg [SI (-b), SI (-a)]) = (R64 (-b) ∧ R64 (-a) ∧ -b = -b ∧ -a = -a) := by kernel_rfl
theorem br78 (a b : Int) (hp : (R64 (-b)) ∧ (R64 (-a)) ∧ AllP []) : R64 (-b) ∧ R64 (-a) ∧ -b = -b ∧ -a = -a := by
  simp [hp]
theorem s78 : PureOK PP 78 e78 := by
  intro xs ps res h hp
  unfold e78 at h
  split at h
  · rename_i a b
    simp only [Option.some.injEq, Prod.mk.injEq] at h
    obtain ⟨rfl, rfl⟩ := h
    simp only [AllP.cons] at hp
    refine enter (L := [0,1,2]) (LO := []) (E := []) (O := []) (ck := true) (.nil) (.nil) (k := 78) (f := Try.f78) (xs := [.agg [SI a, SI b]]) (r := (.agg [SI (-b), SI (-a)])) (by kernel_rfl) (by kernel_rfl) (fun _ => .nil) ?_
    exact Hold.of (r78 a b) (br78 a b hp)
  · cases h
def e18 : List SV → Option (List Prop × SV)
  | [.agg [.int .i64 a, .int .i64 b, .int .i64 d, .int .i64 e, .int .i64 f]] => some ([], SI (if M.wind a b d e f then 0 else 3))
  | _ => none
theorem r18 (a b d e f : Int) : V true [] [(69, pureE e69)] Try.f18 [0,1,2,24] [] [.agg [SI a, SI b, SI d, SI e, SI f]] (SI (if M.wind a b d e f then 0 else 3)) = (((!!M.within a b (0 : Int) (10000 : Int)) = true → (!!M.within a b (0 : Int) (10000 : Int)) = true) ∧ ((!!M.within a b (0 : Int) (10000 : Int)) = true → (!!M.within a b (0 : Int) (10000 : Int)) = true) ∧ ((!M.within a b (0 : Int) (10000 : Int)) = false → (!!M.within a b (0 : Int) (10000 : Int)) = true) ∧ ((!bif !M.within a b (0 : Int) (10000 : Int) then true else decide (d < (1 : Int))) = true → (!bif !M.within a b (0 : Int) (10000 : Int) then true else decide (d < (1 : Int))) = true) ∧ ((!bif !M.within a b (0 : Int) (10000 : Int) then true else decide (d < (1 : Int))) = true → (!bif !M.within a b (0 : Int) (10000 : Int) then true else decide (d < (1 : Int))) = true) ∧ ((bif !M.within a b (0 : Int) (10000 : Int) then true else decide (d < (1 : Int))) = false → (!bif !M.within a b (0 : Int) (10000 : Int) then true else decide (d < (1 : Int))) = true) ∧ ((!bif bif !M.within a b (0 : Int) (10000 : Int) then true else decide (d < (1 : Int)) then true else decide ((255 : Int) < d)) = true → (!bif bif !M.within a b (0 : Int) (10000 : Int) then true else decide (d < (1 : Int)) then true else decide ((255 : Int) < d)) = true) ∧ ((!bif bif !M.within a b (0 : Int) (10000 : Int) then true else decide (d < (1 : Int)) then true else decide ((255 : Int) < d)) = true → (!bif bif !M.within a b (0 : Int) (10000 : Int) then true else decide (d < (1 : Int)) then true else decide ((255 : Int) < d)) = true) ∧ ((!bif bif !M.within a b (0 : Int) (10000 : Int) then true else decide (d < (1 : Int)) then true else decide ((255 : Int) < d)) = true → (!bif bif !M.within a b (0 : Int) (10000 : Int) then true else decide (d < (1 : Int)) then true else decide ((255 : Int) < d)) = true) ∧ ((!bif bif !M.within a b (0 : Int) (10000 : Int) then true else decide (d < (1 : Int)) then true else decide ((255 : Int) < d)) = true → (!bif bif !M.within a b (0 : Int) (10000 : Int) then true else decide (d < (1 : Int)) then true else decide ((255 : Int) < d)) = true) ∧ ((bif bif !M.within a b (0 : Int) (10000 : Int) then true else decide (d < (1 : Int)) then true else decide ((255 : Int) < d)) = false → (!bif bif !M.within a b (0 : Int) (10000 : Int) then true else decide (d < (1 : Int)) then true else decide ((255 : Int) < d)) = true) ∧ ((bif bif bif !M.within a b (0 : Int) (10000 : Int) then true else decide (d < (1 : Int)) then true else decide ((255 : Int) < d) then true else !M.within e f (-20000 : Int) (20000 : Int)) = true → (3 : Int) = if M.wind a b d e f = true then (0 : Int) else (3 : Int)) ∧ ((bif bif bif !M.within a b (0 : Int) (10000 : Int) then true else decide (d < (1 : Int)) then true else decide ((255 : Int) < d) then true else !M.within e f (-20000 : Int) (20000 : Int)) = false → (0 : Int) = if M.wind a b d e f = true then (0 : Int) else (3 : Int))) := by kernel_rfl
theorem br18 (a b d e f : Int)  : ((!!M.within a b (0 : Int) (10000 : Int)) = true → (!!M.within a b (0 : Int) (10000 : Int)) = true) ∧ ((!!M.within a b (0 : Int) (10000 : Int)) = true → (!!M.within a b (0 : Int) (10000 : Int)) = true) ∧ ((!M.within a b (0 : Int) (10000 : Int)) = false → (!!M.within a b (0 : Int) (10000 : Int)) = true) ∧ ((!bif !M.within a b (0 : Int) (10000 : Int) then true else decide (d < (1 : Int))) = true → (!bif !M.within a b (0 : Int) (10000 : Int) then true else decide (d < (1 : Int))) = true) ∧ ((!bif !M.within a b (0 : Int) (10000 : Int) then true else decide (d < (1 : Int))) = true → (!bif !M.within a b (0 : Int) (10000 : Int) then true else decide (d < (1 : Int))) = true) ∧ ((bif !M.within a b (0 : Int) (10000 : Int) then true else decide (d < (1 : Int))) = false → (!bif !M.within a b (0 : Int) (10000 : Int) then true else decide (d < (1 : Int))) = true) ∧ ((!bif bif !M.within a b (0 : Int) (10000 : Int) then true else decide (d < (1 : Int)) then true else decide ((255 : Int) < d)) = true → (!bif bif !M.within a b (0 : Int) (10000 : Int) then true else decide (d < (1 : Int)) then true else decide ((255 : Int) < d)) = true) ∧ ((!bif bif !M.within a b (0 : Int) (10000 : Int) then true else decide (d < (1 : Int)) then true else decide ((255 : Int) < d)) = true → (!bif bif !M.within a b (0 : Int) (10000 : Int) then true else decide (d < (1 : Int)) then true else decide ((255 : Int) < d)) = true) ∧ ((!bif bif !M.within a b (0 : Int) (10000 : Int) then true else decide (d < (1 : Int)) then true else decide ((255 : Int) < d)) = true → (!bif bif !M.within a b (0 : Int) (10000 : Int) then true else decide (d < (1 : Int)) then true else decide ((255 : Int) < d)) = true) ∧ ((!bif bif !M.within a b (0 : Int) (10000 : Int) then true else decide (d < (1 : Int)) then true else decide ((255 : Int) < d)) = true → (!bif bif !M.within a b (0 : Int) (10000 : Int) then true else decide (d < (1 : Int)) then true else decide ((255 : Int) < d)) = true) ∧ ((bif bif !M.within a b (0 : Int) (10000 : Int) then true else decide (d < (1 : Int)) then true else decide ((255 : Int) < d)) = false → (!bif bif !M.within a b (0 : Int) (10000 : Int) then true else decide (d < (1 : Int)) then true else decide ((255 : Int) < d)) = true) ∧ ((bif bif bif !M.within a b (0 : Int) (10000 : Int) then true else decide (d < (1 : Int)) then true else decide ((255 : Int) < d) then true else !M.within e f (-20000 : Int) (20000 : Int)) = true → (3 : Int) = if M.wind a b d e f = true then (0 : Int) else (3 : Int)) ∧ ((bif bif bif !M.within a b (0 : Int) (10000 : Int) then true else decide (d < (1 : Int)) then true else decide ((255 : Int) < d) then true else !M.within e f (-20000 : Int) (20000 : Int)) = false → (0 : Int) = if M.wind a b d e f = true then (0 : Int) else (3 : Int)) := by
  unfold M.wind
  grind
theorem s18 : PureOK PP 18 e18 := by
  intro xs ps res h hp
  unfold e18 at h
  split at h
  · rename_i a b d e f
    simp only [Option.some.injEq, Prod.mk.injEq] at h
    obtain ⟨rfl, rfl⟩ := h
    clear hp
    refine enter (L := [0,1,2,24]) (LO := []) (E := []) (O := [(69, pureE e69)]) (ck := true) (.nil) (.cons (pureE_ok s69) (.nil)) (k := 18) (f := Try.f18) (xs := [.agg [SI a, SI b, SI d, SI e, SI f]]) (r := (SI (if M.wind a b d e f then 0 else 3))) (by kernel_rfl) (by kernel_rfl) (fun _ => .nil) ?_
    exact Hold.of (r18 a b d e f) (br18 a b d e f )
  · cases h
def e46 : List SV → Option (List Prop × SV)
  | [.agg [.int .i64 a, .int .i64 b, .int .i64 d, .int .i64 e, .int .i64 f]] => some ([], SI (if M.wind a b d e f then 0 else 3))
  | _ => none
theorem r46 (a b d e f : Int) : V true [] [(71, pureE e71), (72, pureE e72)] Try.f46 [0,1,2,18] [] [.agg [SI a, SI b, SI d, SI e, SI f]] (SI (if M.wind a b d e f then 0 else 3)) = (((!!M.within a b (0 : Int) (10000 : Int)) = true → (!!M.within a b (0 : Int) (10000 : Int)) = true) ∧ ((!!M.within a b (0 : Int) (10000 : Int)) = true → (!!M.within a b (0 : Int) (10000 : Int)) = true) ∧ ((!!M.within a b (0 : Int) (10000 : Int)) = true → (!!M.within a b (0 : Int) (10000 : Int)) = true) ∧ ((!M.within a b (0 : Int) (10000 : Int)) = false → (!!M.within a b (0 : Int) (10000 : Int)) = true) ∧ ((!bif !M.within a b (0 : Int) (10000 : Int) then true else !(decide ((1 : Int) ≤ d) && decide (d ≤ (255 : Int)))) = true → (!bif !M.within a b (0 : Int) (10000 : Int) then true else !(decide ((1 : Int) ≤ d) && decide (d ≤ (255 : Int)))) = true) ∧ ((!bif !M.within a b (0 : Int) (10000 : Int) then true else !(decide ((1 : Int) ≤ d) && decide (d ≤ (255 : Int)))) = true → (!bif !M.within a b (0 : Int) (10000 : Int) then true else !(decide ((1 : Int) ≤ d) && decide (d ≤ (255 : Int)))) = true) ∧ ((!bif !M.within a b (0 : Int) (10000 : Int) then true else !(decide ((1 : Int) ≤ d) && decide (d ≤ (255 : Int)))) = true → (!bif !M.within a b (0 : Int) (10000 : Int) then true else !(decide ((1 : Int) ≤ d) && decide (d ≤ (255 : Int)))) = true) ∧ ((bif !M.within a b (0 : Int) (10000 : Int) then true else !(decide ((1 : Int) ≤ d) && decide (d ≤ (255 : Int)))) = false → (!bif !M.within a b (0 : Int) (10000 : Int) then true else !(decide ((1 : Int) ≤ d) && decide (d ≤ (255 : Int)))) = true) ∧ ((bif bif !M.within a b (0 : Int) (10000 : Int) then true else !(decide ((1 : Int) ≤ d) && decide (d ≤ (255 : Int))) then true else !M.within e f (-20000 : Int) (20000 : Int)) = true → (3 : Int) = if M.wind a b d e f = true then (0 : Int) else (3 : Int)) ∧ ((bif bif !M.within a b (0 : Int) (10000 : Int) then true else !(decide ((1 : Int) ≤ d) && decide (d ≤ (255 : Int))) then true else !M.within e f (-20000 : Int) (20000 : Int)) = false → (0 : Int) = if M.wind a b d e f = true then (0 : Int) else (3 : Int))) := by kernel_rfl
theorem br46 (a b d e f : Int)  : ((!!M.within a b (0 : Int) (10000 : Int)) = true → (!!M.within a b (0 : Int) (10000 : Int)) = true) ∧ ((!!M.within a b (0 : Int) (10000 : Int)) = true → (!!M.within a b (0 : Int) (10000 : Int)) = true) ∧ ((!!M.within a b (0 : Int) (10000 : Int)) = true → (!!M.within a b (0 : Int) (10000 : Int)) = true) ∧ ((!M.within a b (0 : Int) (10000 : Int)) = false → (!!M.within a b (0 : Int) (10000 : Int)) = true) ∧ ((!bif !M.within a b (0 : Int) (10000 : Int) then true else !(decide ((1 : Int) ≤ d) && decide (d ≤ (255 : Int)))) = true → (!bif !M.within a b (0 : Int) (10000 : Int) then true else !(decide ((1 : Int) ≤ d) && decide (d ≤ (255 : Int)))) = true) ∧ ((!bif !M.within a b (0 : Int) (10000 : Int) then true else !(decide ((1 : Int) ≤ d) && decide (d ≤ (255 : Int)))) = true → (!bif !M.within a b (0 : Int) (10000 : Int) then true else !(decide ((1 : Int) ≤ d) && decide (d ≤ (255 : Int)))) = true) ∧ ((!bif !M.within a b (0 : Int) (10000 : Int) then true else !(decide ((1 : Int) ≤ d) && decide (d ≤ (255 : Int)))) = true → (!bif !M.within a b (0 : Int) (10000 : Int) then true else !(decide ((1 : Int) ≤ d) && decide (d ≤ (255 : Int)))) = true) ∧ ((bif !M.within a b (0 : Int) (10000 : Int) then true else !(decide ((1 : Int) ≤ d) && decide (d ≤ (255 : Int)))) = false → (!bif !M.within a b (0 : Int) (10000 : Int) then true else !(decide ((1 : Int) ≤ d) && decide (d ≤ (255 : Int)))) = true) ∧ ((bif bif !M.within a b (0 : Int) (10000 : Int) then true else !(decide ((1 : Int) ≤ d) && decide (d ≤ (255 : Int))) then true else !M.within e f (-20000 : Int) (20000 : Int)) = true → (3 : Int) = if M.wind a b d e f = true then (0 : Int) else (3 : Int)) ∧ ((bif bif !M.within a b (0 : Int) (10000 : Int) then true else !(decide ((1 : Int) ≤ d) && decide (d ≤ (255 : Int))) then true else !M.within e f (-20000 : Int) (20000 : Int)) = false → (0 : Int) = if M.wind a b d e f = true then (0 : Int) else (3 : Int)) := by
  unfold M.wind
  grind
theorem s46 : PureOK PP 46 e46 := by
  intro xs ps res h hp
  unfold e46 at h
  split at h
  · rename_i a b d e f
    simp only [Option.some.injEq, Prod.mk.injEq] at h
    obtain ⟨rfl, rfl⟩ := h
    clear hp
    refine enter (L := [0,1,2,18]) (LO := []) (E := []) (O := [(71, pureE e71), (72, pureE e72)]) (ck := true) (.nil) (.cons (pureE_ok s71) (.cons (pureE_ok s72) (.nil))) (k := 46) (f := Try.f46) (xs := [.agg [SI a, SI b, SI d, SI e, SI f]]) (r := (SI (if M.wind a b d e f then 0 else 3))) (by kernel_rfl) (by kernel_rfl) (fun _ => .nil) ?_
    exact Hold.of (r46 a b d e f) (br46 a b d e f )
  · cases h
def e44 : List SV → Option (List Prop × SV)
  | [.agg [.int .i64 a, .int .i64 b, .int .i64 c, .int .i64 d]] => some ([], SI (if M.within a b 1 10000 && M.within c d 1 1024 then 0 else 3))
  | _ => none
theorem r44 (a b c d : Int) : V true [] [(69, pureE e69)] Try.f44 [0,1,2,14] [] [.agg [SI a, SI b, SI c, SI d]] (SI (if M.within a b 1 10000 && M.within c d 1 1024 then 0 else 3)) = (((!!M.within a b (1 : Int) (10000 : Int)) = true → (!!M.within a b (1 : Int) (10000 : Int)) = true) ∧ ((!!M.within a b (1 : Int) (10000 : Int)) = true → (!!M.within a b (1 : Int) (10000 : Int)) = true) ∧ ((!!M.within a b (1 : Int) (10000 : Int)) = true → (!!M.within a b (1 : Int) (10000 : Int)) = true) ∧ ((!!M.within a b (1 : Int) (10000 : Int)) = true → (!!M.within a b (1 : Int) (10000 : Int)) = true) ∧ ((!M.within a b (1 : Int) (10000 : Int)) = false → (!!M.within a b (1 : Int) (10000 : Int)) = true) ∧ ((bif !M.within a b (1 : Int) (10000 : Int) then true else !M.within c d (1 : Int) (1024 : Int)) = true → (3 : Int) = if (M.within a b (1 : Int) (10000 : Int) && M.within c d (1 : Int) (1024 : Int)) = true then (0 : Int) else (3 : Int)) ∧ ((bif !M.within a b (1 : Int) (10000 : Int) then true else !M.within c d (1 : Int) (1024 : Int)) = false → (0 : Int) = if (M.within a b (1 : Int) (10000 : Int) && M.within c d (1 : Int) (1024 : Int)) = true then (0 : Int) else (3 : Int))) := by kernel_rfl
theorem br44 (a b c d : Int)  : ((!!M.within a b (1 : Int) (10000 : Int)) = true → (!!M.within a b (1 : Int) (10000 : Int)) = true) ∧ ((!!M.within a b (1 : Int) (10000 : Int)) = true → (!!M.within a b (1 : Int) (10000 : Int)) = true) ∧ ((!!M.within a b (1 : Int) (10000 : Int)) = true → (!!M.within a b (1 : Int) (10000 : Int)) = true) ∧ ((!!M.within a b (1 : Int) (10000 : Int)) = true → (!!M.within a b (1 : Int) (10000 : Int)) = true) ∧ ((!M.within a b (1 : Int) (10000 : Int)) = false → (!!M.within a b (1 : Int) (10000 : Int)) = true) ∧ ((bif !M.within a b (1 : Int) (10000 : Int) then true else !M.within c d (1 : Int) (1024 : Int)) = true → (3 : Int) = if (M.within a b (1 : Int) (10000 : Int) && M.within c d (1 : Int) (1024 : Int)) = true then (0 : Int) else (3 : Int)) ∧ ((bif !M.within a b (1 : Int) (10000 : Int) then true else !M.within c d (1 : Int) (1024 : Int)) = false → (0 : Int) = if (M.within a b (1 : Int) (10000 : Int) && M.within c d (1 : Int) (1024 : Int)) = true then (0 : Int) else (3 : Int)) := by
  grind
theorem s44 : PureOK PP 44 e44 := by
  intro xs ps res h hp
  unfold e44 at h
  split at h
  · rename_i a b c d
    simp only [Option.some.injEq, Prod.mk.injEq] at h
    obtain ⟨rfl, rfl⟩ := h
    clear hp
    refine enter (L := [0,1,2,14]) (LO := []) (E := []) (O := [(69, pureE e69)]) (ck := true) (.nil) (.cons (pureE_ok s69) (.nil)) (k := 44) (f := Try.f44) (xs := [.agg [SI a, SI b, SI c, SI d]]) (r := (SI (if M.within a b 1 10000 && M.within c d 1 1024 then 0 else 3))) (by kernel_rfl) (by kernel_rfl) (fun _ => .nil) ?_
    exact Hold.of (r44 a b c d) (br44 a b c d )
  · cases h
def e45 : List SV → Option (List Prop × SV)
  | [.agg [.int .i64 a, .int .i64 b, .int .i64 c, .int .i64 d]] => some ([], SI (if M.within a b 1 10000 && M.within c d 1 1024 then 0 else 3))
  | _ => none
theorem r45 (a b c d : Int) : V true [] [(71, pureE e71)] Try.f45 [0,1,2,12] [] [.agg [SI a, SI b, SI c, SI d]] (SI (if M.within a b 1 10000 && M.within c d 1 1024 then 0 else 3)) = (((!!M.within a b (1 : Int) (10000 : Int)) = true → (!!M.within a b (1 : Int) (10000 : Int)) = true) ∧ ((!!M.within a b (1 : Int) (10000 : Int)) = true → (!!M.within a b (1 : Int) (10000 : Int)) = true) ∧ ((!!M.within a b (1 : Int) (10000 : Int)) = true → (!!M.within a b (1 : Int) (10000 : Int)) = true) ∧ ((!M.within a b (1 : Int) (10000 : Int)) = false → (!!M.within a b (1 : Int) (10000 : Int)) = true) ∧ ((bif !M.within a b (1 : Int) (10000 : Int) then true else !M.within c d (1 : Int) (1024 : Int)) = true → (3 : Int) = if (M.within a b (1 : Int) (10000 : Int) && M.within c d (1 : Int) (1024 : Int)) = true then (0 : Int) else (3 : Int)) ∧ ((bif !M.within a b (1 : Int) (10000 : Int) then true else !M.within c d (1 : Int) (1024 : Int)) = false → (0 : Int) = if (M.within a b (1 : Int) (10000 : Int) && M.within c d (1 : Int) (1024 : Int)) = true then (0 : Int) else (3 : Int))) := by kernel_rfl
theorem br45 (a b c d : Int)  : ((!!M.within a b (1 : Int) (10000 : Int)) = true → (!!M.within a b (1 : Int) (10000 : Int)) = true) ∧ ((!!M.within a b (1 : Int) (10000 : Int)) = true → (!!M.within a b (1 : Int) (10000 : Int)) = true) ∧ ((!!M.within a b (1 : Int) (10000 : Int)) = true → (!!M.within a b (1 : Int) (10000 : Int)) = true) ∧ ((!M.within a b (1 : Int) (10000 : Int)) = false → (!!M.within a b (1 : Int) (10000 : Int)) = true) ∧ ((bif !M.within a b (1 : Int) (10000 : Int) then true else !M.within c d (1 : Int) (1024 : Int)) = true → (3 : Int) = if (M.within a b (1 : Int) (10000 : Int) && M.within c d (1 : Int) (1024 : Int)) = true then (0 : Int) else (3 : Int)) ∧ ((bif !M.within a b (1 : Int) (10000 : Int) then true else !M.within c d (1 : Int) (1024 : Int)) = false → (0 : Int) = if (M.within a b (1 : Int) (10000 : Int) && M.within c d (1 : Int) (1024 : Int)) = true then (0 : Int) else (3 : Int)) := by
  grind
theorem s45 : PureOK PP 45 e45 := by
  intro xs ps res h hp
  unfold e45 at h
  split at h
  · rename_i a b c d
    simp only [Option.some.injEq, Prod.mk.injEq] at h
    obtain ⟨rfl, rfl⟩ := h
    clear hp
    refine enter (L := [0,1,2,12]) (LO := []) (E := []) (O := [(71, pureE e71)]) (ck := true) (.nil) (.cons (pureE_ok s71) (.nil)) (k := 45) (f := Try.f45) (xs := [.agg [SI a, SI b, SI c, SI d]]) (r := (SI (if M.within a b 1 10000 && M.within c d 1 1024 then 0 else 3))) (by kernel_rfl) (by kernel_rfl) (fun _ => .nil) ?_
    exact Hold.of (r45 a b c d) (br45 a b c d )
  · cases h
def e99 : List SV → Option (List Prop × SV)
  | [.agg [.int .i64 a, .int .i64 b], .agg [.int .i64 c, .int .i64 d]] => some ([M.Sm a, M.Sm b, M.Sm c, M.Sm d], .bool (M.ahead a b c d))
  | _ => none
theorem r99 (a b c d : Int) : V true [] [(61, pureE e61)] Try.f99 [0,1,2,3,4] [] [.agg [SI a, SI b], .agg [SI c, SI d]] (.bool (M.ahead a b c d)) = ((decide ((0 : Int) < b) = true → decide ((0 : Int) < b) = true) ∧ (decide ((0 : Int) < b) = true → R64 (-d)) ∧ (decide ((0 : Int) < b) = true → decide ((0 : Int) < b) = true) ∧ (decide ((0 : Int) < b) = true → R64 ((12 : Int) * M.near c d)) ∧ (decide ((0 : Int) < b) = true → decide ((0 : Int) < b) = true) ∧ (decide ((0 : Int) < b) = true → decide ((0 : Int) < b) = true) ∧ (decide ((0 : Int) < b) = true → decide ((0 : Int) < b) = true) ∧ (decide ((0 : Int) < b) = true → R64 ((5 : Int) * b)) ∧ (decide ((0 : Int) < b) = true → decide ((0 : Int) < b) = true) ∧ (decide ((0 : Int) < b) = true → decide ((0 : Int) < b) = true) ∧ (decide ((0 : Int) < b) = true → decide ((0 : Int) < b) = true) ∧ (bif decide ((0 : Int) < b) then decide ((12 : Int) * M.near c d ≤ (5 : Int) * b) else false) = M.ahead a b c d) := by kernel_rfl
theorem br99 (a b c d : Int) (hp : (M.Sm a) ∧ (M.Sm b) ∧ (M.Sm c) ∧ (M.Sm d) ∧ AllP []) : (decide ((0 : Int) < b) = true → decide ((0 : Int) < b) = true) ∧ (decide ((0 : Int) < b) = true → R64 (-d)) ∧ (decide ((0 : Int) < b) = true → decide ((0 : Int) < b) = true) ∧ (decide ((0 : Int) < b) = true → R64 ((12 : Int) * M.near c d)) ∧ (decide ((0 : Int) < b) = true → decide ((0 : Int) < b) = true) ∧ (decide ((0 : Int) < b) = true → decide ((0 : Int) < b) = true) ∧ (decide ((0 : Int) < b) = true → decide ((0 : Int) < b) = true) ∧ (decide ((0 : Int) < b) = true → R64 ((5 : Int) * b)) ∧ (decide ((0 : Int) < b) = true → decide ((0 : Int) < b) = true) ∧ (decide ((0 : Int) < b) = true → decide ((0 : Int) < b) = true) ∧ (decide ((0 : Int) < b) = true → decide ((0 : Int) < b) = true) ∧ (bif decide ((0 : Int) < b) then decide ((12 : Int) * M.near c d ≤ (5 : Int) * b) else false) = M.ahead a b c d := by
  unfold M.ahead M.near R64
  unfold M.Sm at hp
  grind
theorem s99 : PureOK PP 99 e99 := by
  intro xs ps res h hp
  unfold e99 at h
  split at h
  · rename_i a b c d
    simp only [Option.some.injEq, Prod.mk.injEq] at h
    obtain ⟨rfl, rfl⟩ := h
    simp only [AllP.cons] at hp
    refine enter (L := [0,1,2,3,4]) (LO := []) (E := []) (O := [(61, pureE e61)]) (ck := true) (.nil) (.cons (pureE_ok s61) (.nil)) (k := 99) (f := Try.f99) (xs := [.agg [SI a, SI b], .agg [SI c, SI d]]) (r := (.bool (M.ahead a b c d))) (by kernel_rfl) (by kernel_rfl) (fun _ => .nil) ?_
    exact Hold.of (r99 a b c d) (br99 a b c d hp)
  · cases h
def e102 : List SV → Option (List Prop × SV)
  | [.agg [.int .i64 a, .int .i64 b], .agg [.int .i64 c, .int .i64 d]] => some ([M.Sm a, M.Sm b, M.Sm c, M.Sm d], .bool (M.ahead a b c d))
  | _ => none
theorem r102 (a b c d : Int) : V true [] [(74, pureE e74)] Try.f102 [0,1,2,3,4] [] [.agg [SI a, SI b], .agg [SI c, SI d]] (.bool (M.ahead a b c d)) = ((decide ((0 : Int) < b) = true → decide ((0 : Int) < b) = true) ∧ (decide ((0 : Int) < b) = true → R64 (-d)) ∧ (decide ((0 : Int) < b) = true → decide ((0 : Int) < b) = true) ∧ (decide ((0 : Int) < b) = true → R64 ((12 : Int) * M.near c d)) ∧ (decide ((0 : Int) < b) = true → decide ((0 : Int) < b) = true) ∧ (decide ((0 : Int) < b) = true → decide ((0 : Int) < b) = true) ∧ (decide ((0 : Int) < b) = true → R64 ((5 : Int) * b)) ∧ (decide ((0 : Int) < b) = true → decide ((0 : Int) < b) = true) ∧ (decide ((0 : Int) < b) = true → decide ((0 : Int) < b) = true) ∧ (decide ((0 : Int) < b) = true → decide ((0 : Int) < b) = true) ∧ (bif decide ((0 : Int) < b) then decide ((12 : Int) * M.near c d ≤ (5 : Int) * b) else false) = M.ahead a b c d) := by kernel_rfl
theorem br102 (a b c d : Int) (hp : (M.Sm a) ∧ (M.Sm b) ∧ (M.Sm c) ∧ (M.Sm d) ∧ AllP []) : (decide ((0 : Int) < b) = true → decide ((0 : Int) < b) = true) ∧ (decide ((0 : Int) < b) = true → R64 (-d)) ∧ (decide ((0 : Int) < b) = true → decide ((0 : Int) < b) = true) ∧ (decide ((0 : Int) < b) = true → R64 ((12 : Int) * M.near c d)) ∧ (decide ((0 : Int) < b) = true → decide ((0 : Int) < b) = true) ∧ (decide ((0 : Int) < b) = true → decide ((0 : Int) < b) = true) ∧ (decide ((0 : Int) < b) = true → R64 ((5 : Int) * b)) ∧ (decide ((0 : Int) < b) = true → decide ((0 : Int) < b) = true) ∧ (decide ((0 : Int) < b) = true → decide ((0 : Int) < b) = true) ∧ (decide ((0 : Int) < b) = true → decide ((0 : Int) < b) = true) ∧ (bif decide ((0 : Int) < b) then decide ((12 : Int) * M.near c d ≤ (5 : Int) * b) else false) = M.ahead a b c d := by
  unfold M.ahead M.near R64
  unfold M.Sm at hp
  grind
theorem s102 : PureOK PP 102 e102 := by
  intro xs ps res h hp
  unfold e102 at h
  split at h
  · rename_i a b c d
    simp only [Option.some.injEq, Prod.mk.injEq] at h
    obtain ⟨rfl, rfl⟩ := h
    simp only [AllP.cons] at hp
    refine enter (L := [0,1,2,3,4]) (LO := []) (E := []) (O := [(74, pureE e74)]) (ck := true) (.nil) (.cons (pureE_ok s74) (.nil)) (k := 102) (f := Try.f102) (xs := [.agg [SI a, SI b], .agg [SI c, SI d]]) (r := (.bool (M.ahead a b c d))) (by kernel_rfl) (by kernel_rfl) (fun _ => .nil) ?_
    exact Hold.of (r102 a b c d) (br102 a b c d hp)
  · cases h
def e100 : List SV → Option (List Prop × SV)
  | [.agg [.int .i64 a, .int .i64 b], .agg [.int .i64 c, .int .i64 d]] => some ([M.Sm a, M.Sm b, M.Sm c, M.Sm d], .bool (M.aslant a b c d))
  | _ => none
theorem r100 (a b c d : Int) : V true [] [] Try.f100 [0,1,2,3,4] [] [.agg [SI a, SI b], .agg [SI c, SI d]] (.bool (M.aslant a b c d)) = ((decide ((0 : Int) < b) = true → decide ((0 : Int) < b) = true) ∧ (decide ((0 : Int) < b) = true → decide ((0 : Int) < b) = true) ∧ (decide ((0 : Int) < b) = true → decide ((0 : Int) < b) = true) ∧ (decide ((0 : Int) < b) = true → decide ((0 : Int) < b) = true) ∧ ((bif decide ((0 : Int) < b) then decide ((0 : Int) < d) else false) = true → (bif decide ((0 : Int) < b) then decide ((0 : Int) < d) else false) = true) ∧ ((bif decide ((0 : Int) < b) then decide ((0 : Int) < d) else false) = true → (bif decide ((0 : Int) < b) then decide ((0 : Int) < d) else false) = true) ∧ ((bif decide ((0 : Int) < b) then decide ((0 : Int) < d) else false) = true → (bif decide ((0 : Int) < b) then decide ((0 : Int) < d) else false) = true) ∧ ((bif decide ((0 : Int) < b) then decide ((0 : Int) < d) else false) = true → R64 ((12 : Int) * d)) ∧ ((bif decide ((0 : Int) < b) then decide ((0 : Int) < d) else false) = true → (bif decide ((0 : Int) < b) then decide ((0 : Int) < d) else false) = true) ∧ ((bif decide ((0 : Int) < b) then decide ((0 : Int) < d) else false) = true → (bif decide ((0 : Int) < b) then decide ((0 : Int) < d) else false) = true) ∧ ((bif decide ((0 : Int) < b) then decide ((0 : Int) < d) else false) = true → (bif decide ((0 : Int) < b) then decide ((0 : Int) < d) else false) = true) ∧ ((bif decide ((0 : Int) < b) then decide ((0 : Int) < d) else false) = true → (bif decide ((0 : Int) < b) then decide ((0 : Int) < d) else false) = true) ∧ ((bif decide ((0 : Int) < b) then decide ((0 : Int) < d) else false) = true → R64 ((5 : Int) * max (1 : Int) a)) ∧ ((bif decide ((0 : Int) < b) then decide ((0 : Int) < d) else false) = true → (bif decide ((0 : Int) < b) then decide ((0 : Int) < d) else false) = true) ∧ ((bif decide ((0 : Int) < b) then decide ((0 : Int) < d) else false) = true → (bif decide ((0 : Int) < b) then decide ((0 : Int) < d) else false) = true) ∧ ((bif decide ((0 : Int) < b) then decide ((0 : Int) < d) else false) = true → (bif decide ((0 : Int) < b) then decide ((0 : Int) < d) else false) = true) ∧ ((bif bif decide ((0 : Int) < b) then decide ((0 : Int) < d) else false then decide ((5 : Int) * max (1 : Int) a ≤ (12 : Int) * d) else false) = true → (bif bif decide ((0 : Int) < b) then decide ((0 : Int) < d) else false then decide ((5 : Int) * max (1 : Int) a ≤ (12 : Int) * d) else false) = true) ∧ ((bif bif decide ((0 : Int) < b) then decide ((0 : Int) < d) else false then decide ((5 : Int) * max (1 : Int) a ≤ (12 : Int) * d) else false) = true → (bif bif decide ((0 : Int) < b) then decide ((0 : Int) < d) else false then decide ((5 : Int) * max (1 : Int) a ≤ (12 : Int) * d) else false) = true) ∧ ((bif bif decide ((0 : Int) < b) then decide ((0 : Int) < d) else false then decide ((5 : Int) * max (1 : Int) a ≤ (12 : Int) * d) else false) = true → (bif bif decide ((0 : Int) < b) then decide ((0 : Int) < d) else false then decide ((5 : Int) * max (1 : Int) a ≤ (12 : Int) * d) else false) = true) ∧ ((bif bif decide ((0 : Int) < b) then decide ((0 : Int) < d) else false then decide ((5 : Int) * max (1 : Int) a ≤ (12 : Int) * d) else false) = true → R64 ((12 : Int) * b)) ∧ ((bif bif decide ((0 : Int) < b) then decide ((0 : Int) < d) else false then decide ((5 : Int) * max (1 : Int) a ≤ (12 : Int) * d) else false) = true → (bif bif decide ((0 : Int) < b) then decide ((0 : Int) < d) else false then decide ((5 : Int) * max (1 : Int) a ≤ (12 : Int) * d) else false) = true) ∧ ((bif bif decide ((0 : Int) < b) then decide ((0 : Int) < d) else false then decide ((5 : Int) * max (1 : Int) a ≤ (12 : Int) * d) else false) = true → (bif bif decide ((0 : Int) < b) then decide ((0 : Int) < d) else false then decide ((5 : Int) * max (1 : Int) a ≤ (12 : Int) * d) else false) = true) ∧ ((bif bif decide ((0 : Int) < b) then decide ((0 : Int) < d) else false then decide ((5 : Int) * max (1 : Int) a ≤ (12 : Int) * d) else false) = true → (bif bif decide ((0 : Int) < b) then decide ((0 : Int) < d) else false then decide ((5 : Int) * max (1 : Int) a ≤ (12 : Int) * d) else false) = true) ∧ ((bif bif decide ((0 : Int) < b) then decide ((0 : Int) < d) else false then decide ((5 : Int) * max (1 : Int) a ≤ (12 : Int) * d) else false) = true → (bif bif decide ((0 : Int) < b) then decide ((0 : Int) < d) else false then decide ((5 : Int) * max (1 : Int) a ≤ (12 : Int) * d) else false) = true) ∧ ((bif bif decide ((0 : Int) < b) then decide ((0 : Int) < d) else false then decide ((5 : Int) * max (1 : Int) a ≤ (12 : Int) * d) else false) = true → R64 ((5 : Int) * max (1 : Int) c)) ∧ ((bif bif decide ((0 : Int) < b) then decide ((0 : Int) < d) else false then decide ((5 : Int) * max (1 : Int) a ≤ (12 : Int) * d) else false) = true → (bif bif decide ((0 : Int) < b) then decide ((0 : Int) < d) else false then decide ((5 : Int) * max (1 : Int) a ≤ (12 : Int) * d) else false) = true) ∧ ((bif bif decide ((0 : Int) < b) then decide ((0 : Int) < d) else false then decide ((5 : Int) * max (1 : Int) a ≤ (12 : Int) * d) else false) = true → (bif bif decide ((0 : Int) < b) then decide ((0 : Int) < d) else false then decide ((5 : Int) * max (1 : Int) a ≤ (12 : Int) * d) else false) = true) ∧ ((bif bif decide ((0 : Int) < b) then decide ((0 : Int) < d) else false then decide ((5 : Int) * max (1 : Int) a ≤ (12 : Int) * d) else false) = true → (bif bif decide ((0 : Int) < b) then decide ((0 : Int) < d) else false then decide ((5 : Int) * max (1 : Int) a ≤ (12 : Int) * d) else false) = true) ∧ (bif bif bif decide ((0 : Int) < b) then decide ((0 : Int) < d) else false then decide ((5 : Int) * max (1 : Int) a ≤ (12 : Int) * d) else false then decide ((5 : Int) * max (1 : Int) c ≤ (12 : Int) * b) else false) = M.aslant a b c d) := by kernel_rfl
theorem br100 (a b c d : Int) (hp : (M.Sm a) ∧ (M.Sm b) ∧ (M.Sm c) ∧ (M.Sm d) ∧ AllP []) : (decide ((0 : Int) < b) = true → decide ((0 : Int) < b) = true) ∧ (decide ((0 : Int) < b) = true → decide ((0 : Int) < b) = true) ∧ (decide ((0 : Int) < b) = true → decide ((0 : Int) < b) = true) ∧ (decide ((0 : Int) < b) = true → decide ((0 : Int) < b) = true) ∧ ((bif decide ((0 : Int) < b) then decide ((0 : Int) < d) else false) = true → (bif decide ((0 : Int) < b) then decide ((0 : Int) < d) else false) = true) ∧ ((bif decide ((0 : Int) < b) then decide ((0 : Int) < d) else false) = true → (bif decide ((0 : Int) < b) then decide ((0 : Int) < d) else false) = true) ∧ ((bif decide ((0 : Int) < b) then decide ((0 : Int) < d) else false) = true → (bif decide ((0 : Int) < b) then decide ((0 : Int) < d) else false) = true) ∧ ((bif decide ((0 : Int) < b) then decide ((0 : Int) < d) else false) = true → R64 ((12 : Int) * d)) ∧ ((bif decide ((0 : Int) < b) then decide ((0 : Int) < d) else false) = true → (bif decide ((0 : Int) < b) then decide ((0 : Int) < d) else false) = true) ∧ ((bif decide ((0 : Int) < b) then decide ((0 : Int) < d) else false) = true → (bif decide ((0 : Int) < b) then decide ((0 : Int) < d) else false) = true) ∧ ((bif decide ((0 : Int) < b) then decide ((0 : Int) < d) else false) = true → (bif decide ((0 : Int) < b) then decide ((0 : Int) < d) else false) = true) ∧ ((bif decide ((0 : Int) < b) then decide ((0 : Int) < d) else false) = true → (bif decide ((0 : Int) < b) then decide ((0 : Int) < d) else false) = true) ∧ ((bif decide ((0 : Int) < b) then decide ((0 : Int) < d) else false) = true → R64 ((5 : Int) * max (1 : Int) a)) ∧ ((bif decide ((0 : Int) < b) then decide ((0 : Int) < d) else false) = true → (bif decide ((0 : Int) < b) then decide ((0 : Int) < d) else false) = true) ∧ ((bif decide ((0 : Int) < b) then decide ((0 : Int) < d) else false) = true → (bif decide ((0 : Int) < b) then decide ((0 : Int) < d) else false) = true) ∧ ((bif decide ((0 : Int) < b) then decide ((0 : Int) < d) else false) = true → (bif decide ((0 : Int) < b) then decide ((0 : Int) < d) else false) = true) ∧ ((bif bif decide ((0 : Int) < b) then decide ((0 : Int) < d) else false then decide ((5 : Int) * max (1 : Int) a ≤ (12 : Int) * d) else false) = true → (bif bif decide ((0 : Int) < b) then decide ((0 : Int) < d) else false then decide ((5 : Int) * max (1 : Int) a ≤ (12 : Int) * d) else false) = true) ∧ ((bif bif decide ((0 : Int) < b) then decide ((0 : Int) < d) else false then decide ((5 : Int) * max (1 : Int) a ≤ (12 : Int) * d) else false) = true → (bif bif decide ((0 : Int) < b) then decide ((0 : Int) < d) else false then decide ((5 : Int) * max (1 : Int) a ≤ (12 : Int) * d) else false) = true) ∧ ((bif bif decide ((0 : Int) < b) then decide ((0 : Int) < d) else false then decide ((5 : Int) * max (1 : Int) a ≤ (12 : Int) * d) else false) = true → (bif bif decide ((0 : Int) < b) then decide ((0 : Int) < d) else false then decide ((5 : Int) * max (1 : Int) a ≤ (12 : Int) * d) else false) = true) ∧ ((bif bif decide ((0 : Int) < b) then decide ((0 : Int) < d) else false then decide ((5 : Int) * max (1 : Int) a ≤ (12 : Int) * d) else false) = true → R64 ((12 : Int) * b)) ∧ ((bif bif decide ((0 : Int) < b) then decide ((0 : Int) < d) else false then decide ((5 : Int) * max (1 : Int) a ≤ (12 : Int) * d) else false) = true → (bif bif decide ((0 : Int) < b) then decide ((0 : Int) < d) else false then decide ((5 : Int) * max (1 : Int) a ≤ (12 : Int) * d) else false) = true) ∧ ((bif bif decide ((0 : Int) < b) then decide ((0 : Int) < d) else false then decide ((5 : Int) * max (1 : Int) a ≤ (12 : Int) * d) else false) = true → (bif bif decide ((0 : Int) < b) then decide ((0 : Int) < d) else false then decide ((5 : Int) * max (1 : Int) a ≤ (12 : Int) * d) else false) = true) ∧ ((bif bif decide ((0 : Int) < b) then decide ((0 : Int) < d) else false then decide ((5 : Int) * max (1 : Int) a ≤ (12 : Int) * d) else false) = true → (bif bif decide ((0 : Int) < b) then decide ((0 : Int) < d) else false then decide ((5 : Int) * max (1 : Int) a ≤ (12 : Int) * d) else false) = true) ∧ ((bif bif decide ((0 : Int) < b) then decide ((0 : Int) < d) else false then decide ((5 : Int) * max (1 : Int) a ≤ (12 : Int) * d) else false) = true → (bif bif decide ((0 : Int) < b) then decide ((0 : Int) < d) else false then decide ((5 : Int) * max (1 : Int) a ≤ (12 : Int) * d) else false) = true) ∧ ((bif bif decide ((0 : Int) < b) then decide ((0 : Int) < d) else false then decide ((5 : Int) * max (1 : Int) a ≤ (12 : Int) * d) else false) = true → R64 ((5 : Int) * max (1 : Int) c)) ∧ ((bif bif decide ((0 : Int) < b) then decide ((0 : Int) < d) else false then decide ((5 : Int) * max (1 : Int) a ≤ (12 : Int) * d) else false) = true → (bif bif decide ((0 : Int) < b) then decide ((0 : Int) < d) else false then decide ((5 : Int) * max (1 : Int) a ≤ (12 : Int) * d) else false) = true) ∧ ((bif bif decide ((0 : Int) < b) then decide ((0 : Int) < d) else false then decide ((5 : Int) * max (1 : Int) a ≤ (12 : Int) * d) else false) = true → (bif bif decide ((0 : Int) < b) then decide ((0 : Int) < d) else false then decide ((5 : Int) * max (1 : Int) a ≤ (12 : Int) * d) else false) = true) ∧ ((bif bif decide ((0 : Int) < b) then decide ((0 : Int) < d) else false then decide ((5 : Int) * max (1 : Int) a ≤ (12 : Int) * d) else false) = true → (bif bif decide ((0 : Int) < b) then decide ((0 : Int) < d) else false then decide ((5 : Int) * max (1 : Int) a ≤ (12 : Int) * d) else false) = true) ∧ (bif bif bif decide ((0 : Int) < b) then decide ((0 : Int) < d) else false then decide ((5 : Int) * max (1 : Int) a ≤ (12 : Int) * d) else false then decide ((5 : Int) * max (1 : Int) c ≤ (12 : Int) * b) else false) = M.aslant a b c d := by
  unfold M.aslant R64
  unfold M.Sm at hp
  grind
theorem s100 : PureOK PP 100 e100 := by
  intro xs ps res h hp
  unfold e100 at h
  split at h
  · rename_i a b c d
    simp only [Option.some.injEq, Prod.mk.injEq] at h
    obtain ⟨rfl, rfl⟩ := h
    simp only [AllP.cons] at hp
    refine enter (L := [0,1,2,3,4]) (LO := []) (E := []) (O := []) (ck := true) (.nil) (.nil) (k := 100) (f := Try.f100) (xs := [.agg [SI a, SI b], .agg [SI c, SI d]]) (r := (.bool (M.aslant a b c d))) (by kernel_rfl) (by kernel_rfl) (fun _ => .nil) ?_
    exact Hold.of (r100 a b c d) (br100 a b c d hp)
  · cases h
def e103 : List SV → Option (List Prop × SV)
  | [.agg [.int .i64 a, .int .i64 b], .agg [.int .i64 c, .int .i64 d]] => some ([M.Sm a, M.Sm b, M.Sm c, M.Sm d], .bool (M.aslant a b c d))
  | _ => none
theorem r103 (a b c d : Int) : V true [] [] Try.f103 [0,1,2,3,4] [] [.agg [SI a, SI b], .agg [SI c, SI d]] (.bool (M.aslant a b c d)) = ((decide ((0 : Int) < b) = true → decide ((0 : Int) < b) = true) ∧ (decide ((0 : Int) < b) = true → decide ((0 : Int) < b) = true) ∧ (decide ((0 : Int) < b) = true → decide ((0 : Int) < b) = true) ∧ ((bif decide ((0 : Int) < b) then decide ((0 : Int) < d) else false) = true → (bif decide ((0 : Int) < b) then decide ((0 : Int) < d) else false) = true) ∧ ((bif decide ((0 : Int) < b) then decide ((0 : Int) < d) else false) = true → (bif decide ((0 : Int) < b) then decide ((0 : Int) < d) else false) = true) ∧ ((bif decide ((0 : Int) < b) then decide ((0 : Int) < d) else false) = true → R64 ((12 : Int) * d)) ∧ ((bif decide ((0 : Int) < b) then decide ((0 : Int) < d) else false) = true → (bif decide ((0 : Int) < b) then decide ((0 : Int) < d) else false) = true) ∧ ((bif decide ((0 : Int) < b) then decide ((0 : Int) < d) else false) = true → (bif decide ((0 : Int) < b) then decide ((0 : Int) < d) else false) = true) ∧ ((bif decide ((0 : Int) < b) then decide ((0 : Int) < d) else false) = true → (bif decide ((0 : Int) < b) then decide ((0 : Int) < d) else false) = true) ∧ ((bif decide ((0 : Int) < b) then decide ((0 : Int) < d) else false) = true → R64 ((5 : Int) * max (1 : Int) a)) ∧ ((bif decide ((0 : Int) < b) then decide ((0 : Int) < d) else false) = true → (bif decide ((0 : Int) < b) then decide ((0 : Int) < d) else false) = true) ∧ ((bif decide ((0 : Int) < b) then decide ((0 : Int) < d) else false) = true → (bif decide ((0 : Int) < b) then decide ((0 : Int) < d) else false) = true) ∧ ((bif decide ((0 : Int) < b) then decide ((0 : Int) < d) else false) = true → (bif decide ((0 : Int) < b) then decide ((0 : Int) < d) else false) = true) ∧ ((bif bif decide ((0 : Int) < b) then decide ((0 : Int) < d) else false then decide ((5 : Int) * max (1 : Int) a ≤ (12 : Int) * d) else false) = true → (bif bif decide ((0 : Int) < b) then decide ((0 : Int) < d) else false then decide ((5 : Int) * max (1 : Int) a ≤ (12 : Int) * d) else false) = true) ∧ ((bif bif decide ((0 : Int) < b) then decide ((0 : Int) < d) else false then decide ((5 : Int) * max (1 : Int) a ≤ (12 : Int) * d) else false) = true → (bif bif decide ((0 : Int) < b) then decide ((0 : Int) < d) else false then decide ((5 : Int) * max (1 : Int) a ≤ (12 : Int) * d) else false) = true) ∧ ((bif bif decide ((0 : Int) < b) then decide ((0 : Int) < d) else false then decide ((5 : Int) * max (1 : Int) a ≤ (12 : Int) * d) else false) = true → R64 ((12 : Int) * b)) ∧ ((bif bif decide ((0 : Int) < b) then decide ((0 : Int) < d) else false then decide ((5 : Int) * max (1 : Int) a ≤ (12 : Int) * d) else false) = true → (bif bif decide ((0 : Int) < b) then decide ((0 : Int) < d) else false then decide ((5 : Int) * max (1 : Int) a ≤ (12 : Int) * d) else false) = true) ∧ ((bif bif decide ((0 : Int) < b) then decide ((0 : Int) < d) else false then decide ((5 : Int) * max (1 : Int) a ≤ (12 : Int) * d) else false) = true → (bif bif decide ((0 : Int) < b) then decide ((0 : Int) < d) else false then decide ((5 : Int) * max (1 : Int) a ≤ (12 : Int) * d) else false) = true) ∧ ((bif bif decide ((0 : Int) < b) then decide ((0 : Int) < d) else false then decide ((5 : Int) * max (1 : Int) a ≤ (12 : Int) * d) else false) = true → (bif bif decide ((0 : Int) < b) then decide ((0 : Int) < d) else false then decide ((5 : Int) * max (1 : Int) a ≤ (12 : Int) * d) else false) = true) ∧ ((bif bif decide ((0 : Int) < b) then decide ((0 : Int) < d) else false then decide ((5 : Int) * max (1 : Int) a ≤ (12 : Int) * d) else false) = true → R64 ((5 : Int) * max (1 : Int) c)) ∧ ((bif bif decide ((0 : Int) < b) then decide ((0 : Int) < d) else false then decide ((5 : Int) * max (1 : Int) a ≤ (12 : Int) * d) else false) = true → (bif bif decide ((0 : Int) < b) then decide ((0 : Int) < d) else false then decide ((5 : Int) * max (1 : Int) a ≤ (12 : Int) * d) else false) = true) ∧ ((bif bif decide ((0 : Int) < b) then decide ((0 : Int) < d) else false then decide ((5 : Int) * max (1 : Int) a ≤ (12 : Int) * d) else false) = true → (bif bif decide ((0 : Int) < b) then decide ((0 : Int) < d) else false then decide ((5 : Int) * max (1 : Int) a ≤ (12 : Int) * d) else false) = true) ∧ ((bif bif decide ((0 : Int) < b) then decide ((0 : Int) < d) else false then decide ((5 : Int) * max (1 : Int) a ≤ (12 : Int) * d) else false) = true → (bif bif decide ((0 : Int) < b) then decide ((0 : Int) < d) else false then decide ((5 : Int) * max (1 : Int) a ≤ (12 : Int) * d) else false) = true) ∧ (bif bif bif decide ((0 : Int) < b) then decide ((0 : Int) < d) else false then decide ((5 : Int) * max (1 : Int) a ≤ (12 : Int) * d) else false then decide ((5 : Int) * max (1 : Int) c ≤ (12 : Int) * b) else false) = M.aslant a b c d) := by kernel_rfl
theorem br103 (a b c d : Int) (hp : (M.Sm a) ∧ (M.Sm b) ∧ (M.Sm c) ∧ (M.Sm d) ∧ AllP []) : (decide ((0 : Int) < b) = true → decide ((0 : Int) < b) = true) ∧ (decide ((0 : Int) < b) = true → decide ((0 : Int) < b) = true) ∧ (decide ((0 : Int) < b) = true → decide ((0 : Int) < b) = true) ∧ ((bif decide ((0 : Int) < b) then decide ((0 : Int) < d) else false) = true → (bif decide ((0 : Int) < b) then decide ((0 : Int) < d) else false) = true) ∧ ((bif decide ((0 : Int) < b) then decide ((0 : Int) < d) else false) = true → (bif decide ((0 : Int) < b) then decide ((0 : Int) < d) else false) = true) ∧ ((bif decide ((0 : Int) < b) then decide ((0 : Int) < d) else false) = true → R64 ((12 : Int) * d)) ∧ ((bif decide ((0 : Int) < b) then decide ((0 : Int) < d) else false) = true → (bif decide ((0 : Int) < b) then decide ((0 : Int) < d) else false) = true) ∧ ((bif decide ((0 : Int) < b) then decide ((0 : Int) < d) else false) = true → (bif decide ((0 : Int) < b) then decide ((0 : Int) < d) else false) = true) ∧ ((bif decide ((0 : Int) < b) then decide ((0 : Int) < d) else false) = true → (bif decide ((0 : Int) < b) then decide ((0 : Int) < d) else false) = true) ∧ ((bif decide ((0 : Int) < b) then decide ((0 : Int) < d) else false) = true → R64 ((5 : Int) * max (1 : Int) a)) ∧ ((bif decide ((0 : Int) < b) then decide ((0 : Int) < d) else false) = true → (bif decide ((0 : Int) < b) then decide ((0 : Int) < d) else false) = true) ∧ ((bif decide ((0 : Int) < b) then decide ((0 : Int) < d) else false) = true → (bif decide ((0 : Int) < b) then decide ((0 : Int) < d) else false) = true) ∧ ((bif decide ((0 : Int) < b) then decide ((0 : Int) < d) else false) = true → (bif decide ((0 : Int) < b) then decide ((0 : Int) < d) else false) = true) ∧ ((bif bif decide ((0 : Int) < b) then decide ((0 : Int) < d) else false then decide ((5 : Int) * max (1 : Int) a ≤ (12 : Int) * d) else false) = true → (bif bif decide ((0 : Int) < b) then decide ((0 : Int) < d) else false then decide ((5 : Int) * max (1 : Int) a ≤ (12 : Int) * d) else false) = true) ∧ ((bif bif decide ((0 : Int) < b) then decide ((0 : Int) < d) else false then decide ((5 : Int) * max (1 : Int) a ≤ (12 : Int) * d) else false) = true → (bif bif decide ((0 : Int) < b) then decide ((0 : Int) < d) else false then decide ((5 : Int) * max (1 : Int) a ≤ (12 : Int) * d) else false) = true) ∧ ((bif bif decide ((0 : Int) < b) then decide ((0 : Int) < d) else false then decide ((5 : Int) * max (1 : Int) a ≤ (12 : Int) * d) else false) = true → R64 ((12 : Int) * b)) ∧ ((bif bif decide ((0 : Int) < b) then decide ((0 : Int) < d) else false then decide ((5 : Int) * max (1 : Int) a ≤ (12 : Int) * d) else false) = true → (bif bif decide ((0 : Int) < b) then decide ((0 : Int) < d) else false then decide ((5 : Int) * max (1 : Int) a ≤ (12 : Int) * d) else false) = true) ∧ ((bif bif decide ((0 : Int) < b) then decide ((0 : Int) < d) else false then decide ((5 : Int) * max (1 : Int) a ≤ (12 : Int) * d) else false) = true → (bif bif decide ((0 : Int) < b) then decide ((0 : Int) < d) else false then decide ((5 : Int) * max (1 : Int) a ≤ (12 : Int) * d) else false) = true) ∧ ((bif bif decide ((0 : Int) < b) then decide ((0 : Int) < d) else false then decide ((5 : Int) * max (1 : Int) a ≤ (12 : Int) * d) else false) = true → (bif bif decide ((0 : Int) < b) then decide ((0 : Int) < d) else false then decide ((5 : Int) * max (1 : Int) a ≤ (12 : Int) * d) else false) = true) ∧ ((bif bif decide ((0 : Int) < b) then decide ((0 : Int) < d) else false then decide ((5 : Int) * max (1 : Int) a ≤ (12 : Int) * d) else false) = true → R64 ((5 : Int) * max (1 : Int) c)) ∧ ((bif bif decide ((0 : Int) < b) then decide ((0 : Int) < d) else false then decide ((5 : Int) * max (1 : Int) a ≤ (12 : Int) * d) else false) = true → (bif bif decide ((0 : Int) < b) then decide ((0 : Int) < d) else false then decide ((5 : Int) * max (1 : Int) a ≤ (12 : Int) * d) else false) = true) ∧ ((bif bif decide ((0 : Int) < b) then decide ((0 : Int) < d) else false then decide ((5 : Int) * max (1 : Int) a ≤ (12 : Int) * d) else false) = true → (bif bif decide ((0 : Int) < b) then decide ((0 : Int) < d) else false then decide ((5 : Int) * max (1 : Int) a ≤ (12 : Int) * d) else false) = true) ∧ ((bif bif decide ((0 : Int) < b) then decide ((0 : Int) < d) else false then decide ((5 : Int) * max (1 : Int) a ≤ (12 : Int) * d) else false) = true → (bif bif decide ((0 : Int) < b) then decide ((0 : Int) < d) else false then decide ((5 : Int) * max (1 : Int) a ≤ (12 : Int) * d) else false) = true) ∧ (bif bif bif decide ((0 : Int) < b) then decide ((0 : Int) < d) else false then decide ((5 : Int) * max (1 : Int) a ≤ (12 : Int) * d) else false then decide ((5 : Int) * max (1 : Int) c ≤ (12 : Int) * b) else false) = M.aslant a b c d := by
  unfold M.aslant R64
  unfold M.Sm at hp
  grind
theorem s103 : PureOK PP 103 e103 := by
  intro xs ps res h hp
  unfold e103 at h
  split at h
  · rename_i a b c d
    simp only [Option.some.injEq, Prod.mk.injEq] at h
    obtain ⟨rfl, rfl⟩ := h
    simp only [AllP.cons] at hp
    refine enter (L := [0,1,2,3,4]) (LO := []) (E := []) (O := []) (ck := true) (.nil) (.nil) (k := 103) (f := Try.f103) (xs := [.agg [SI a, SI b], .agg [SI c, SI d]]) (r := (.bool (M.aslant a b c d))) (by kernel_rfl) (by kernel_rfl) (fun _ => .nil) ?_
    exact Hold.of (r103 a b c d) (br103 a b c d hp)
  · cases h
def e50 : List SV → Option (List Prop × SV)
  | [.int .i64 n, .int .i64 a, .int .i64 b] => some ([], .bool (decide (min a b ≤ n) && decide (n ≤ max a b)))
  | _ => none
theorem r50 (n a b : Int) : V true [] [] Try.f50 [0,1,2,6] [] [SI n, SI a, SI b] (.bool (decide (min a b ≤ n) && decide (n ≤ max a b))) = ((decide (min a b ≤ n) = true → decide (min a b ≤ n) = true) ∧ (decide (min a b ≤ n) = true → decide (min a b ≤ n) = true) ∧ (decide (min a b ≤ n) = true → decide (min a b ≤ n) = true) ∧ (decide (min a b ≤ n) = true → decide (min a b ≤ n) = true) ∧ (decide (min a b ≤ n) = true → decide (min a b ≤ n) = true) ∧ (bif decide (min a b ≤ n) then decide (n ≤ max a b) else false) = (decide (min a b ≤ n) && decide (n ≤ max a b))) := by kernel_rfl
theorem br50 (n a b : Int)  : (decide (min a b ≤ n) = true → decide (min a b ≤ n) = true) ∧ (decide (min a b ≤ n) = true → decide (min a b ≤ n) = true) ∧ (decide (min a b ≤ n) = true → decide (min a b ≤ n) = true) ∧ (decide (min a b ≤ n) = true → decide (min a b ≤ n) = true) ∧ (decide (min a b ≤ n) = true → decide (min a b ≤ n) = true) ∧ (bif decide (min a b ≤ n) then decide (n ≤ max a b) else false) = (decide (min a b ≤ n) && decide (n ≤ max a b)) := by
  grind
theorem s50 : PureOK PP 50 e50 := by
  intro xs ps res h hp
  unfold e50 at h
  split at h
  · rename_i n a b
    simp only [Option.some.injEq, Prod.mk.injEq] at h
    obtain ⟨rfl, rfl⟩ := h
    clear hp
    refine enter (L := [0,1,2,6]) (LO := []) (E := []) (O := []) (ck := true) (.nil) (.nil) (k := 50) (f := Try.f50) (xs := [SI n, SI a, SI b]) (r := (.bool (decide (min a b ≤ n) && decide (n ≤ max a b)))) (by kernel_rfl) (by kernel_rfl) (fun _ => .nil) ?_
    exact Hold.of (r50 n a b) (br50 n a b )
  · cases h
end Go.Proofs.Ytkklmkogdogbkaa.Sep
