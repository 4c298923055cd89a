/-
  Contracts of Setup, Steady, Run, Centimetres, Exceeds and Fetch of the stage 'surge'. No condition. (This text proves no statement by itself.)
-/
import Derived.Test.YtkklmkogdogbkaaKMod2

namespace Go.Proofs.Ytkklmkogdogbkaa.Sep
open Go
set_option linter.unusedVariables false
set_option linter.unusedSimpArgs false
def e27 : List SV → Option (List Prop × SV)
  | [.agg [.int .i64 w, .int .i64 h, .int .i64 s, .sl 2 n g_1], .agg [.int .i64 lo, .int .i64 hi], .agg [.int .i64 dl, .int .i64 dh, .int .i64 ll, .int .i64 lh], .int .i64 c, .int .i64 d, .agg [.int .i64 v0, .int .i64 v1]] => some ([Row 2 n g_1, R64 n], .tup [.agg [SI (if M.P.setE (M.P.mk (M.W.mk w h s n (cI g_1 0) (cI g_1 1) lo hi) dl dh ll lh c) d v0 v1 = 0 then M.P.slo (M.P.mk (M.W.mk w h s n (cI g_1 0) (cI g_1 1) lo hi) dl dh ll lh c) d v0 v1 else 0), SI (if M.P.setE (M.P.mk (M.W.mk w h s n (cI g_1 0) (cI g_1 1) lo hi) dl dh ll lh c) d v0 v1 = 0 then M.P.shi (M.P.mk (M.W.mk w h s n (cI g_1 0) (cI g_1 1) lo hi) dl dh ll lh c) d v0 v1 else 0)], SI (M.P.setE (M.P.mk (M.W.mk w h s n (cI g_1 0) (cI g_1 1) lo hi) dl dh ll lh c) d v0 v1)])
  | _ => none
def Rr27 (w h s : Int) (n : Nat) (x y : Nat → Int) (lo hi dl dh ll lh c : Int) (d v0 v1 : Int) : Prop := (∀ (k : Nat), k < n → x k = x k ∧ y k = y k) ∧ R64 (↑n : Int) ∧ (decide (M.P.atE (M.P.mk (M.W.mk w h s n x y lo hi) dl dh ll lh c) = (0 : Int)) = true → decide (M.P.atE (M.P.mk (M.W.mk w h s n x y lo hi) dl dh ll lh c) = (0 : Int)) = true) ∧ (decide (M.P.atE (M.P.mk (M.W.mk w h s n x y lo hi) dl dh ll lh c) = (0 : Int)) = true → decide (M.P.atE (M.P.mk (M.W.mk w h s n x y lo hi) dl dh ll lh c) = (0 : Int)) = true) ∧ ((decide (M.P.atE (M.P.mk (M.W.mk w h s n x y lo hi) dl dh ll lh c) = (0 : Int)) && !decide (d < (0 : Int))) = true → (decide (M.P.atE (M.P.mk (M.W.mk w h s n x y lo hi) dl dh ll lh c) = (0 : Int)) && !decide (d < (0 : Int))) = true) ∧ (decide (M.P.atE (M.P.mk (M.W.mk w h s n x y lo hi) dl dh ll lh c) = (0 : Int)) = true → decide (M.P.atE (M.P.mk (M.W.mk w h s n x y lo hi) dl dh ll lh c) = (0 : Int)) = true) ∧ (decide (M.P.atE (M.P.mk (M.W.mk w h s n x y lo hi) dl dh ll lh c) = (0 : Int)) = true → decide (d < (0 : Int)) = false → (decide (M.P.atE (M.P.mk (M.W.mk w h s n x y lo hi) dl dh ll lh c) = (0 : Int)) && !decide (d < (0 : Int))) = true) ∧ (decide (M.P.atE (M.P.mk (M.W.mk w h s n x y lo hi) dl dh ll lh c) = (0 : Int)) = true → decide (M.P.atE (M.P.mk (M.W.mk w h s n x y lo hi) dl dh ll lh c) = (0 : Int)) = true) ∧ ((decide (M.P.atE (M.P.mk (M.W.mk w h s n x y lo hi) dl dh ll lh c) = (0 : Int)) && !bif decide (d < (0 : Int)) then true else decide ((7 : Int) < d)) = true → (decide (M.P.atE (M.P.mk (M.W.mk w h s n x y lo hi) dl dh ll lh c) = (0 : Int)) && !bif decide (d < (0 : Int)) then true else decide ((7 : Int) < d)) = true) ∧ ((decide (M.P.atE (M.P.mk (M.W.mk w h s n x y lo hi) dl dh ll lh c) = (0 : Int)) && !bif decide (d < (0 : Int)) then true else decide ((7 : Int) < d)) = true → (decide (M.P.atE (M.P.mk (M.W.mk w h s n x y lo hi) dl dh ll lh c) = (0 : Int)) && !bif decide (d < (0 : Int)) then true else decide ((7 : Int) < d)) = true) ∧ ((decide (M.P.atE (M.P.mk (M.W.mk w h s n x y lo hi) dl dh ll lh c) = (0 : Int)) && !bif decide (d < (0 : Int)) then true else decide ((7 : Int) < d)) = true → (decide (M.P.atE (M.P.mk (M.W.mk w h s n x y lo hi) dl dh ll lh c) = (0 : Int)) && !bif decide (d < (0 : Int)) then true else decide ((7 : Int) < d)) = true) ∧ (decide (M.P.atE (M.P.mk (M.W.mk w h s n x y lo hi) dl dh ll lh c) = (0 : Int)) = true → decide (M.P.atE (M.P.mk (M.W.mk w h s n x y lo hi) dl dh ll lh c) = (0 : Int)) = true) ∧ (decide (M.P.atE (M.P.mk (M.W.mk w h s n x y lo hi) dl dh ll lh c) = (0 : Int)) = true → (bif decide (d < (0 : Int)) then true else decide ((7 : Int) < d)) = false → (decide (M.P.atE (M.P.mk (M.W.mk w h s n x y lo hi) dl dh ll lh c) = (0 : Int)) && !bif decide (d < (0 : Int)) then true else decide ((7 : Int) < d)) = true) ∧ (decide (M.P.atE (M.P.mk (M.W.mk w h s n x y lo hi) dl dh ll lh c) = (0 : Int)) = true → decide (M.P.atE (M.P.mk (M.W.mk w h s n x y lo hi) dl dh ll lh c) = (0 : Int)) = true) ∧ ((bif decide (M.P.atE (M.P.mk (M.W.mk w h s n x y lo hi) dl dh ll lh c) = (0 : Int)) then bif bif decide (d < (0 : Int)) then true else decide ((7 : Int) < d) then true else !M.within v0 v1 (0 : Int) (10000 : Int) else false) = true → ((!decide ((3 : Int) = (0 : Int))) = true → (((0 : Int) = if M.P.setE (M.P.mk (M.W.mk w h s n x y lo hi) dl dh ll lh c) d v0 v1 = (0 : Int) then M.P.slo (M.P.mk (M.W.mk w h s n x y lo hi) dl dh ll lh c) d v0 v1 else (0 : Int)) ∧ (0 : Int) = if M.P.setE (M.P.mk (M.W.mk w h s n x y lo hi) dl dh ll lh c) d v0 v1 = (0 : Int) then M.P.shi (M.P.mk (M.W.mk w h s n x y lo hi) dl dh ll lh c) d v0 v1 else (0 : Int)) ∧ (3 : Int) = M.P.setE (M.P.mk (M.W.mk w h s n x y lo hi) dl dh ll lh c) d v0 v1) ∧ ((!decide ((3 : Int) = (0 : Int))) = false → (∀ (k : Nat), k < n → x k = x k ∧ y k = y k) ∧ M.P.ok (M.P.mk (M.W.mk w h s n x y lo hi) dl dh ll lh c) ∧ (0 : Int) ≤ d ∧ d ≤ (7 : Int) ∧ (0 : Int) ≤ v0 ∧ v0 ≤ v1 ∧ v1 ≤ (10000 : Int) ∧ ((M.P.slo (M.P.mk (M.W.mk w h s n x y lo hi) dl dh ll lh c) d v0 v1 = if M.P.setE (M.P.mk (M.W.mk w h s n x y lo hi) dl dh ll lh c) d v0 v1 = (0 : Int) then M.P.slo (M.P.mk (M.W.mk w h s n x y lo hi) dl dh ll lh c) d v0 v1 else (0 : Int)) ∧ M.P.shi (M.P.mk (M.W.mk w h s n x y lo hi) dl dh ll lh c) d v0 v1 = if M.P.setE (M.P.mk (M.W.mk w h s n x y lo hi) dl dh ll lh c) d v0 v1 = (0 : Int) then M.P.shi (M.P.mk (M.W.mk w h s n x y lo hi) dl dh ll lh c) d v0 v1 else (0 : Int)) ∧ (0 : Int) = M.P.setE (M.P.mk (M.W.mk w h s n x y lo hi) dl dh ll lh c) d v0 v1)) ∧ ((bif decide (M.P.atE (M.P.mk (M.W.mk w h s n x y lo hi) dl dh ll lh c) = (0 : Int)) then bif bif decide (d < (0 : Int)) then true else decide ((7 : Int) < d) then true else !M.within v0 v1 (0 : Int) (10000 : Int) else false) = false → ((!decide (M.P.atE (M.P.mk (M.W.mk w h s n x y lo hi) dl dh ll lh c) = (0 : Int))) = true → (((0 : Int) = if M.P.setE (M.P.mk (M.W.mk w h s n x y lo hi) dl dh ll lh c) d v0 v1 = (0 : Int) then M.P.slo (M.P.mk (M.W.mk w h s n x y lo hi) dl dh ll lh c) d v0 v1 else (0 : Int)) ∧ (0 : Int) = if M.P.setE (M.P.mk (M.W.mk w h s n x y lo hi) dl dh ll lh c) d v0 v1 = (0 : Int) then M.P.shi (M.P.mk (M.W.mk w h s n x y lo hi) dl dh ll lh c) d v0 v1 else (0 : Int)) ∧ M.P.atE (M.P.mk (M.W.mk w h s n x y lo hi) dl dh ll lh c) = M.P.setE (M.P.mk (M.W.mk w h s n x y lo hi) dl dh ll lh c) d v0 v1) ∧ ((!decide (M.P.atE (M.P.mk (M.W.mk w h s n x y lo hi) dl dh ll lh c) = (0 : Int))) = false → (∀ (k : Nat), k < n → x k = x k ∧ y k = y k) ∧ M.P.ok (M.P.mk (M.W.mk w h s n x y lo hi) dl dh ll lh c) ∧ (0 : Int) ≤ d ∧ d ≤ (7 : Int) ∧ (0 : Int) ≤ v0 ∧ v0 ≤ v1 ∧ v1 ≤ (10000 : Int) ∧ ((M.P.slo (M.P.mk (M.W.mk w h s n x y lo hi) dl dh ll lh c) d v0 v1 = if M.P.setE (M.P.mk (M.W.mk w h s n x y lo hi) dl dh ll lh c) d v0 v1 = (0 : Int) then M.P.slo (M.P.mk (M.W.mk w h s n x y lo hi) dl dh ll lh c) d v0 v1 else (0 : Int)) ∧ M.P.shi (M.P.mk (M.W.mk w h s n x y lo hi) dl dh ll lh c) d v0 v1 = if M.P.setE (M.P.mk (M.W.mk w h s n x y lo hi) dl dh ll lh c) d v0 v1 = (0 : Int) then M.P.shi (M.P.mk (M.W.mk w h s n x y lo hi) dl dh ll lh c) d v0 v1 else (0 : Int)) ∧ (0 : Int) = M.P.setE (M.P.mk (M.W.mk w h s n x y lo hi) dl dh ll lh c) d v0 v1))
theorem r27 (w h s : Int) (n : Nat) (x y : Nat → Int) (lo hi dl dh ll lh c : Int) (d v0 v1 : Int) : V true [] [(80, pureE e80), (69, pureE e69), (81, pureE e81)] Try.f27 [0,1,2,3,4,5,6,7,8,11,12,13,14,15,39,41] [] [.agg [SI w, SI h, SI s, .sl 2 n (fun k => [SI (x k), SI (y k)])], .agg [SI lo, SI hi], .agg [SI dl, SI dh, SI ll, SI lh], SI c, SI d, .agg [SI v0, SI v1]] (.tup [.agg [SI (if M.P.setE (M.P.mk (M.W.mk w h s n x y lo hi) dl dh ll lh c) d v0 v1 = 0 then M.P.slo (M.P.mk (M.W.mk w h s n x y lo hi) dl dh ll lh c) d v0 v1 else 0), SI (if M.P.setE (M.P.mk (M.W.mk w h s n x y lo hi) dl dh ll lh c) d v0 v1 = 0 then M.P.shi (M.P.mk (M.W.mk w h s n x y lo hi) dl dh ll lh c) d v0 v1 else 0)], SI (M.P.setE (M.P.mk (M.W.mk w h s n x y lo hi) dl dh ll lh c) d v0 v1)]) = Rr27 w h s n x y lo hi dl dh ll lh c d v0 v1 := by kernel_rfl
theorem br27 (w h s : Int) (n : Nat) (x y : Nat → Int) (lo hi dl dh ll lh c : Int) (d v0 v1 : Int) (hp : (R64 n) ∧ AllP []) : Rr27 w h s n x y lo hi dl dh ll lh c d v0 v1 := by
  unfold Rr27
  have hn := hp.1
  have h0 := (@M.P.atE_iff (M.P.mk (M.W.mk w h s n x y lo hi) dl dh ll lh c)).1
  unfold M.P.setE M.within
  generalize M.P.atE (M.P.mk (M.W.mk w h s n x y lo hi) dl dh ll lh c) = e at *
  generalize M.P.slo (M.P.mk (M.W.mk w h s n x y lo hi) dl dh ll lh c) d v0 v1 = e1 at *
  generalize M.P.shi (M.P.mk (M.W.mk w h s n x y lo hi) dl dh ll lh c) d v0 v1 = e2 at *
  generalize M.P.ok (M.P.mk (M.W.mk w h s n x y lo hi) dl dh ll lh c) = OK at *
  clear hp
  by_cases he : e = 0
  · have hok := h0 he
    subst he
    by_cases h1 : d < 0 <;> by_cases h2 : 7 < d <;> by_cases h3 : v0 ≤ v1 <;> by_cases h4 : 0 ≤ v0 <;> by_cases h5 : v1 ≤ 10000 <;> simp [h1, h2, h3, h4, h5, hn, hok] <;> omega
  · simp [he, hn]
theorem s27 : PureOK PP 27 e27 := by
  intro xs ps res h hp
  unfold e27 at h
  split at h
  · rename_i w h s n g_1 lo hi dl dh ll lh c d v0 v1
    simp only [Option.some.injEq, Prod.mk.injEq] at h
    obtain ⟨rfl, rfl⟩ := h
    simp only [AllP.cons] at hp
    obtain ⟨Hg_1, hp⟩ := hp
    refine Spec.args (ys := [.agg [SI w, SI h, SI s, .sl 2 n (fun k => [SI ((cI g_1 0) k), SI ((cI g_1 1) k)])], .agg [SI lo, SI hi], .agg [SI dl, SI dh, SI ll, SI lh], SI c, SI d, .agg [SI v0, SI v1]]) ?_ (.cons (.agg (.cons (.refl _) (.cons (.refl _) (.cons (.refl _) (.cons (.row Hg_1 fun _ => rfl) .nil))))) (.cons (.refl _) (.cons (.refl _) (.cons (.refl _) (.cons (.refl _) (.cons (.refl _) .nil))))))
    refine enter (L := [0,1,2,3,4,5,6,7,8,11,12,13,14,15,39,41]) (LO := []) (E := []) (O := [(80, pureE e80), (69, pureE e69), (81, pureE e81)]) (ck := true) (.nil) (.cons (pureE_ok s80) (.cons (pureE_ok s69) (.cons (pureE_ok s81) (.nil)))) (k := 27) (f := Try.f27) (xs := [.agg [SI w, SI h, SI s, .sl 2 n (fun k => [SI ((cI g_1 0) k), SI ((cI g_1 1) k)])], .agg [SI lo, SI hi], .agg [SI dl, SI dh, SI ll, SI lh], SI c, SI d, .agg [SI v0, SI v1]]) (r := (.tup [.agg [SI (if M.P.setE (M.P.mk (M.W.mk w h s n (cI g_1 0) (cI g_1 1) lo hi) dl dh ll lh c) d v0 v1 = 0 then M.P.slo (M.P.mk (M.W.mk w h s n (cI g_1 0) (cI g_1 1) lo hi) dl dh ll lh c) d v0 v1 else 0), SI (if M.P.setE (M.P.mk (M.W.mk w h s n (cI g_1 0) (cI g_1 1) lo hi) dl dh ll lh c) d v0 v1 = 0 then M.P.shi (M.P.mk (M.W.mk w h s n (cI g_1 0) (cI g_1 1) lo hi) dl dh ll lh c) d v0 v1 else 0)], SI (M.P.setE (M.P.mk (M.W.mk w h s n (cI g_1 0) (cI g_1 1) lo hi) dl dh ll lh c) d v0 v1)])) (by kernel_rfl) (by kernel_rfl) (fun _ => .nil) ?_
    exact Hold.of (r27 w h s n (cI g_1 0) (cI g_1 1) lo hi dl dh ll lh c d v0 v1) (br27 w h s n (cI g_1 0) (cI g_1 1) lo hi dl dh ll lh c d v0 v1 hp)
  · cases h
def e30 : List SV → Option (List Prop × SV)
  | [.agg [.int .i64 w, .int .i64 h, .int .i64 s, .sl 2 n g_1], .agg [.int .i64 lo, .int .i64 hi], .agg [.int .i64 dl, .int .i64 dh, .int .i64 ll, .int .i64 lh], .int .i64 c, .agg [.int .i64 v0, .int .i64 v1, .int .i64 m, .int .i64 q0, .int .i64 q1]] => some ([Row 2 n g_1, R64 n], .tup [.agg [SI (if M.P.steadyE (M.P.mk (M.W.mk w h s n (cI g_1 0) (cI g_1 1) lo hi) dl dh ll lh c) v0 v1 m q0 q1 = 0 then M.P.stLo (M.P.mk (M.W.mk w h s n (cI g_1 0) (cI g_1 1) lo hi) dl dh ll lh c) v0 v1 m q0 else 0), SI (if M.P.steadyE (M.P.mk (M.W.mk w h s n (cI g_1 0) (cI g_1 1) lo hi) dl dh ll lh c) v0 v1 m q0 q1 = 0 then M.P.stHi (M.P.mk (M.W.mk w h s n (cI g_1 0) (cI g_1 1) lo hi) dl dh ll lh c) v0 v1 m q1 else 0)], SI (M.P.steadyE (M.P.mk (M.W.mk w h s n (cI g_1 0) (cI g_1 1) lo hi) dl dh ll lh c) v0 v1 m q0 q1)])
  | _ => none
def Rr30 (w h s : Int) (n : Nat) (x y : Nat → Int) (lo hi dl dh ll lh c : Int) (v0 v1 m q0 q1 : Int) : Prop := (∀ (k : Nat), k < n → x k = x k ∧ y k = y k) ∧ R64 (↑n : Int) ∧ (decide (M.P.atE (M.P.mk (M.W.mk w h s n x y lo hi) dl dh ll lh c) = (0 : Int)) = true → ((!decide ((if M.wind v0 v1 m q0 q1 = true then (0 : Int) else (3 : Int)) = (0 : Int))) = true → (((0 : Int) = if M.P.steadyE (M.P.mk (M.W.mk w h s n x y lo hi) dl dh ll lh c) v0 v1 m q0 q1 = (0 : Int) then M.P.stLo (M.P.mk (M.W.mk w h s n x y lo hi) dl dh ll lh c) v0 v1 m q0 else (0 : Int)) ∧ (0 : Int) = if M.P.steadyE (M.P.mk (M.W.mk w h s n x y lo hi) dl dh ll lh c) v0 v1 m q0 q1 = (0 : Int) then M.P.stHi (M.P.mk (M.W.mk w h s n x y lo hi) dl dh ll lh c) v0 v1 m q1 else (0 : Int)) ∧ (if M.wind v0 v1 m q0 q1 = true then (0 : Int) else (3 : Int)) = M.P.steadyE (M.P.mk (M.W.mk w h s n x y lo hi) dl dh ll lh c) v0 v1 m q0 q1) ∧ ((!decide ((if M.wind v0 v1 m q0 q1 = true then (0 : Int) else (3 : Int)) = (0 : Int))) = false → (∀ (k : Nat), k < n → x k = x k ∧ y k = y k) ∧ M.P.ok (M.P.mk (M.W.mk w h s n x y lo hi) dl dh ll lh c) ∧ M.WindOk v0 v1 m q0 q1 ∧ ((M.P.stLo (M.P.mk (M.W.mk w h s n x y lo hi) dl dh ll lh c) v0 v1 m q0 = if M.P.steadyE (M.P.mk (M.W.mk w h s n x y lo hi) dl dh ll lh c) v0 v1 m q0 q1 = (0 : Int) then M.P.stLo (M.P.mk (M.W.mk w h s n x y lo hi) dl dh ll lh c) v0 v1 m q0 else (0 : Int)) ∧ M.P.stHi (M.P.mk (M.W.mk w h s n x y lo hi) dl dh ll lh c) v0 v1 m q1 = if M.P.steadyE (M.P.mk (M.W.mk w h s n x y lo hi) dl dh ll lh c) v0 v1 m q0 q1 = (0 : Int) then M.P.stHi (M.P.mk (M.W.mk w h s n x y lo hi) dl dh ll lh c) v0 v1 m q1 else (0 : Int)) ∧ (0 : Int) = M.P.steadyE (M.P.mk (M.W.mk w h s n x y lo hi) dl dh ll lh c) v0 v1 m q0 q1)) ∧ (decide (M.P.atE (M.P.mk (M.W.mk w h s n x y lo hi) dl dh ll lh c) = (0 : Int)) = false → ((!decide (M.P.atE (M.P.mk (M.W.mk w h s n x y lo hi) dl dh ll lh c) = (0 : Int))) = true → (((0 : Int) = if M.P.steadyE (M.P.mk (M.W.mk w h s n x y lo hi) dl dh ll lh c) v0 v1 m q0 q1 = (0 : Int) then M.P.stLo (M.P.mk (M.W.mk w h s n x y lo hi) dl dh ll lh c) v0 v1 m q0 else (0 : Int)) ∧ (0 : Int) = if M.P.steadyE (M.P.mk (M.W.mk w h s n x y lo hi) dl dh ll lh c) v0 v1 m q0 q1 = (0 : Int) then M.P.stHi (M.P.mk (M.W.mk w h s n x y lo hi) dl dh ll lh c) v0 v1 m q1 else (0 : Int)) ∧ M.P.atE (M.P.mk (M.W.mk w h s n x y lo hi) dl dh ll lh c) = M.P.steadyE (M.P.mk (M.W.mk w h s n x y lo hi) dl dh ll lh c) v0 v1 m q0 q1) ∧ ((!decide (M.P.atE (M.P.mk (M.W.mk w h s n x y lo hi) dl dh ll lh c) = (0 : Int))) = false → (∀ (k : Nat), k < n → x k = x k ∧ y k = y k) ∧ M.P.ok (M.P.mk (M.W.mk w h s n x y lo hi) dl dh ll lh c) ∧ M.WindOk v0 v1 m q0 q1 ∧ ((M.P.stLo (M.P.mk (M.W.mk w h s n x y lo hi) dl dh ll lh c) v0 v1 m q0 = if M.P.steadyE (M.P.mk (M.W.mk w h s n x y lo hi) dl dh ll lh c) v0 v1 m q0 q1 = (0 : Int) then M.P.stLo (M.P.mk (M.W.mk w h s n x y lo hi) dl dh ll lh c) v0 v1 m q0 else (0 : Int)) ∧ M.P.stHi (M.P.mk (M.W.mk w h s n x y lo hi) dl dh ll lh c) v0 v1 m q1 = if M.P.steadyE (M.P.mk (M.W.mk w h s n x y lo hi) dl dh ll lh c) v0 v1 m q0 q1 = (0 : Int) then M.P.stHi (M.P.mk (M.W.mk w h s n x y lo hi) dl dh ll lh c) v0 v1 m q1 else (0 : Int)) ∧ (0 : Int) = M.P.steadyE (M.P.mk (M.W.mk w h s n x y lo hi) dl dh ll lh c) v0 v1 m q0 q1))
theorem r30 (w h s : Int) (n : Nat) (x y : Nat → Int) (lo hi dl dh ll lh c : Int) (v0 v1 m q0 q1 : Int) : V true [] [(80, pureE e80), (18, pureE e18), (84, pureE e84)] Try.f30 [0,1,2,3,4,5,6,7,9,10,11,12,13,23,27] [] [.agg [SI w, SI h, SI s, .sl 2 n (fun k => [SI (x k), SI (y k)])], .agg [SI lo, SI hi], .agg [SI dl, SI dh, SI ll, SI lh], SI c, .agg [SI v0, SI v1, SI m, SI q0, SI q1]] (.tup [.agg [SI (if M.P.steadyE (M.P.mk (M.W.mk w h s n x y lo hi) dl dh ll lh c) v0 v1 m q0 q1 = 0 then M.P.stLo (M.P.mk (M.W.mk w h s n x y lo hi) dl dh ll lh c) v0 v1 m q0 else 0), SI (if M.P.steadyE (M.P.mk (M.W.mk w h s n x y lo hi) dl dh ll lh c) v0 v1 m q0 q1 = 0 then M.P.stHi (M.P.mk (M.W.mk w h s n x y lo hi) dl dh ll lh c) v0 v1 m q1 else 0)], SI (M.P.steadyE (M.P.mk (M.W.mk w h s n x y lo hi) dl dh ll lh c) v0 v1 m q0 q1)]) = Rr30 w h s n x y lo hi dl dh ll lh c v0 v1 m q0 q1 := by kernel_rfl
theorem br30 (w h s : Int) (n : Nat) (x y : Nat → Int) (lo hi dl dh ll lh c : Int) (v0 v1 m q0 q1 : Int) (hp : (R64 n) ∧ AllP []) : Rr30 w h s n x y lo hi dl dh ll lh c v0 v1 m q0 q1 := by
  unfold Rr30
  have hn := hp.1
  have h0 := (@M.P.atE_iff (M.P.mk (M.W.mk w h s n x y lo hi) dl dh ll lh c)).1
  have hw := (@M.wind_iff v0 v1 m q0 q1).1
  unfold M.P.steadyE
  generalize M.P.atE (M.P.mk (M.W.mk w h s n x y lo hi) dl dh ll lh c) = e at *
  generalize M.P.stLo (M.P.mk (M.W.mk w h s n x y lo hi) dl dh ll lh c) v0 v1 m q0 = e1 at *
  generalize M.P.stHi (M.P.mk (M.W.mk w h s n x y lo hi) dl dh ll lh c) v0 v1 m q1 = e2 at *
  generalize M.P.ok (M.P.mk (M.W.mk w h s n x y lo hi) dl dh ll lh c) = OK at *
  generalize M.wind v0 v1 m q0 q1 = b at *
  generalize M.WindOk v0 v1 m q0 q1 = WO at *
  clear hp
  by_cases he : e = 0
  · have hok := h0 he
    subst he
    cases b
    · simp [hn, hok]
    · have := hw rfl
      simp [hn, hok, this]
  · simp [he, hn]
theorem s30 : PureOK PP 30 e30 := by
  intro xs ps res h hp
  unfold e30 at h
  split at h
  · rename_i w h s n g_1 lo hi dl dh ll lh c v0 v1 m q0 q1
    simp only [Option.some.injEq, Prod.mk.injEq] at h
    obtain ⟨rfl, rfl⟩ := h
    simp only [AllP.cons] at hp
    obtain ⟨Hg_1, hp⟩ := hp
    refine Spec.args (ys := [.agg [SI w, SI h, SI s, .sl 2 n (fun k => [SI ((cI g_1 0) k), SI ((cI g_1 1) k)])], .agg [SI lo, SI hi], .agg [SI dl, SI dh, SI ll, SI lh], SI c, .agg [SI v0, SI v1, SI m, SI q0, SI q1]]) ?_ (.cons (.agg (.cons (.refl _) (.cons (.refl _) (.cons (.refl _) (.cons (.row Hg_1 fun _ => rfl) .nil))))) (.cons (.refl _) (.cons (.refl _) (.cons (.refl _) (.cons (.refl _) .nil)))))
    refine enter (L := [0,1,2,3,4,5,6,7,9,10,11,12,13,23,27]) (LO := []) (E := []) (O := [(80, pureE e80), (18, pureE e18), (84, pureE e84)]) (ck := true) (.nil) (.cons (pureE_ok s80) (.cons (pureE_ok s18) (.cons (pureE_ok s84) (.nil)))) (k := 30) (f := Try.f30) (xs := [.agg [SI w, SI h, SI s, .sl 2 n (fun k => [SI ((cI g_1 0) k), SI ((cI g_1 1) k)])], .agg [SI lo, SI hi], .agg [SI dl, SI dh, SI ll, SI lh], SI c, .agg [SI v0, SI v1, SI m, SI q0, SI q1]]) (r := (.tup [.agg [SI (if M.P.steadyE (M.P.mk (M.W.mk w h s n (cI g_1 0) (cI g_1 1) lo hi) dl dh ll lh c) v0 v1 m q0 q1 = 0 then M.P.stLo (M.P.mk (M.W.mk w h s n (cI g_1 0) (cI g_1 1) lo hi) dl dh ll lh c) v0 v1 m q0 else 0), SI (if M.P.steadyE (M.P.mk (M.W.mk w h s n (cI g_1 0) (cI g_1 1) lo hi) dl dh ll lh c) v0 v1 m q0 q1 = 0 then M.P.stHi (M.P.mk (M.W.mk w h s n (cI g_1 0) (cI g_1 1) lo hi) dl dh ll lh c) v0 v1 m q1 else 0)], SI (M.P.steadyE (M.P.mk (M.W.mk w h s n (cI g_1 0) (cI g_1 1) lo hi) dl dh ll lh c) v0 v1 m q0 q1)])) (by kernel_rfl) (by kernel_rfl) (fun _ => .nil) ?_
    exact Hold.of (r30 w h s n (cI g_1 0) (cI g_1 1) lo hi dl dh ll lh c v0 v1 m q0 q1) (br30 w h s n (cI g_1 0) (cI g_1 1) lo hi dl dh ll lh c v0 v1 m q0 q1 hp)
  · cases h
def e37 : List SV → Option (List Prop × SV)
  | [.agg [.int .i64 a, .int .i64 b]] => some ([R64 a, R64 b], .tup [.agg [SI (if b < a then 0 else a / 256), SI (if b < a then 0 else -(-b / 256))], SI (if b < a then 3 else 0)])
  | _ => none
def Rr37 (a b : Int) : Prop := (decide (b < a) = true → (((0 : Int) = if b < a then (0 : Int) else a / (256 : Int)) ∧ (0 : Int) = if b < a then (0 : Int) else -(-b / (256 : Int))) ∧ (3 : Int) = if b < a then (3 : Int) else (0 : Int)) ∧ (decide (b < a) = false → (0 : Int) ≤ (8 : Int) ∧ ((!decide (IntKind.wrap IntKind.i64 (↑(BitVec.toNat (BitVec.ofInt (IntKind.bits IntKind.i64) b &&& BitVec.ofInt (IntKind.bits IntKind.i64) (255 : Int))) : Int) = (0 : Int))) = true → R64 (Int.fdiv b ((2 : Int) ^ min (Int.toNat (8 : Int)) (IntKind.bits IntKind.i64)) + (1 : Int)) ∧ (0 : Int) ≤ (8 : Int) ∧ ((Int.fdiv a ((2 : Int) ^ min (Int.toNat (8 : Int)) (IntKind.bits IntKind.i64)) = if b < a then (0 : Int) else a / (256 : Int)) ∧ Int.fdiv b ((2 : Int) ^ min (Int.toNat (8 : Int)) (IntKind.bits IntKind.i64)) + (1 : Int) = if b < a then (0 : Int) else -(-b / (256 : Int))) ∧ (0 : Int) = if b < a then (3 : Int) else (0 : Int)) ∧ ((!decide (IntKind.wrap IntKind.i64 (↑(BitVec.toNat (BitVec.ofInt (IntKind.bits IntKind.i64) b &&& BitVec.ofInt (IntKind.bits IntKind.i64) (255 : Int))) : Int) = (0 : Int))) = false → (0 : Int) ≤ (8 : Int) ∧ ((Int.fdiv a ((2 : Int) ^ min (Int.toNat (8 : Int)) (IntKind.bits IntKind.i64)) = if b < a then (0 : Int) else a / (256 : Int)) ∧ Int.fdiv b ((2 : Int) ^ min (Int.toNat (8 : Int)) (IntKind.bits IntKind.i64)) = if b < a then (0 : Int) else -(-b / (256 : Int))) ∧ (0 : Int) = if b < a then (3 : Int) else (0 : Int)))
theorem r37 (a b : Int) : V true [] [] Try.f37 [0,1,2,3,4,9,17] [] [.agg [SI a, SI b]] (.tup [.agg [SI (if b < a then 0 else a / 256), SI (if b < a then 0 else -(-b / 256))], SI (if b < a then 3 else 0)]) = Rr37 a b := by kernel_rfl
theorem br37 (a b : Int) (hp : (R64 a) ∧ (R64 b) ∧ AllP []) : Rr37 a b := by
  unfold Rr37
  have e := and_mask b 8 (by omega)
  have e' : IntKind.wrap IntKind.i64 ((BitVec.toNat (BitVec.ofInt (IntKind.bits IntKind.i64) b &&& BitVec.ofInt (IntKind.bits IntKind.i64) 255)) : Int) = b % 256 := e
  rw [e']
  obtain ⟨h1, h2, -⟩ := hp
  have f1 : ∀ z : Int, z.fdiv (2 ^ min (Int.toNat 8) (IntKind.bits .i64)) = z / 256 := fun z => Int.fdiv_eq_ediv_of_nonneg z (by decide)
  simp only [f1]
  unfold R64 at *
  by_cases h : b < a
  · simp [h]
  · by_cases h3 : b % 256 = 0 <;> simp [h, h3] <;> omega
theorem s37 : PureOK PP 37 e37 := by
  intro xs ps res h hp
  unfold e37 at h
  split at h
  · rename_i a b
    simp only [Option.some.injEq, Prod.mk.injEq] at h
    obtain ⟨rfl, rfl⟩ := h
    simp only [AllP.cons] at hp
    refine enter (L := [0,1,2,3,4,9,17]) (LO := []) (E := []) (O := []) (ck := true) (.nil) (.nil) (k := 37) (f := Try.f37) (xs := [.agg [SI a, SI b]]) (r := (.tup [.agg [SI (if b < a then 0 else a / 256), SI (if b < a then 0 else -(-b / 256))], SI (if b < a then 3 else 0)])) (by kernel_rfl) (by kernel_rfl) (fun _ => .nil) ?_
    exact Hold.of (r37 a b) (br37 a b hp)
  · cases h
def lp32a (w h s : Int) (n : Nat) (x y : Nat → Int) (lo hi dl dh ll lh c : Int) (a b : Int) (m : Nat) (V0 V1 B Q0 Q1 : Nat → Int) : LoopS where
  ι := Nat
  β := Unit
  pre k := (k ≤ m ∧ R64 m) ∧ ∀ j, j < k → M.Ws.okW (M.Ws.mk m V0 V1 B Q0 Q1) j = true
  μ k := m - k
  next k _ _ _ := k + 1
  out _ := ()
  early _ := !M.allB (M.Ws.okW (M.Ws.mk m V0 V1 B Q0 Q1)) m
  SA k := [(5, .sl 5 m (fun k => [SI (V0 k), SI (V1 k), SI (B k), SI (Q0 k), SI (Q1 k)])), (8, .ptr 0 0), (10, .ptr 1 0), (14, .ptr 2 0), (44, .sl 5 m (fun k => [SI (V0 k), SI (V1 k), SI (B k), SI (Q0 k), SI (Q1 k)])), (45, SI m), (46, SI k)]
  SH _ := [(0, .cells [SI dl, SI dh, SI ll, SI lh]), (1, .cells [SI a, SI b]), (2, .cells [SI w, SI h, SI s, .sl 2 n (fun k => [SI (x k), SI (y k)]), SI lo, SI hi, SI dl, SI dh, SI ll, SI lh, SI c])]
  n0 := 3
  NA _ := [(5, .sl 5 m (fun k => [SI (V0 k), SI (V1 k), SI (B k), SI (Q0 k), SI (Q1 k)])), (8, .ptr 0 0), (10, .ptr 1 0), (14, .ptr 2 0)]
  NH _ := [(0, .cells [SI dl, SI dh, SI ll, SI lh]), (1, .cells [SI a, SI b]), (2, .cells [SI w, SI h, SI s, .sl 2 n (fun k => [SI (x k), SI (y k)]), SI lo, SI hi, SI dl, SI dh, SI ll, SI lh, SI c])]
  n1 := 3
  RA _ := [(12, .lit (.slice none 0 0)), (13, SI 3)]
  RH _ := []
def Rq32a (w h s : Int) (n : Nat) (x y : Nat → Int) (lo hi dl dh ll lh c : Int) (a b : Int) (m : Nat) (V0 V1 B Q0 Q1 : Nat → Int) (k : Nat) : Prop := (decide ((↑k : Int) < (↑m : Int)) = true → (0 : Int) ≤ (↑k : Int) ∧ (↑k : Int) < (↑m : Int) ∧ Int.toNat (↑k : Int) < m ∧ ((!decide ((if M.wind (V0 (Int.toNat (↑k : Int))) (V1 (Int.toNat (↑k : Int))) (B (Int.toNat (↑k : Int))) (Q0 (Int.toNat (↑k : Int))) (Q1 (Int.toNat (↑k : Int))) = true then (0 : Int) else (3 : Int)) = (0 : Int))) = true → (!M.allB (M.Ws.okW (M.Ws.mk m V0 V1 B Q0 Q1)) m) = true ∧ Value.slice none (0 : Nat) (0 : Nat) = Value.slice none (0 : Nat) (0 : Nat) ∧ (if M.wind (V0 (Int.toNat (↑k : Int))) (V1 (Int.toNat (↑k : Int))) (B (Int.toNat (↑k : Int))) (Q0 (Int.toNat (↑k : Int))) (Q1 (Int.toNat (↑k : Int))) = true then (0 : Int) else (3 : Int)) = (3 : Int) ∧ True) ∧ ((!decide ((if M.wind (V0 (Int.toNat (↑k : Int))) (V1 (Int.toNat (↑k : Int))) (B (Int.toNat (↑k : Int))) (Q0 (Int.toNat (↑k : Int))) (Q1 (Int.toNat (↑k : Int))) = true then (0 : Int) else (3 : Int)) = (0 : Int))) = false → R64 ((↑k : Int) + (1 : Int)) ∧ ((k + (1 : Nat) ≤ m ∧ R64 (↑m : Int)) ∧ ∀ (j : Nat), j < k + (1 : Nat) → M.Ws.okW (M.Ws.mk m V0 V1 B Q0 Q1) j = true) ∧ m - (k + (1 : Nat)) < m - k ∧ () = () ∧ (m = m ∧ ∀ (k : Nat), k < m → V0 k = V0 k ∧ V1 k = V1 k ∧ B k = B k ∧ Q0 k = Q0 k ∧ Q1 k = Q1 k) ∧ (m = m ∧ ∀ (k : Nat), k < m → V0 k = V0 k ∧ V1 k = V1 k ∧ B k = B k ∧ Q0 k = Q0 k ∧ Q1 k = Q1 k) ∧ (↑m : Int) = (↑m : Int) ∧ (↑k : Int) + (1 : Int) = (↑(k + (1 : Nat)) : Int) ∧ dl = dl ∧ dh = dh ∧ ll = ll ∧ lh = lh ∧ a = a ∧ b = b ∧ w = w ∧ h = h ∧ s = s ∧ (n = n ∧ ∀ (k : Nat), k < n → x k = x k ∧ y k = y k) ∧ lo = lo ∧ hi = hi ∧ dl = dl ∧ dh = dh ∧ ll = ll ∧ lh = lh ∧ c = c ∧ True)) ∧ (decide ((↑k : Int) < (↑m : Int)) = false → (!M.allB (M.Ws.okW (M.Ws.mk m V0 V1 B Q0 Q1)) m) = false ∧ (m = m ∧ ∀ (k : Nat), k < m → V0 k = V0 k ∧ V1 k = V1 k ∧ B k = B k ∧ Q0 k = Q0 k ∧ Q1 k = Q1 k) ∧ dl = dl ∧ dh = dh ∧ ll = ll ∧ lh = lh ∧ a = a ∧ b = b ∧ w = w ∧ h = h ∧ s = s ∧ (n = n ∧ ∀ (k : Nat), k < n → x k = x k ∧ y k = y k) ∧ lo = lo ∧ hi = hi ∧ dl = dl ∧ dh = dh ∧ ll = ll ∧ lh = lh ∧ c = c ∧ True)
theorem q32a (w h s : Int) (n : Nat) (x y : Nat → Int) (lo hi dl dh ll lh c : Int) (a b : Int) (m : Nat) (V0 V1 B Q0 Q1 : Nat → Int) (k : Nat) : VL true [] [(18, pureE e18)] YS.none Try.f32 0 [0,1,2,3,4,5,6,7,8,10,12,13,14,15,17,18,19,20,22,31,35,40,44,45,46,47,53,58,59,60,61] [] 1 (lp32a w h s n x y lo hi dl dh ll lh c a b m V0 V1 B Q0 Q1) (k) = Rq32a w h s n x y lo hi dl dh ll lh c a b m V0 V1 B Q0 Q1 k := by kernel_rfl
theorem peq32a (w h s : Int) (n : Nat) (x y : Nat → Int) (lo hi dl dh ll lh c : Int) (a b : Int) (m : Nat) (V0 V1 B Q0 Q1 : Nat → Int) (k : Nat) : (lp32a w h s n x y lo hi dl dh ll lh c a b m V0 V1 B Q0 Q1).pre (k) = ((k ≤ m ∧ R64 (↑m : Int)) ∧ ∀ (j : Nat), j < k → M.Ws.okW (M.Ws.mk m V0 V1 B Q0 Q1) j = true) := by kernel_rfl
theorem bq32a (w h s : Int) (n : Nat) (x y : Nat → Int) (lo hi dl dh ll lh c : Int) (a b : Int) (m : Nat) (V0 V1 B Q0 Q1 : Nat → Int) (k : Nat) (hp : (k ≤ m ∧ R64 (↑m : Int)) ∧ ∀ (j : Nat), j < k → M.Ws.okW (M.Ws.mk m V0 V1 B Q0 Q1) j = true) : Rq32a w h s n x y lo hi dl dh ll lh c a b m V0 V1 B Q0 Q1 k := by
  unfold Rq32a
  obtain ⟨⟨hk, hm⟩, ho⟩ := hp
  have e : M.Ws.okW (M.Ws.mk m V0 V1 B Q0 Q1) k = M.wind (V0 k) (V1 k) (B k) (Q0 k) (Q1 k) := rfl
  have hn : ∀ b, M.Ws.okW (M.Ws.mk m V0 V1 B Q0 Q1) k = b → b = true → ∀ j, j < k + 1 → M.Ws.okW (M.Ws.mk m V0 V1 B Q0 Q1) j = true := fun b h1 h2 j hj => by
    by_cases e' : j = k
    · subst e'; rw [h1, h2]
    · exact ho j (by omega)
  have ha := @M.allB_iff (M.Ws.okW (M.Ws.mk m V0 V1 B Q0 Q1)) m
  simp only [Int.toNat_natCast, ← e]
  unfold R64 at *
  cases hb : M.Ws.okW (M.Ws.mk m V0 V1 B Q0 Q1) k
  · refine ⟨fun hlt => ?_, fun hlt => ?_⟩
    · simp only [decide_eq_true_eq] at hlt
      have : M.allB (M.Ws.okW (M.Ws.mk m V0 V1 B Q0 Q1)) m = false := by
        rw [Bool.eq_false_iff]
        intro h
        have := ha.1 h k (by omega)
        rw [hb] at this; cases this
      simp [this]
      omega
    · simp only [decide_eq_false_iff_not] at hlt
      have := ha.2 (fun j hj => ho j (by omega))
      simp [this]
  · have hn' := hn _ hb rfl
    refine ⟨fun hlt => ?_, fun hlt => ?_⟩
    · simp only [decide_eq_true_eq] at hlt
      simp
      repeat' apply And.intro
      all_goals first | omega | exact hn'
    · simp only [decide_eq_false_iff_not] at hlt
      have := ha.2 (fun j hj => ho j (by omega))
      simp [this]
theorem t32a (w h s : Int) (n : Nat) (x y : Nat → Int) (lo hi dl dh ll lh c : Int) (a b : Int) (m : Nat) (V0 V1 B Q0 Q1 : Nat → Int) {F : Fence} (hF : FOK F) (Y : YEnv PP YS.none) : ∀ Q A H nx, loopT false Try.f32.ntmps 0 (lp32a w h s n x y lo hi dl dh ll lh c a b m V0 V1 B Q0 Q1) (fun _ _ _ => (0 : Nat)) Q A H nx → WPS Y F Try.f32.ntmps 0 (.block 1 (blkAt 1 Try.f32)) Q A H nx :=
  loopW (E := []) (.nil) (O := [(18, pureE e18)]) (.cons (pureE_ok s18) (.nil)) (ck := true) (L := [0,1,2,3,4,5,6,7,8,10,12,13,14,15,17,18,19,20,22,31,35,40,44,45,46,47,53,58,59,60,61]) (f := Try.f32) (m := 0) (id := 1) (l := (lp32a w h s n x y lo hi dl dh ll lh c a b m V0 V1 B Q0 Q1)) (LI := fun i => []) Y hF (by kernel_rfl) (fun _ => .nil) (by
    rintro k hp
    exact Hold.of (q32a w h s n x y lo hi dl dh ll lh c a b m V0 V1 B Q0 Q1 k) (bq32a w h s n x y lo hi dl dh ll lh c a b m V0 V1 B Q0 Q1 k ((peq32a w h s n x y lo hi dl dh ll lh c a b m V0 V1 B Q0 Q1 k).mp hp)))
def lp32b (w h s : Int) (n : Nat) (x y : Nat → Int) (lo hi dl dh ll lh c : Int) (a b : Int) (m : Nat) (V0 V1 B Q0 Q1 : Nat → Int) : LoopS where
  ι := Nat
  β := Unit
  pre k := (k ≤ m ∧ m ≤ 500) ∧ M.P.ok (M.P.mk (M.W.mk w h s n x y lo hi) dl dh ll lh c) ∧ (-1099511627776 ≤ a ∧ a ≤ 1099511627776) ∧ (-1099511627776 ≤ b ∧ b ≤ 1099511627776) ∧ ∀ j, j < m → M.Ws.okW (M.Ws.mk m V0 V1 B Q0 Q1) j = true
  μ k := m - k
  next k _ _ _ := k + 1
  out _ := ()
  early _ := false
  SA k := [(8, .ptr 0 0), (14, .ptr 1 0), (19, .vec 3 2 0 k), (20, .ptr 2 0), (58, .sl 5 m (fun k => [SI (V0 k), SI (V1 k), SI (B k), SI (Q0 k), SI (Q1 k)])), (59, SI m), (60, SI k)]
  SH k := [(0, .cells [SI dl, SI dh, SI ll, SI lh]), (1, .cells [SI w, SI h, SI s, .sl 2 n (fun k => [SI (x k), SI (y k)]), SI lo, SI hi, SI dl, SI dh, SI ll, SI lh, SI c]), (2, .cells [SI (M.P.rLo (M.P.mk (M.W.mk w h s n x y lo hi) dl dh ll lh c) a (M.Ws.mk m V0 V1 B Q0 Q1) k), SI (M.P.rHi (M.P.mk (M.W.mk w h s n x y lo hi) dl dh ll lh c) b (M.Ws.mk m V0 V1 B Q0 Q1) k)]), (3, .row 2 k (fun k => [SI (M.P.rLo (M.P.mk (M.W.mk w h s n x y lo hi) dl dh ll lh c) a (M.Ws.mk m V0 V1 B Q0 Q1) (k + 1)), SI (M.P.rHi (M.P.mk (M.W.mk w h s n x y lo hi) dl dh ll lh c) b (M.Ws.mk m V0 V1 B Q0 Q1) (k + 1))]))]
  n0 := 4
  NA _ := [(19, .vec 0 2 0 m)]
  NH _ := [(0, .row 2 m (fun k => [SI (M.P.rLo (M.P.mk (M.W.mk w h s n x y lo hi) dl dh ll lh c) a (M.Ws.mk m V0 V1 B Q0 Q1) (k + 1)), SI (M.P.rHi (M.P.mk (M.W.mk w h s n x y lo hi) dl dh ll lh c) b (M.Ws.mk m V0 V1 B Q0 Q1) (k + 1))]))]
  n1 := 1
  RA _ := []
  RH _ := []
def Rq32b (w h s : Int) (n : Nat) (x y : Nat → Int) (lo hi dl dh ll lh c : Int) (a b : Int) (m : Nat) (V0 V1 B Q0 Q1 : Nat → Int) (k : Nat) : Prop := (decide ((↑k : Int) < (↑m : Int)) = true → (0 : Int) ≤ (↑k : Int) ∧ (↑k : Int) < (↑m : Int) ∧ Int.toNat (↑k : Int) < m ∧ (∀ (k : Nat), k < n → x k = x k ∧ y k = y k) ∧ M.P.ok (M.P.mk (M.W.mk w h s n x y lo hi) dl dh ll lh c) ∧ M.WindOk (V0 (Int.toNat (↑k : Int))) (V1 (Int.toNat (↑k : Int))) (B (Int.toNat (↑k : Int))) (Q0 (Int.toNat (↑k : Int))) (Q1 (Int.toNat (↑k : Int))) ∧ (1 : Int) ≤ ll ∧ ll ≤ lh ∧ lh ≤ (1024 : Int) ∧ (-1099511627776 : Int) ≤ M.P.rLo (M.P.mk (M.W.mk w h s n x y lo hi) dl dh ll lh c) a (M.Ws.mk m V0 V1 B Q0 Q1) k ∧ M.P.rLo (M.P.mk (M.W.mk w h s n x y lo hi) dl dh ll lh c) a (M.Ws.mk m V0 V1 B Q0 Q1) k ≤ (1099511627776 : Int) ∧ (-1099511627776 : Int) ≤ M.P.rHi (M.P.mk (M.W.mk w h s n x y lo hi) dl dh ll lh c) b (M.Ws.mk m V0 V1 B Q0 Q1) k ∧ M.P.rHi (M.P.mk (M.W.mk w h s n x y lo hi) dl dh ll lh c) b (M.Ws.mk m V0 V1 B Q0 Q1) k ≤ (1099511627776 : Int) ∧ (-1099511627776 : Int) ≤ M.P.stLo (M.P.mk (M.W.mk w h s n x y lo hi) dl dh ll lh c) (V0 (Int.toNat (↑k : Int))) (V1 (Int.toNat (↑k : Int))) (B (Int.toNat (↑k : Int))) (Q0 (Int.toNat (↑k : Int))) ∧ M.P.stLo (M.P.mk (M.W.mk w h s n x y lo hi) dl dh ll lh c) (V0 (Int.toNat (↑k : Int))) (V1 (Int.toNat (↑k : Int))) (B (Int.toNat (↑k : Int))) (Q0 (Int.toNat (↑k : Int))) ≤ (1099511627776 : Int) ∧ (-1099511627776 : Int) ≤ M.P.stHi (M.P.mk (M.W.mk w h s n x y lo hi) dl dh ll lh c) (V0 (Int.toNat (↑k : Int))) (V1 (Int.toNat (↑k : Int))) (B (Int.toNat (↑k : Int))) (Q1 (Int.toNat (↑k : Int))) ∧ M.P.stHi (M.P.mk (M.W.mk w h s n x y lo hi) dl dh ll lh c) (V0 (Int.toNat (↑k : Int))) (V1 (Int.toNat (↑k : Int))) (B (Int.toNat (↑k : Int))) (Q1 (Int.toNat (↑k : Int))) ≤ (1099511627776 : Int) ∧ (0 : Nat) + (1 : Nat) ≤ (1 : Nat) ∧ (∀ (k : Nat), k < (1 : Nat) → true = true) ∧ k ≤ k ∧ (k + (1 : Nat)) * (16 : Nat) ≤ (140737488355328 : Nat) ∧ R64 ((↑k : Int) + (1 : Int)) ∧ ((k + (1 : Nat) ≤ m ∧ m ≤ (500 : Nat)) ∧ M.P.ok (M.P.mk (M.W.mk w h s n x y lo hi) dl dh ll lh c) ∧ ((-1099511627776 : Int) ≤ a ∧ a ≤ (1099511627776 : Int)) ∧ ((-1099511627776 : Int) ≤ b ∧ b ≤ (1099511627776 : Int)) ∧ ∀ (j : Nat), j < m → M.Ws.okW (M.Ws.mk m V0 V1 B Q0 Q1) j = true) ∧ m - (k + (1 : Nat)) < m - k ∧ () = () ∧ (0 : Nat) = (0 : Nat) ∧ k + (1 : Nat) = k + (1 : Nat) ∧ (m = m ∧ ∀ (k : Nat), k < m → V0 k = V0 k ∧ V1 k = V1 k ∧ B k = B k ∧ Q0 k = Q0 k ∧ Q1 k = Q1 k) ∧ (↑m : Int) = (↑m : Int) ∧ (↑k : Int) + (1 : Int) = (↑(k + (1 : Nat)) : Int) ∧ dl = dl ∧ dh = dh ∧ ll = ll ∧ lh = lh ∧ w = w ∧ h = h ∧ s = s ∧ (n = n ∧ ∀ (k : Nat), k < n → x k = x k ∧ y k = y k) ∧ lo = lo ∧ hi = hi ∧ dl = dl ∧ dh = dh ∧ ll = ll ∧ lh = lh ∧ c = c ∧ M.fLo ll lh (M.P.rLo (M.P.mk (M.W.mk w h s n x y lo hi) dl dh ll lh c) a (M.Ws.mk m V0 V1 B Q0 Q1) k) (M.P.stLo (M.P.mk (M.W.mk w h s n x y lo hi) dl dh ll lh c) (V0 (Int.toNat (↑k : Int))) (V1 (Int.toNat (↑k : Int))) (B (Int.toNat (↑k : Int))) (Q0 (Int.toNat (↑k : Int)))) = M.P.rLo (M.P.mk (M.W.mk w h s n x y lo hi) dl dh ll lh c) a (M.Ws.mk m V0 V1 B Q0 Q1) (k + (1 : Nat)) ∧ M.fHi ll lh (M.P.rHi (M.P.mk (M.W.mk w h s n x y lo hi) dl dh ll lh c) b (M.Ws.mk m V0 V1 B Q0 Q1) k) (M.P.stHi (M.P.mk (M.W.mk w h s n x y lo hi) dl dh ll lh c) (V0 (Int.toNat (↑k : Int))) (V1 (Int.toNat (↑k : Int))) (B (Int.toNat (↑k : Int))) (Q1 (Int.toNat (↑k : Int)))) = M.P.rHi (M.P.mk (M.W.mk w h s n x y lo hi) dl dh ll lh c) b (M.Ws.mk m V0 V1 B Q0 Q1) (k + (1 : Nat)) ∧ k + (1 : Nat) = k + (1 : Nat) ∧ (∀ (k_1 : Nat), k_1 < k + (1 : Nat) → (bif decide (k_1 < k) then M.P.rLo (M.P.mk (M.W.mk w h s n x y lo hi) dl dh ll lh c) a (M.Ws.mk m V0 V1 B Q0 Q1) (k_1 + (1 : Nat)) else M.fLo ll lh (M.P.rLo (M.P.mk (M.W.mk w h s n x y lo hi) dl dh ll lh c) a (M.Ws.mk m V0 V1 B Q0 Q1) k) (M.P.stLo (M.P.mk (M.W.mk w h s n x y lo hi) dl dh ll lh c) (V0 (Int.toNat (↑k : Int))) (V1 (Int.toNat (↑k : Int))) (B (Int.toNat (↑k : Int))) (Q0 (Int.toNat (↑k : Int))))) = M.P.rLo (M.P.mk (M.W.mk w h s n x y lo hi) dl dh ll lh c) a (M.Ws.mk m V0 V1 B Q0 Q1) (k_1 + (1 : Nat)) ∧ (bif decide (k_1 < k) then M.P.rHi (M.P.mk (M.W.mk w h s n x y lo hi) dl dh ll lh c) b (M.Ws.mk m V0 V1 B Q0 Q1) (k_1 + (1 : Nat)) else M.fHi ll lh (M.P.rHi (M.P.mk (M.W.mk w h s n x y lo hi) dl dh ll lh c) b (M.Ws.mk m V0 V1 B Q0 Q1) k) (M.P.stHi (M.P.mk (M.W.mk w h s n x y lo hi) dl dh ll lh c) (V0 (Int.toNat (↑k : Int))) (V1 (Int.toNat (↑k : Int))) (B (Int.toNat (↑k : Int))) (Q1 (Int.toNat (↑k : Int))))) = M.P.rHi (M.P.mk (M.W.mk w h s n x y lo hi) dl dh ll lh c) b (M.Ws.mk m V0 V1 B Q0 Q1) (k_1 + (1 : Nat))) ∧ True) ∧ (decide ((↑k : Int) < (↑m : Int)) = false → false = false ∧ (0 : Nat) = (0 : Nat) ∧ k = m ∧ k = m ∧ (∀ (k_1 : Nat), k_1 < k → M.P.rLo (M.P.mk (M.W.mk w h s n x y lo hi) dl dh ll lh c) a (M.Ws.mk m V0 V1 B Q0 Q1) (k_1 + (1 : Nat)) = M.P.rLo (M.P.mk (M.W.mk w h s n x y lo hi) dl dh ll lh c) a (M.Ws.mk m V0 V1 B Q0 Q1) (k_1 + (1 : Nat)) ∧ M.P.rHi (M.P.mk (M.W.mk w h s n x y lo hi) dl dh ll lh c) b (M.Ws.mk m V0 V1 B Q0 Q1) (k_1 + (1 : Nat)) = M.P.rHi (M.P.mk (M.W.mk w h s n x y lo hi) dl dh ll lh c) b (M.Ws.mk m V0 V1 B Q0 Q1) (k_1 + (1 : Nat))) ∧ True)
theorem q32b (w h s : Int) (n : Nat) (x y : Nat → Int) (lo hi dl dh ll lh c : Int) (a b : Int) (m : Nat) (V0 V1 B Q0 Q1 : Nat → Int) (k : Nat) : VL true [] [(84, pureE e84), (86, pureE e86)] YS.none Try.f32 0 [0,1,2,3,4,5,6,7,8,10,12,13,14,15,17,18,19,20,22,31,35,40,44,45,46,47,53,58,59,60,61] [] 3 (lp32b w h s n x y lo hi dl dh ll lh c a b m V0 V1 B Q0 Q1) (k) = Rq32b w h s n x y lo hi dl dh ll lh c a b m V0 V1 B Q0 Q1 k := by kernel_rfl
theorem peq32b (w h s : Int) (n : Nat) (x y : Nat → Int) (lo hi dl dh ll lh c : Int) (a b : Int) (m : Nat) (V0 V1 B Q0 Q1 : Nat → Int) (k : Nat) : (lp32b w h s n x y lo hi dl dh ll lh c a b m V0 V1 B Q0 Q1).pre (k) = ((k ≤ m ∧ m ≤ (500 : Nat)) ∧
  M.P.ok (M.P.mk (M.W.mk w h s n x y lo hi) dl dh ll lh c) ∧
    ((-1099511627776 : Int) ≤ a ∧ a ≤ (1099511627776 : Int)) ∧
      ((-1099511627776 : Int) ≤ b ∧ b ≤ (1099511627776 : Int)) ∧ ∀ (j : Nat), j < m → M.Ws.okW (M.Ws.mk m V0 V1 B Q0 Q1) j = true) := by kernel_rfl
theorem bq32b (w h s : Int) (n : Nat) (x y : Nat → Int) (lo hi dl dh ll lh c : Int) (a b : Int) (m : Nat) (V0 V1 B Q0 Q1 : Nat → Int) (k : Nat) (hp : (k ≤ m ∧ m ≤ (500 : Nat)) ∧
  M.P.ok (M.P.mk (M.W.mk w h s n x y lo hi) dl dh ll lh c) ∧
    ((-1099511627776 : Int) ≤ a ∧ a ≤ (1099511627776 : Int)) ∧
      ((-1099511627776 : Int) ≤ b ∧ b ≤ (1099511627776 : Int)) ∧ ∀ (j : Nat), j < m → M.Ws.okW (M.Ws.mk m V0 V1 B Q0 Q1) j = true) : Rq32b w h s n x y lo hi dl dh ll lh c a b m V0 V1 B Q0 Q1 k := by
  unfold Rq32b
  obtain ⟨⟨hk, hm⟩, hok, ha, hb, ho⟩ := id hp
  have l1 := hok.l1; have l2 := hok.l2; have l3 := hok.l3
  simp only at l1 l2 l3
  have hr := hok.run ha hb (g := (M.Ws.mk m V0 V1 B Q0 Q1)) (k := k) fun j hj => ho j (by omega)
  have e1 : ∀ j, M.P.rLo (M.P.mk (M.W.mk w h s n x y lo hi) dl dh ll lh c) a (M.Ws.mk m V0 V1 B Q0 Q1) (j + 1) = M.fLo ll lh (M.P.rLo (M.P.mk (M.W.mk w h s n x y lo hi) dl dh ll lh c) a (M.Ws.mk m V0 V1 B Q0 Q1) j) (M.P.stLo (M.P.mk (M.W.mk w h s n x y lo hi) dl dh ll lh c) (V0 j) (V1 j) (B j) (Q0 j)) := fun _ => rfl
  have e2 : ∀ j, M.P.rHi (M.P.mk (M.W.mk w h s n x y lo hi) dl dh ll lh c) b (M.Ws.mk m V0 V1 B Q0 Q1) (j + 1) = M.fHi ll lh (M.P.rHi (M.P.mk (M.W.mk w h s n x y lo hi) dl dh ll lh c) b (M.Ws.mk m V0 V1 B Q0 Q1) j) (M.P.stHi (M.P.mk (M.W.mk w h s n x y lo hi) dl dh ll lh c) (V0 j) (V1 j) (B j) (Q1 j)) := fun _ => rfl
  have key : ∀ j, j < k + 1 → (bif decide (j < k) then M.P.rLo (M.P.mk (M.W.mk w h s n x y lo hi) dl dh ll lh c) a (M.Ws.mk m V0 V1 B Q0 Q1) (j + 1) else M.P.rLo (M.P.mk (M.W.mk w h s n x y lo hi) dl dh ll lh c) a (M.Ws.mk m V0 V1 B Q0 Q1) (k + 1)) = M.P.rLo (M.P.mk (M.W.mk w h s n x y lo hi) dl dh ll lh c) a (M.Ws.mk m V0 V1 B Q0 Q1) (j + 1) ∧ (bif decide (j < k) then M.P.rHi (M.P.mk (M.W.mk w h s n x y lo hi) dl dh ll lh c) b (M.Ws.mk m V0 V1 B Q0 Q1) (j + 1) else M.P.rHi (M.P.mk (M.W.mk w h s n x y lo hi) dl dh ll lh c) b (M.Ws.mk m V0 V1 B Q0 Q1) (k + 1)) = M.P.rHi (M.P.mk (M.W.mk w h s n x y lo hi) dl dh ll lh c) b (M.Ws.mk m V0 V1 B Q0 Q1) (j + 1) := fun j hj => by
    by_cases h : j < k
    · simp [h]
    · have : j = k := by omega
      subst this; simp
  simp only [Int.toNat_natCast]
  rw [← e1, ← e2]
  unfold R64
  refine ⟨fun hlt => ?_, fun hlt => ?_⟩
  · simp only [decide_eq_true_eq] at hlt
    have hw : M.WindOk (V0 k) (V1 k) (B k) (Q0 k) (Q1 k) := M.wind_iff.1 (ho k (by omega))
    have hs := hok.steady hw
    clear e1 e2
    simp [hok, hw, l1, l2, l3, hr, ho, ha, hb, -Int.reduceNeg]
    repeat' apply And.intro
    all_goals first | omega | exact ho | simpa using key
  · simp only [decide_eq_false_iff_not] at hlt
    have e : k = m := by omega
    subst e
    simp
theorem t32b (w h s : Int) (n : Nat) (x y : Nat → Int) (lo hi dl dh ll lh c : Int) (a b : Int) (m : Nat) (V0 V1 B Q0 Q1 : Nat → Int) {F : Fence} (hF : FOK F) (Y : YEnv PP YS.none) : ∀ Q A H nx, loopT false Try.f32.ntmps 0 (lp32b w h s n x y lo hi dl dh ll lh c a b m V0 V1 B Q0 Q1) (fun _ _ _ => (0 : Nat)) Q A H nx → WPS Y F Try.f32.ntmps 0 (.block 3 (blkAt 3 Try.f32)) Q A H nx :=
  loopW (E := []) (.nil) (O := [(84, pureE e84), (86, pureE e86)]) (.cons (pureE_ok s84) (.cons (pureE_ok s86) (.nil))) (ck := true) (L := [0,1,2,3,4,5,6,7,8,10,12,13,14,15,17,18,19,20,22,31,35,40,44,45,46,47,53,58,59,60,61]) (f := Try.f32) (m := 0) (id := 3) (l := (lp32b w h s n x y lo hi dl dh ll lh c a b m V0 V1 B Q0 Q1)) (LI := fun i => []) Y hF (by kernel_rfl) (fun _ => .nil) (by
    rintro k hp
    exact Hold.of (q32b w h s n x y lo hi dl dh ll lh c a b m V0 V1 B Q0 Q1 k) (bq32b w h s n x y lo hi dl dh ll lh c a b m V0 V1 B Q0 Q1 k ((peq32b w h s n x y lo hi dl dh ll lh c a b m V0 V1 B Q0 Q1 k).mp hp)))
def e32 : List SV → Option (List Prop × SV)
  | [.agg [.int .i64 w, .int .i64 h, .int .i64 s, .sl 2 n g_1], .agg [.int .i64 lo, .int .i64 hi], .agg [.int .i64 dl, .int .i64 dh, .int .i64 ll, .int .i64 lh], .int .i64 c, .agg [.int .i64 a, .int .i64 b], .sl 5 m g_2] => some ([Row 2 n g_1, Row 5 m g_2, R64 n, R64 m], .tup [.sl 2 (if M.P.runE (M.P.mk (M.W.mk w h s n (cI g_1 0) (cI g_1 1) lo hi) dl dh ll lh c) a b (M.Ws.mk m (cI g_2 0) (cI g_2 1) (cI g_2 2) (cI g_2 3) (cI g_2 4)) = 0 then m else 0) (fun k => [SI (M.P.rLo (M.P.mk (M.W.mk w h s n (cI g_1 0) (cI g_1 1) lo hi) dl dh ll lh c) a (M.Ws.mk m (cI g_2 0) (cI g_2 1) (cI g_2 2) (cI g_2 3) (cI g_2 4)) (k + 1)), SI (M.P.rHi (M.P.mk (M.W.mk w h s n (cI g_1 0) (cI g_1 1) lo hi) dl dh ll lh c) b (M.Ws.mk m (cI g_2 0) (cI g_2 1) (cI g_2 2) (cI g_2 3) (cI g_2 4)) (k + 1))]), SI (M.P.runE (M.P.mk (M.W.mk w h s n (cI g_1 0) (cI g_1 1) lo hi) dl dh ll lh c) a b (M.Ws.mk m (cI g_2 0) (cI g_2 1) (cI g_2 2) (cI g_2 3) (cI g_2 4)))])
  | _ => none
def Rr32 (w h s : Int) (n : Nat) (x y : Nat → Int) (lo hi dl dh ll lh c : Int) (a b : Int) (m : Nat) (V0 V1 B Q0 Q1 : Nat → Int) : Prop := (∀ (k : Nat), k < n → x k = x k ∧ y k = y k) ∧ R64 (↑n : Int) ∧ ((!decide (M.P.atE (M.P.mk (M.W.mk w h s n x y lo hi) dl dh ll lh c) = (0 : Int))) = true → (if M.P.runE (M.P.mk (M.W.mk w h s n x y lo hi) dl dh ll lh c) a b (M.Ws.mk m V0 V1 B Q0 Q1) = (0 : Int) then m else (0 : Nat)) = (0 : Nat) ∧ M.P.atE (M.P.mk (M.W.mk w h s n x y lo hi) dl dh ll lh c) = M.P.runE (M.P.mk (M.W.mk w h s n x y lo hi) dl dh ll lh c) a b (M.Ws.mk m V0 V1 B Q0 Q1)) ∧ ((!decide (M.P.atE (M.P.mk (M.W.mk w h s n x y lo hi) dl dh ll lh c) = (0 : Int))) = false → ((!M.within a b (-1099511627776 : Int) (1099511627776 : Int)) = true → (if M.P.runE (M.P.mk (M.W.mk w h s n x y lo hi) dl dh ll lh c) a b (M.Ws.mk m V0 V1 B Q0 Q1) = (0 : Int) then m else (0 : Nat)) = (0 : Nat) ∧ (3 : Int) = M.P.runE (M.P.mk (M.W.mk w h s n x y lo hi) dl dh ll lh c) a b (M.Ws.mk m V0 V1 B Q0 Q1)) ∧ ((!M.within a b (-1099511627776 : Int) (1099511627776 : Int)) = false → (decide ((500 : Int) < (↑m : Int)) = true → (if M.P.runE (M.P.mk (M.W.mk w h s n x y lo hi) dl dh ll lh c) a b (M.Ws.mk m V0 V1 B Q0 Q1) = (0 : Int) then m else (0 : Nat)) = (0 : Nat) ∧ (9 : Int) = M.P.runE (M.P.mk (M.W.mk w h s n x y lo hi) dl dh ll lh c) a b (M.Ws.mk m V0 V1 B Q0 Q1)) ∧ (decide ((500 : Int) < (↑m : Int)) = false → (((0 : Nat) ≤ m ∧ R64 (↑m : Int)) ∧ ∀ (j : Nat), j < (0 : Nat) → M.Ws.okW (M.Ws.mk m V0 V1 B Q0 Q1) j = true) ∧ ((m = m ∧ ∀ (k : Nat), k < m → V0 k = V0 k ∧ V1 k = V1 k ∧ B k = B k ∧ Q0 k = Q0 k ∧ Q1 k = Q1 k) ∧ (m = m ∧ ∀ (k : Nat), k < m → V0 k = V0 k ∧ V1 k = V1 k ∧ B k = B k ∧ Q0 k = Q0 k ∧ Q1 k = Q1 k) ∧ (↑m : Int) = (↑m : Int) ∧ (0 : Int) = (↑(0 : Nat) : Int) ∧ dl = dl ∧ dh = dh ∧ ll = ll ∧ lh = lh ∧ a = a ∧ b = b ∧ w = w ∧ h = h ∧ s = s ∧ (n = n ∧ ∀ (k : Nat), k < n → x k = x k ∧ y k = y k) ∧ lo = lo ∧ hi = hi ∧ dl = dl ∧ dh = dh ∧ ll = ll ∧ lh = lh ∧ c = c ∧ True) ∧ ((!M.allB (M.Ws.okW (M.Ws.mk m V0 V1 B Q0 Q1)) m) = false → (((0 : Nat) ≤ m ∧ m ≤ (500 : Nat)) ∧ M.P.ok (M.P.mk (M.W.mk w h s n x y lo hi) dl dh ll lh c) ∧ ((-1099511627776 : Int) ≤ a ∧ a ≤ (1099511627776 : Int)) ∧ ((-1099511627776 : Int) ≤ b ∧ b ≤ (1099511627776 : Int)) ∧ ∀ (j : Nat), j < m → M.Ws.okW (M.Ws.mk m V0 V1 B Q0 Q1) j = true) ∧ ((0 : Nat) = (0 : Nat) ∧ (m = m ∧ ∀ (k : Nat), k < m → V0 k = V0 k ∧ V1 k = V1 k ∧ B k = B k ∧ Q0 k = Q0 k ∧ Q1 k = Q1 k) ∧ (↑m : Int) = (↑m : Int) ∧ (0 : Int) = (↑(0 : Nat) : Int) ∧ dl = dl ∧ dh = dh ∧ ll = ll ∧ lh = lh ∧ w = w ∧ h = h ∧ s = s ∧ (n = n ∧ ∀ (k : Nat), k < n → x k = x k ∧ y k = y k) ∧ lo = lo ∧ hi = hi ∧ dl = dl ∧ dh = dh ∧ ll = ll ∧ lh = lh ∧ c = c ∧ a = M.P.rLo (M.P.mk (M.W.mk w h s n x y lo hi) dl dh ll lh c) a (M.Ws.mk m V0 V1 B Q0 Q1) (0 : Nat) ∧ b = M.P.rHi (M.P.mk (M.W.mk w h s n x y lo hi) dl dh ll lh c) b (M.Ws.mk m V0 V1 B Q0 Q1) (0 : Nat) ∧ (0 : Nat) = (0 : Nat) ∧ True) ∧ (false = false → (0 : Nat) + m ≤ m ∧ ((m = if M.P.runE (M.P.mk (M.W.mk w h s n x y lo hi) dl dh ll lh c) a b (M.Ws.mk m V0 V1 B Q0 Q1) = (0 : Int) then m else (0 : Nat)) ∧ ∀ (k : Nat), k < m → M.P.rLo (M.P.mk (M.W.mk w h s n x y lo hi) dl dh ll lh c) a (M.Ws.mk m V0 V1 B Q0 Q1) ((0 : Nat) + k + (1 : Nat)) = M.P.rLo (M.P.mk (M.W.mk w h s n x y lo hi) dl dh ll lh c) a (M.Ws.mk m V0 V1 B Q0 Q1) (k + (1 : Nat)) ∧ M.P.rHi (M.P.mk (M.W.mk w h s n x y lo hi) dl dh ll lh c) b (M.Ws.mk m V0 V1 B Q0 Q1) ((0 : Nat) + k + (1 : Nat)) = M.P.rHi (M.P.mk (M.W.mk w h s n x y lo hi) dl dh ll lh c) b (M.Ws.mk m V0 V1 B Q0 Q1) (k + (1 : Nat))) ∧ (0 : Int) = M.P.runE (M.P.mk (M.W.mk w h s n x y lo hi) dl dh ll lh c) a b (M.Ws.mk m V0 V1 B Q0 Q1)) ∧ (false = true → False)) ∧ ((!M.allB (M.Ws.okW (M.Ws.mk m V0 V1 B Q0 Q1)) m) = true → (if M.P.runE (M.P.mk (M.W.mk w h s n x y lo hi) dl dh ll lh c) a b (M.Ws.mk m V0 V1 B Q0 Q1) = (0 : Int) then m else (0 : Nat)) = (0 : Nat) ∧ (3 : Int) = M.P.runE (M.P.mk (M.W.mk w h s n x y lo hi) dl dh ll lh c) a b (M.Ws.mk m V0 V1 B Q0 Q1)))))
theorem r32 (w h s : Int) (n : Nat) (x y : Nat → Int) (lo hi dl dh ll lh c : Int) (a b : Int) (m : Nat) (V0 V1 B Q0 Q1 : Nat → Int) : V true [] [(80, pureE e80), (69, pureE e69)] Try.f32 [0,1,2,3,4,5,6,7,8,10,12,13,14,15,17,18,19,20,22,31,35,40,44,45,46,47,53,58,59,60,61] [(1, loopT false Try.f32.ntmps 0 (lp32a w h s n x y lo hi dl dh ll lh c a b m V0 V1 B Q0 Q1) (fun _ _ _ => (0 : Nat))), (3, loopT false Try.f32.ntmps 0 (lp32b w h s n x y lo hi dl dh ll lh c a b m V0 V1 B Q0 Q1) (fun _ _ _ => (0 : Nat)))] [.agg [SI w, SI h, SI s, .sl 2 n (fun k => [SI (x k), SI (y k)])], .agg [SI lo, SI hi], .agg [SI dl, SI dh, SI ll, SI lh], SI c, .agg [SI a, SI b], .sl 5 m (fun k => [SI (V0 k), SI (V1 k), SI (B k), SI (Q0 k), SI (Q1 k)])] (.tup [.sl 2 (if M.P.runE (M.P.mk (M.W.mk w h s n x y lo hi) dl dh ll lh c) a b (M.Ws.mk m V0 V1 B Q0 Q1) = 0 then m else 0) (fun k => [SI (M.P.rLo (M.P.mk (M.W.mk w h s n x y lo hi) dl dh ll lh c) a (M.Ws.mk m V0 V1 B Q0 Q1) (k + 1)), SI (M.P.rHi (M.P.mk (M.W.mk w h s n x y lo hi) dl dh ll lh c) b (M.Ws.mk m V0 V1 B Q0 Q1) (k + 1))]), SI (M.P.runE (M.P.mk (M.W.mk w h s n x y lo hi) dl dh ll lh c) a b (M.Ws.mk m V0 V1 B Q0 Q1))]) = Rr32 w h s n x y lo hi dl dh ll lh c a b m V0 V1 B Q0 Q1 := by kernel_rfl
theorem br32 (w h s : Int) (n : Nat) (x y : Nat → Int) (lo hi dl dh ll lh c : Int) (a b : Int) (m : Nat) (V0 V1 B Q0 Q1 : Nat → Int) (hp : (R64 n) ∧ (R64 m) ∧ AllP []) : Rr32 w h s n x y lo hi dl dh ll lh c a b m V0 V1 B Q0 Q1 := by
  unfold Rr32
  obtain ⟨hn, hm, -⟩ := hp
  have h0 := (@M.P.atE_iff (M.P.mk (M.W.mk w h s n x y lo hi) dl dh ll lh c)).1
  have ha := @M.allB_iff (M.Ws.okW (M.Ws.mk m V0 V1 B Q0 Q1)) m
  have z1 : M.P.rLo (M.P.mk (M.W.mk w h s n x y lo hi) dl dh ll lh c) a (M.Ws.mk m V0 V1 B Q0 Q1) 0 = a := rfl
  have z2 : M.P.rHi (M.P.mk (M.W.mk w h s n x y lo hi) dl dh ll lh c) b (M.Ws.mk m V0 V1 B Q0 Q1) 0 = b := rfl
  have hE : M.P.runE (M.P.mk (M.W.mk w h s n x y lo hi) dl dh ll lh c) a b (M.Ws.mk m V0 V1 B Q0 Q1) = if M.P.atE (M.P.mk (M.W.mk w h s n x y lo hi) dl dh ll lh c) = 0 then if M.within a b (-1099511627776) 1099511627776 then if 500 < m then 9 else if M.allB (M.Ws.okW (M.Ws.mk m V0 V1 B Q0 Q1)) m then 0 else 3 else 3 else M.P.atE (M.P.mk (M.W.mk w h s n x y lo hi) dl dh ll lh c) := rfl
  have hw : M.within a b (-1099511627776) 1099511627776 = true → (-1099511627776 ≤ a ∧ a ≤ 1099511627776) ∧ (-1099511627776 ≤ b ∧ b ≤ 1099511627776) := fun h => by
    simp only [M.within, Bool.and_eq_true, decide_eq_true_eq] at h; omega
  simp only [hE, z1, z2, Nat.zero_add]
  have hlt : ((500 : Int) < (m : Int)) = (500 < m) := by rw [eq_iff_iff]; omega
  simp only [hlt]
  generalize M.P.atE (M.P.mk (M.W.mk w h s n x y lo hi) dl dh ll lh c) = e at *
  generalize M.within a b (-1099511627776) 1099511627776 = wb at *
  generalize M.P.rLo (M.P.mk (M.W.mk w h s n x y lo hi) dl dh ll lh c) a (M.Ws.mk m V0 V1 B Q0 Q1) = f1 at *
  generalize M.P.rHi (M.P.mk (M.W.mk w h s n x y lo hi) dl dh ll lh c) b (M.Ws.mk m V0 V1 B Q0 Q1) = f2 at *
  clear hE z1 z2
  by_cases he : e = 0
  · have hok := h0 he
    subst he
    cases wb
    · simp [hn]
    · have hw := hw rfl
      by_cases h5 : 500 < m
      · simp [hn, h5]
      · have h6 : m ≤ 500 := by omega
        cases hA : M.allB (M.Ws.okW (M.Ws.mk m V0 V1 B Q0 Q1)) m
        · simp [hn, hm, h5, h6]
        · simp [hn, hm, h5, h6, hok, hw, -Int.reduceNeg]
          exact ha.1 hA
  · simp [he, hn]
theorem s32 : PureOK PP 32 e32 := by
  intro xs ps res h hp
  unfold e32 at h
  split at h
  · rename_i w h s n g_1 lo hi dl dh ll lh c a b m g_2
    simp only [Option.some.injEq, Prod.mk.injEq] at h
    obtain ⟨rfl, rfl⟩ := h
    simp only [AllP.cons] at hp
    obtain ⟨Hg_1, hp⟩ := hp
    obtain ⟨Hg_2, hp⟩ := hp
    refine Spec.args (ys := [.agg [SI w, SI h, SI s, .sl 2 n (fun k => [SI ((cI g_1 0) k), SI ((cI g_1 1) k)])], .agg [SI lo, SI hi], .agg [SI dl, SI dh, SI ll, SI lh], SI c, .agg [SI a, SI b], .sl 5 m (fun k => [SI ((cI g_2 0) k), SI ((cI g_2 1) k), SI ((cI g_2 2) k), SI ((cI g_2 3) k), SI ((cI g_2 4) k)])]) ?_ (.cons (.agg (.cons (.refl _) (.cons (.refl _) (.cons (.refl _) (.cons (.row Hg_1 fun _ => rfl) .nil))))) (.cons (.refl _) (.cons (.refl _) (.cons (.refl _) (.cons (.refl _) (.cons (.row Hg_2 fun _ => rfl) .nil))))))
    refine enter (L := [0,1,2,3,4,5,6,7,8,10,12,13,14,15,17,18,19,20,22,31,35,40,44,45,46,47,53,58,59,60,61]) (LO := [(1, loopT false Try.f32.ntmps 0 (lp32a w h s n (cI g_1 0) (cI g_1 1) lo hi dl dh ll lh c a b m (cI g_2 0) (cI g_2 1) (cI g_2 2) (cI g_2 3) (cI g_2 4)) (fun _ _ _ => (0 : Nat))), (3, loopT false Try.f32.ntmps 0 (lp32b w h s n (cI g_1 0) (cI g_1 1) lo hi dl dh ll lh c a b m (cI g_2 0) (cI g_2 1) (cI g_2 2) (cI g_2 3) (cI g_2 4)) (fun _ _ _ => (0 : Nat)))]) (E := []) (O := [(80, pureE e80), (69, pureE e69)]) (ck := true) (.nil) (.cons (pureE_ok s80) (.cons (pureE_ok s69) (.nil))) (k := 32) (f := Try.f32) (xs := [.agg [SI w, SI h, SI s, .sl 2 n (fun k => [SI ((cI g_1 0) k), SI ((cI g_1 1) k)])], .agg [SI lo, SI hi], .agg [SI dl, SI dh, SI ll, SI lh], SI c, .agg [SI a, SI b], .sl 5 m (fun k => [SI ((cI g_2 0) k), SI ((cI g_2 1) k), SI ((cI g_2 2) k), SI ((cI g_2 3) k), SI ((cI g_2 4) k)])]) (r := (.tup [.sl 2 (if M.P.runE (M.P.mk (M.W.mk w h s n (cI g_1 0) (cI g_1 1) lo hi) dl dh ll lh c) a b (M.Ws.mk m (cI g_2 0) (cI g_2 1) (cI g_2 2) (cI g_2 3) (cI g_2 4)) = 0 then m else 0) (fun k => [SI (M.P.rLo (M.P.mk (M.W.mk w h s n (cI g_1 0) (cI g_1 1) lo hi) dl dh ll lh c) a (M.Ws.mk m (cI g_2 0) (cI g_2 1) (cI g_2 2) (cI g_2 3) (cI g_2 4)) (k + 1)), SI (M.P.rHi (M.P.mk (M.W.mk w h s n (cI g_1 0) (cI g_1 1) lo hi) dl dh ll lh c) b (M.Ws.mk m (cI g_2 0) (cI g_2 1) (cI g_2 2) (cI g_2 3) (cI g_2 4)) (k + 1))]), SI (M.P.runE (M.P.mk (M.W.mk w h s n (cI g_1 0) (cI g_1 1) lo hi) dl dh ll lh c) a b (M.Ws.mk m (cI g_2 0) (cI g_2 1) (cI g_2 2) (cI g_2 3) (cI g_2 4)))])) (by kernel_rfl) (by kernel_rfl) (fun Y => .cons (by kernel_rfl) (t32a w h s n (cI g_1 0) (cI g_1 1) lo hi dl dh ll lh c a b m (cI g_2 0) (cI g_2 1) (cI g_2 2) (cI g_2 3) (cI g_2 4) FOK.wide Y) (.cons (by kernel_rfl) (t32b w h s n (cI g_1 0) (cI g_1 1) lo hi dl dh ll lh c a b m (cI g_2 0) (cI g_2 1) (cI g_2 2) (cI g_2 3) (cI g_2 4) FOK.wide Y) (.nil))) ?_
    exact Hold.of (r32 w h s n (cI g_1 0) (cI g_1 1) lo hi dl dh ll lh c a b m (cI g_2 0) (cI g_2 1) (cI g_2 2) (cI g_2 3) (cI g_2 4)) (br32 w h s n (cI g_1 0) (cI g_1 1) lo hi dl dh ll lh c a b m (cI g_2 0) (cI g_2 1) (cI g_2 2) (cI g_2 3) (cI g_2 4) hp)
  · cases h
end Go.Proofs.Ytkklmkogdogbkaa.Sep
/-
  What the stage 'surge' computes, in plain numbers: roots and storms. No condition. (This text proves no statement by itself.)
-/
namespace Go.Proofs.Ytkklmkogdogbkaa.M
/-- The least number whose square is not less. -/
def root (n : Int) : Int := (first (fun k => decide (n ≤ (k : Int) * k)) 16777216 : Nat)
theorem root_at {n : Int} {k : Nat} (hk : k ≤ 16777216) (h : ∀ j : Nat, j < k → ¬ n ≤ (j : Int) * j) (h2 : k < 16777216 → n ≤ (k : Int) * k) : root n = k := by
  unfold root
  rcases Nat.lt_or_ge k 16777216 with h1 | h1
  · rw [first_at h1 (fun j hj => decide_eq_false (h j hj)) (decide_eq_true (h2 h1))]
  · have : k = 16777216 := by omega
    subst this
    rw [first_end fun j hj => decide_eq_false (h j hj)]
theorem root_le (n : Int) : 0 ≤ root n ∧ root n ≤ 16777216 := by
  unfold root
  have := (first_spec (fun k => decide (n ≤ (k : Int) * k)) 16777216).1
  omega
/-- Vectors turned by right angles. -/
def rot (a b c d : Int) : Nat → Int × Int × Int × Int
  | 0 => (a, b, c, d)
  | r + 1 => ((rot a b c d r).2.2.1, (rot a b c d r).2.2.2, -(rot a b c d r).2.1, -(rot a b c d r).1)
def rA (a b c d : Int) (r : Nat) : Int := (rot a b c d r).1
def rB (a b c d : Int) (r : Nat) : Int := (rot a b c d r).2.1
def rC (a b c d : Int) (r : Nat) : Int := (rot a b c d r).2.2.1
def rD (a b c d : Int) (r : Nat) : Int := (rot a b c d r).2.2.2
def hm (a b c d : Int) : Nat → Int
  | 0 => 0
  | r + 1 => hm a b c d r + bitV (ahead (rot a b c d r).1 (rot a b c d r).2.1 (rot a b c d r).2.2.1 (rot a b c d r).2.2.2) (2 ^ (2 * r)) + bitV (aslant (rot a b c d r).1 (rot a b c d r).2.1 (rot a b c d r).2.2.1 (rot a b c d r).2.2.2) (2 ^ (2 * r + 1))
theorem hm_4 (a b c d : Int) : hm a b c d 4 = sumB (dirB a b c d) 8 := by
  simp only [hm, rot, sumB, dirB, Int.neg_neg]
theorem hm_le (a b c d : Int) : ∀ r, 0 ≤ hm a b c d r ∧ hm a b c d r < 2 ^ (2 * r)
  | 0 => by simp [hm]
  | r + 1 => by
    have := hm_le a b c d r
    simp only [hm, bitV]
    have e : (2 : Int) ^ (2 * (r + 1)) = 4 * 2 ^ (2 * r) := by rw [show 2 * (r + 1) = 2 * r + 2 by omega, Int.pow_add]; omega
    have e' : (2 : Int) ^ (2 * r + 1) = 2 * 2 ^ (2 * r) := by rw [Int.pow_succ]; omega
    rw [e, e']
    have p : (0 : Int) < 2 ^ (2 * r) := Int.pow_pos (by omega)
    split <;> split <;> omega
theorem rot_sm {a b c d : Int} (ha : Sm a) (hb : Sm b) (hc : Sm c) (hd : Sm d) : ∀ r, Sm (rot a b c d r).1 ∧ Sm (rot a b c d r).2.1 ∧ Sm (rot a b c d r).2.2.1 ∧ Sm (rot a b c d r).2.2.2
  | 0 => ⟨ha, hb, hc, hd⟩
  | r + 1 => by
    obtain ⟨h1, h2, h3, h4⟩ := rot_sm ha hb hc hd r
    simp only [rot]
    unfold Sm at *
    refine ⟨h3, h4, ?_, ?_⟩ <;> omega
/-- The error of a storm. -/
def stormE (x0 x1 y0 y1 r m0 m1 l0 l1 : Int) : Int :=
  if within x0 x1 (-1000000) 1000000 && within y0 y1 (-1000000) 1000000 && decide (1 ≤ r) && decide (r ≤ 1000000) && within m0 m1 0 10000 && within l0 l1 0 20000 then 0 else 3
end Go.Proofs.Ytkklmkogdogbkaa.M
/-
  Contracts of Blow and Directions of the stage 'surge'. No condition. (This text proves no statement by itself.)
-/
namespace Go.Proofs.Ytkklmkogdogbkaa.Sep
open Go
set_option linter.unusedVariables false
set_option linter.unusedSimpArgs false
theorem wrap_u64 {n : Int} (h : 0 ≤ n) (h' : n < 18446744073709551616) : IntKind.wrap .u64 n = n := by
  have e1 : ((2 : Int) ^ IntKind.bits .u64) = 18446744073709551616 := by decide
  simp only [IntKind.wrap, e1, Int.emod_eq_of_lt h h']
  simp [IntKind.signed]
def e98 : List SV → Option (List Prop × SV)
  | [.int .i64 i, .sptr 1 1 F_1 0 0] => match F_1 0 with
    | [.int .i64 n] => some ([R64 (i * i)], .bool (decide (n ≤ i * i)))
    | _ => none
  | _ => none
def Rr98 (i n : Int) : Prop := R64 (i * i) ∧ (0 : Nat) < (1 : Nat) ∧ decide (n ≤ i * i) = decide (n ≤ i * i)
theorem r98 (i n : Int) : V true [] [] Try.f98 [0,1,3] [] [SI i, .sptr 1 1 (fun _ => [SI n]) 0 0] (.bool (decide (n ≤ i * i))) = Rr98 i n := by kernel_rfl
theorem br98 (i n : Int) (hp : (R64 (i * i)) ∧ AllP []) : Rr98 i n := by
  unfold Rr98
  simp [hp]
theorem s98 : PureOK PP 98 e98 := by
  intro xs ps res h hp
  unfold e98 at h
  split at h
  · rename_i i F_1
    split at h
    · rename_i n EF_1
      simp only [Option.some.injEq, Prod.mk.injEq] at h
      obtain ⟨rfl, rfl⟩ := h
      simp only [AllP.cons] at hp
      refine Spec.args (ys := [SI i, .sptr 1 1 (fun _ => [SI n]) 0 0]) ?_ (.cons (.refl _) (.cons (.ref EF_1 (.refl _)) .nil))
      refine enter (L := [0,1,3]) (LO := []) (E := []) (O := []) (ck := true) (.nil) (.nil) (k := 98) (f := Try.f98) (xs := [SI i, .sptr 1 1 (fun _ => [SI n]) 0 0]) (r := (.bool (decide (n ≤ i * i)))) (by kernel_rfl) (by kernel_rfl) (fun _ => .nil) ?_
      exact Hold.of (r98 i n) (br98 i n hp)
    · cases h
  · cases h
def lp97 (n : Int) : LoopS where
  ι := Nat × Nat
  β := Unit
  pre p := (p.1 ≤ p.2 ∧ p.2 ≤ 16777216) ∧ (∀ k : Nat, k < p.1 → ¬ n ≤ (k : Int) * k) ∧ (p.2 < 16777216 → n ≤ (p.2 : Int) * p.2)
  μ p := p.2 - p.1
  next _ A _ _ := ((asI (getS A 5)).toNat, (asI (getS A 6)).toNat)
  out _ := ()
  early _ := false
  SA p := [(1, .fn 98 [] [.sptr 1 1 (fun _ => [SI n]) 0 0]), (5, SI p.1), (6, SI p.2)]
  SH _ := []
  n0 := 0
  NA _ := [(5, SI (M.root n))]
  NH _ := []
  n1 := 0
  RA _ := []
  RH _ := []
def Rq97 (n : Int) (i j : Nat) : Prop := (decide ((↑i : Int) < (↑j : Int)) = true → R64 ((↑i : Int) + (↑j : Int)) ∧ (0 : Int) ≤ (1 : Int) ∧ R64 (Int.fdiv (IntKind.wrap IntKind.u64 ((↑i : Int) + (↑j : Int))) ((2 : Int) ^ min (Int.toNat (1 : Int)) (IntKind.bits IntKind.u64))) ∧ R64 (Int.fdiv (IntKind.wrap IntKind.u64 ((↑i : Int) + (↑j : Int))) ((2 : Int) ^ min (Int.toNat (1 : Int)) (IntKind.bits IntKind.u64)) * Int.fdiv (IntKind.wrap IntKind.u64 ((↑i : Int) + (↑j : Int))) ((2 : Int) ^ min (Int.toNat (1 : Int)) (IntKind.bits IntKind.u64))) ∧ ((!decide (n ≤ Int.fdiv (IntKind.wrap IntKind.u64 ((↑i : Int) + (↑j : Int))) ((2 : Int) ^ min (Int.toNat (1 : Int)) (IntKind.bits IntKind.u64)) * Int.fdiv (IntKind.wrap IntKind.u64 ((↑i : Int) + (↑j : Int))) ((2 : Int) ^ min (Int.toNat (1 : Int)) (IntKind.bits IntKind.u64)))) = true → R64 (Int.fdiv (IntKind.wrap IntKind.u64 ((↑i : Int) + (↑j : Int))) ((2 : Int) ^ min (Int.toNat (1 : Int)) (IntKind.bits IntKind.u64)) + (1 : Int)) ∧ ((Int.toNat (Int.fdiv (IntKind.wrap IntKind.u64 ((↑i : Int) + (↑j : Int))) ((2 : Int) ^ min (Int.toNat (1 : Int)) (IntKind.bits IntKind.u64)) + (1 : Int)) ≤ Int.toNat (↑j : Int) ∧ Int.toNat (↑j : Int) ≤ (16777216 : Nat)) ∧ (∀ (k : Nat), k < Int.toNat (Int.fdiv (IntKind.wrap IntKind.u64 ((↑i : Int) + (↑j : Int))) ((2 : Int) ^ min (Int.toNat (1 : Int)) (IntKind.bits IntKind.u64)) + (1 : Int)) → ¬n ≤ (↑k : Int) * (↑k : Int)) ∧ (Int.toNat (↑j : Int) < (16777216 : Nat) → n ≤ (↑(Int.toNat (↑j : Int)) : Int) * (↑(Int.toNat (↑j : Int)) : Int))) ∧ Int.toNat (↑j : Int) - Int.toNat (Int.fdiv (IntKind.wrap IntKind.u64 ((↑i : Int) + (↑j : Int))) ((2 : Int) ^ min (Int.toNat (1 : Int)) (IntKind.bits IntKind.u64)) + (1 : Int)) < j - i ∧ () = () ∧ (1 : Nat) = (1 : Nat) ∧ (0 : Nat) = (0 : Nat) ∧ (∀ (q : Nat), q < (1 : Nat) → n = n) ∧ Int.fdiv (IntKind.wrap IntKind.u64 ((↑i : Int) + (↑j : Int))) ((2 : Int) ^ min (Int.toNat (1 : Int)) (IntKind.bits IntKind.u64)) + (1 : Int) = (↑(Int.toNat (Int.fdiv (IntKind.wrap IntKind.u64 ((↑i : Int) + (↑j : Int))) ((2 : Int) ^ min (Int.toNat (1 : Int)) (IntKind.bits IntKind.u64)) + (1 : Int))) : Int) ∧ (↑j : Int) = (↑(Int.toNat (↑j : Int)) : Int) ∧ True) ∧ ((!decide (n ≤ Int.fdiv (IntKind.wrap IntKind.u64 ((↑i : Int) + (↑j : Int))) ((2 : Int) ^ min (Int.toNat (1 : Int)) (IntKind.bits IntKind.u64)) * Int.fdiv (IntKind.wrap IntKind.u64 ((↑i : Int) + (↑j : Int))) ((2 : Int) ^ min (Int.toNat (1 : Int)) (IntKind.bits IntKind.u64)))) = false → ((Int.toNat (↑i : Int) ≤ Int.toNat (Int.fdiv (IntKind.wrap IntKind.u64 ((↑i : Int) + (↑j : Int))) ((2 : Int) ^ min (Int.toNat (1 : Int)) (IntKind.bits IntKind.u64))) ∧ Int.toNat (Int.fdiv (IntKind.wrap IntKind.u64 ((↑i : Int) + (↑j : Int))) ((2 : Int) ^ min (Int.toNat (1 : Int)) (IntKind.bits IntKind.u64))) ≤ (16777216 : Nat)) ∧ (∀ (k : Nat), k < Int.toNat (↑i : Int) → ¬n ≤ (↑k : Int) * (↑k : Int)) ∧ (Int.toNat (Int.fdiv (IntKind.wrap IntKind.u64 ((↑i : Int) + (↑j : Int))) ((2 : Int) ^ min (Int.toNat (1 : Int)) (IntKind.bits IntKind.u64))) < (16777216 : Nat) → n ≤ (↑(Int.toNat (Int.fdiv (IntKind.wrap IntKind.u64 ((↑i : Int) + (↑j : Int))) ((2 : Int) ^ min (Int.toNat (1 : Int)) (IntKind.bits IntKind.u64)))) : Int) * (↑(Int.toNat (Int.fdiv (IntKind.wrap IntKind.u64 ((↑i : Int) + (↑j : Int))) ((2 : Int) ^ min (Int.toNat (1 : Int)) (IntKind.bits IntKind.u64)))) : Int))) ∧ Int.toNat (Int.fdiv (IntKind.wrap IntKind.u64 ((↑i : Int) + (↑j : Int))) ((2 : Int) ^ min (Int.toNat (1 : Int)) (IntKind.bits IntKind.u64))) - Int.toNat (↑i : Int) < j - i ∧ () = () ∧ (1 : Nat) = (1 : Nat) ∧ (0 : Nat) = (0 : Nat) ∧ (∀ (q : Nat), q < (1 : Nat) → n = n) ∧ (↑i : Int) = (↑(Int.toNat (↑i : Int)) : Int) ∧ Int.fdiv (IntKind.wrap IntKind.u64 ((↑i : Int) + (↑j : Int))) ((2 : Int) ^ min (Int.toNat (1 : Int)) (IntKind.bits IntKind.u64)) = (↑(Int.toNat (Int.fdiv (IntKind.wrap IntKind.u64 ((↑i : Int) + (↑j : Int))) ((2 : Int) ^ min (Int.toNat (1 : Int)) (IntKind.bits IntKind.u64)))) : Int) ∧ True)) ∧ (decide ((↑i : Int) < (↑j : Int)) = false → false = false ∧ (↑i : Int) = M.root n ∧ True)
theorem q97 (n : Int) (i j : Nat) : VL true [] [(98, pureE e98)] YS.none Try.f97 0 [0,1,4,5,6,7,11,21] [] 0 (lp97 n) ((i, j)) = Rq97 n i j := by kernel_rfl
theorem peq97 (n : Int) (i j : Nat) : (lp97 n).pre ((i, j)) = ((i ≤ j ∧ j ≤ (16777216 : Nat)) ∧ (∀ (k : Nat), k < i → ¬n ≤ (↑k : Int) * (↑k : Int)) ∧ (j < (16777216 : Nat) → n ≤ (↑j : Int) * (↑j : Int))) := by kernel_rfl
theorem bq97 (n : Int) (i j : Nat) (hp : (i ≤ j ∧ j ≤ (16777216 : Nat)) ∧ (∀ (k : Nat), k < i → ¬n ≤ (↑k : Int) * (↑k : Int)) ∧ (j < (16777216 : Nat) → n ≤ (↑j : Int) * (↑j : Int))) : Rq97 n i j := by
  unfold Rq97
  obtain ⟨⟨hij, hj⟩, h1, h2⟩ := hp
  have e : Int.fdiv (IntKind.wrap IntKind.u64 ((i : Int) + (j : Int))) ((2 : Int) ^ min (Int.toNat (1 : Int)) (IntKind.bits IntKind.u64)) = (((i + j) / 2 : Nat) : Int) := by
    rw [wrap_u64 (by omega) (by omega)]
    show Int.fdiv _ (2 ^ 1) = _
    rw [Int.fdiv_eq_ediv_of_nonneg _ (by decide)]
    omega
  rw [e]
  unfold R64
  have hm : ∀ k : Nat, k ≤ (i + j) / 2 → (k : Int) * k ≤ (((i + j) / 2 : Nat) : Int) * (((i + j) / 2 : Nat) : Int) := fun k hk => Int.mul_le_mul (by omega) (by omega) (by omega) (by omega)
  have hq := M.mul_bd (a := (((i + j) / 2 : Nat) : Int)) (b := (((i + j) / 2 : Nat) : Int)) (p := 16777216) (q := 16777216) (by omega) (by omega) (by omega) (by omega)
  refine ⟨fun hlt => ?_, fun hlt => ?_⟩
  · simp only [decide_eq_true_eq] at hlt
    have c1 : i ≤ (i + j) / 2 := by omega
    have c2 : (i + j) / 2 < j := by omega
    clear e
    generalize (i + j) / 2 = c at *
    by_cases hc : n ≤ (c : Int) * c
    · simp only [hc, Int.toNat_natCast, decide_true, Bool.not_true, Bool.false_eq_true, false_implies, true_implies, forall_const]
      repeat' apply And.intro
      all_goals first | omega | exact h1 | exact fun _ => trivial | trivial | exact fun _ _ => trivial
    · have e2 : Int.toNat ((c : Int) + 1) = c + 1 := by omega
      simp only [e2, hc, Int.toNat_natCast, decide_false, Bool.not_false, true_implies, forall_const, Bool.true_eq_false, false_implies, and_true]
      have key : ∀ k : Nat, k < c + 1 → ¬ n ≤ (k : Int) * k := fun k hk => by
        have := hm k (by omega); omega
      repeat' apply And.intro
      all_goals first | omega | exact key | exact h2 | trivial | exact fun _ _ => trivial
  · simp only [decide_eq_false_iff_not] at hlt
    have e' : i = j := by omega
    subst e'
    exact ⟨rfl, (M.root_at hj h1 h2).symm, trivial⟩
theorem t97 (n : Int) {F : Fence} (hF : FOK F) (Y : YEnv PP YS.none) : ∀ Q A H nx, loopT false Try.f97.ntmps 0 (lp97 n) (fun _ _ _ => ((0 : Nat), (16777216 : Nat))) Q A H nx → WPS Y F Try.f97.ntmps 0 (.block 0 (blkAt 0 Try.f97)) Q A H nx :=
  loopW (E := []) (.nil) (O := [(98, pureE e98)]) (.cons (pureE_ok s98) (.nil)) (ck := true) (L := [0,1,4,5,6,7,11,21]) (f := Try.f97) (m := 0) (id := 0) (l := (lp97 n)) (LI := fun i => []) Y hF (by kernel_rfl) (fun _ => .nil) (by
    rintro ⟨i, j⟩ hp
    exact Hold.of (q97 n i j) (bq97 n i j ((peq97 n i j).mp hp)))
def e97 : List SV → Option (List Prop × SV)
  | [.int .i64 16777216, .fn 98 [] [.sptr 1 1 F_1 0 0]] => match F_1 0 with
    | [.int .i64 n] => some ([], SI (M.root n))
    | _ => none
  | _ => none
def Rr97 (n : Int) : Prop := (((0 : Nat) ≤ (16777216 : Nat) ∧ (16777216 : Nat) ≤ (16777216 : Nat)) ∧ (∀ (k : Nat), k < (0 : Nat) → ¬n ≤ (↑k : Int) * (↑k : Int)) ∧ ((16777216 : Nat) < (16777216 : Nat) → n ≤ (↑(16777216 : Nat) : Int) * (↑(16777216 : Nat) : Int))) ∧ ((1 : Nat) = (1 : Nat) ∧ (0 : Nat) = (0 : Nat) ∧ (∀ (q : Nat), q < (1 : Nat) → n = n) ∧ (0 : Int) = (↑(0 : Nat) : Int) ∧ (16777216 : Int) = (↑(16777216 : Nat) : Int) ∧ True) ∧ (false = false → M.root n = M.root n) ∧ (false = true → False)
theorem r97 (n : Int) : V true [] [] Try.f97 [0,1,4,5,6,7,11,21] [(0, loopT false Try.f97.ntmps 0 (lp97 n) (fun _ _ _ => ((0 : Nat), (16777216 : Nat))))] [SI 16777216, .fn 98 [] [.sptr 1 1 (fun _ => [SI n]) 0 0]] (SI (M.root n)) = Rr97 n := by kernel_rfl
theorem br97 (n : Int)  : Rr97 n := by
  unfold Rr97
  refine ⟨⟨⟨by omega, by omega⟩, fun k hk => by omega, fun h => by omega⟩, ⟨rfl, rfl, fun _ _ => rfl, rfl, rfl, trivial⟩, fun _ => rfl, fun h => by cases h⟩
theorem s97 : PureOK PP 97 e97 := by
  intro xs ps res h hp
  unfold e97 at h
  split at h
  · rename_i F_1
    split at h
    · rename_i n EF_1
      simp only [Option.some.injEq, Prod.mk.injEq] at h
      obtain ⟨rfl, rfl⟩ := h
      clear hp
      refine Spec.args (ys := [SI 16777216, .fn 98 [] [.sptr 1 1 (fun _ => [SI n]) 0 0]]) ?_ (.cons (.refl _) (.cons (.fn (.refl _) (.cons (.ref EF_1 (.refl _)) .nil)) .nil))
      refine enter (L := [0,1,4,5,6,7,11,21]) (LO := [(0, loopT false Try.f97.ntmps 0 (lp97 n) (fun _ _ _ => ((0 : Nat), (16777216 : Nat))))]) (E := []) (O := []) (ck := true) (.nil) (.nil) (k := 97) (f := Try.f97) (xs := [SI 16777216, .fn 98 [] [.sptr 1 1 (fun _ => [SI n]) 0 0]]) (r := (SI (M.root n))) (by kernel_rfl) (by kernel_rfl) (fun Y => .cons (by kernel_rfl) (t97 n FOK.wide Y) (.nil)) ?_
      exact Hold.of (r97 n) (br97 n )
    · cases h
  · cases h
def e60 : List SV → Option (List Prop × SV)
  | [.int .i64 n] => some ([], SI (M.root n))
  | _ => none
def Rr60 (n : Int) : Prop := M.root n = M.root n
theorem r60 (n : Int) : V true [] [(97, pureE e97)] Try.f60 [0,1,2] [] [SI n] (SI (M.root n)) = Rr60 n := by kernel_rfl
theorem br60 (n : Int)  : Rr60 n := by
  unfold Rr60
  simp
theorem s60 : PureOK PP 60 e60 := by
  intro xs ps res h hp
  unfold e60 at h
  split at h
  · rename_i n
    simp only [Option.some.injEq, Prod.mk.injEq] at h
    obtain ⟨rfl, rfl⟩ := h
    clear hp
    refine enter (L := [0,1,2]) (LO := []) (E := []) (O := [(97, pureE e97)]) (ck := true) (.nil) (.cons (pureE_ok s97) (.nil)) (k := 60) (f := Try.f60) (xs := [SI n]) (r := (SI (M.root n))) (by kernel_rfl) (by kernel_rfl) (fun _ => .nil) ?_
    exact Hold.of (r60 n) (br60 n )
  · cases h
theorem or_bit {s : Int} {d : Nat} (h : 0 ≤ s) (h' : s < 2 ^ d) (hd : d ≤ 60) : IntKind.wrap .i64 ((BitVec.ofInt (IntKind.bits .i64) s ||| BitVec.ofInt (IntKind.bits .i64) (2 ^ d)).toNat : Int) = s + 2 ^ d := by
  obtain ⟨n, rfl⟩ : ∃ n : Nat, s = n := ⟨s.toNat, by omega⟩
  have hp : (2 : Nat) ^ d ≤ 2 ^ 60 := Nat.pow_le_pow_right (by omega) hd
  have hn : n < 2 ^ d := by exact_mod_cast h'
  have e2 : (2 : Int) ^ d = ((2 ^ d : Nat) : Int) := by simp
  have e64 : IntKind.bits .i64 = 64 := rfl
  rw [e2, e64, BitVec.ofInt_natCast, BitVec.ofInt_natCast, BitVec.toNat_or, BitVec.toNat_ofNat, BitVec.toNat_ofNat, Nat.mod_eq_of_lt (show n < 2 ^ 64 by omega), Nat.mod_eq_of_lt (show 2 ^ d < 2 ^ 64 by omega)]
  have := Nat.two_pow_add_eq_or_of_lt hn 1
  rw [Nat.mul_one] at this
  rw [Nat.or_comm, ← this, wrap_R64 (by unfold R64; omega)]
  omega
def lp67 (a b c d : Int) : LoopS where
  ι := Nat
  β := Unit
  pre r := r ≤ 4 ∧ M.Sm a ∧ M.Sm b ∧ M.Sm c ∧ M.Sm d
  μ r := 4 - r
  next r _ _ _ := r + 1
  out _ := ()
  early _ := false
  SA r := [(2, .ptr 0 0), (3, .ptr 1 0), (5, SI (M.hm a b c d r)), (6, SI (2 * (r : Int)))]
  SH r := [(0, .cells [SI (M.rA a b c d r), SI (M.rB a b c d r)]), (1, .cells [SI (M.rC a b c d r), SI (M.rD a b c d r)])]
  n0 := 2
  NA _ := [(5, SI (M.hm a b c d 4))]
  NH _ := []
  n1 := 0
  RA _ := []
  RH _ := []
def Rq67 (a b c d : Int) (r : Nat) : Prop := (decide ((2 : Int) * (↑r : Int) < (8 : Int)) = true → M.Sm (M.rA a b c d r) ∧ M.Sm (M.rB a b c d r) ∧ M.Sm (M.rC a b c d r) ∧ M.Sm (M.rD a b c d r) ∧ (M.ahead (M.rA a b c d r) (M.rB a b c d r) (M.rC a b c d r) (M.rD a b c d r) = true → (0 : Int) ≤ (2 : Int) * (↑r : Int) ∧ (2 : Int) * (↑r : Int) ≤ (64 : Int) ∧ R64 ((1 : Int) * (2 : Int) ^ Int.toNat ((2 : Int) * (↑r : Int))) ∧ M.Sm (M.rA a b c d r) ∧ M.Sm (M.rB a b c d r) ∧ M.Sm (M.rC a b c d r) ∧ M.Sm (M.rD a b c d r) ∧ (M.aslant (M.rA a b c d r) (M.rB a b c d r) (M.rC a b c d r) (M.rD a b c d r) = true → (0 : Int) ≤ (2 : Int) * (↑r : Int) ∧ (2 : Int) * (↑r : Int) ≤ (64 : Int) ∧ R64 ((2 : Int) * (2 : Int) ^ Int.toNat ((2 : Int) * (↑r : Int))) ∧ R64 (-M.rB a b c d r) ∧ R64 (-M.rA a b c d r) ∧ R64 ((2 : Int) * (↑r : Int) + (2 : Int)) ∧ (r + (1 : Nat) ≤ (4 : Nat) ∧ M.Sm a ∧ M.Sm b ∧ M.Sm c ∧ M.Sm d) ∧ (4 : Nat) - (r + (1 : Nat)) < (4 : Nat) - r ∧ () = () ∧ IntKind.wrap IntKind.i64 (↑(BitVec.toNat (BitVec.ofInt (IntKind.bits IntKind.i64) (IntKind.wrap IntKind.i64 (↑(BitVec.toNat (BitVec.ofInt (IntKind.bits IntKind.i64) (M.hm a b c d r) ||| BitVec.ofInt (IntKind.bits IntKind.i64) ((1 : Int) * (2 : Int) ^ Int.toNat ((2 : Int) * (↑r : Int))))) : Int)) ||| BitVec.ofInt (IntKind.bits IntKind.i64) ((2 : Int) * (2 : Int) ^ Int.toNat ((2 : Int) * (↑r : Int))))) : Int) = M.hm a b c d (r + (1 : Nat)) ∧ (2 : Int) * (↑r : Int) + (2 : Int) = (2 : Int) * (↑(r + (1 : Nat)) : Int) ∧ M.rC a b c d r = M.rA a b c d (r + (1 : Nat)) ∧ M.rD a b c d r = M.rB a b c d (r + (1 : Nat)) ∧ -M.rB a b c d r = M.rC a b c d (r + (1 : Nat)) ∧ -M.rA a b c d r = M.rD a b c d (r + (1 : Nat)) ∧ True) ∧ (M.aslant (M.rA a b c d r) (M.rB a b c d r) (M.rC a b c d r) (M.rD a b c d r) = false → R64 (-M.rB a b c d r) ∧ R64 (-M.rA a b c d r) ∧ R64 ((2 : Int) * (↑r : Int) + (2 : Int)) ∧ (r + (1 : Nat) ≤ (4 : Nat) ∧ M.Sm a ∧ M.Sm b ∧ M.Sm c ∧ M.Sm d) ∧ (4 : Nat) - (r + (1 : Nat)) < (4 : Nat) - r ∧ () = () ∧ IntKind.wrap IntKind.i64 (↑(BitVec.toNat (BitVec.ofInt (IntKind.bits IntKind.i64) (M.hm a b c d r) ||| BitVec.ofInt (IntKind.bits IntKind.i64) ((1 : Int) * (2 : Int) ^ Int.toNat ((2 : Int) * (↑r : Int))))) : Int) = M.hm a b c d (r + (1 : Nat)) ∧ (2 : Int) * (↑r : Int) + (2 : Int) = (2 : Int) * (↑(r + (1 : Nat)) : Int) ∧ M.rC a b c d r = M.rA a b c d (r + (1 : Nat)) ∧ M.rD a b c d r = M.rB a b c d (r + (1 : Nat)) ∧ -M.rB a b c d r = M.rC a b c d (r + (1 : Nat)) ∧ -M.rA a b c d r = M.rD a b c d (r + (1 : Nat)) ∧ True)) ∧ (M.ahead (M.rA a b c d r) (M.rB a b c d r) (M.rC a b c d r) (M.rD a b c d r) = false → M.Sm (M.rA a b c d r) ∧ M.Sm (M.rB a b c d r) ∧ M.Sm (M.rC a b c d r) ∧ M.Sm (M.rD a b c d r) ∧ (M.aslant (M.rA a b c d r) (M.rB a b c d r) (M.rC a b c d r) (M.rD a b c d r) = true → (0 : Int) ≤ (2 : Int) * (↑r : Int) ∧ (2 : Int) * (↑r : Int) ≤ (64 : Int) ∧ R64 ((2 : Int) * (2 : Int) ^ Int.toNat ((2 : Int) * (↑r : Int))) ∧ R64 (-M.rB a b c d r) ∧ R64 (-M.rA a b c d r) ∧ R64 ((2 : Int) * (↑r : Int) + (2 : Int)) ∧ (r + (1 : Nat) ≤ (4 : Nat) ∧ M.Sm a ∧ M.Sm b ∧ M.Sm c ∧ M.Sm d) ∧ (4 : Nat) - (r + (1 : Nat)) < (4 : Nat) - r ∧ () = () ∧ IntKind.wrap IntKind.i64 (↑(BitVec.toNat (BitVec.ofInt (IntKind.bits IntKind.i64) (M.hm a b c d r) ||| BitVec.ofInt (IntKind.bits IntKind.i64) ((2 : Int) * (2 : Int) ^ Int.toNat ((2 : Int) * (↑r : Int))))) : Int) = M.hm a b c d (r + (1 : Nat)) ∧ (2 : Int) * (↑r : Int) + (2 : Int) = (2 : Int) * (↑(r + (1 : Nat)) : Int) ∧ M.rC a b c d r = M.rA a b c d (r + (1 : Nat)) ∧ M.rD a b c d r = M.rB a b c d (r + (1 : Nat)) ∧ -M.rB a b c d r = M.rC a b c d (r + (1 : Nat)) ∧ -M.rA a b c d r = M.rD a b c d (r + (1 : Nat)) ∧ True) ∧ (M.aslant (M.rA a b c d r) (M.rB a b c d r) (M.rC a b c d r) (M.rD a b c d r) = false → R64 (-M.rB a b c d r) ∧ R64 (-M.rA a b c d r) ∧ R64 ((2 : Int) * (↑r : Int) + (2 : Int)) ∧ (r + (1 : Nat) ≤ (4 : Nat) ∧ M.Sm a ∧ M.Sm b ∧ M.Sm c ∧ M.Sm d) ∧ (4 : Nat) - (r + (1 : Nat)) < (4 : Nat) - r ∧ () = () ∧ M.hm a b c d r = M.hm a b c d (r + (1 : Nat)) ∧ (2 : Int) * (↑r : Int) + (2 : Int) = (2 : Int) * (↑(r + (1 : Nat)) : Int) ∧ M.rC a b c d r = M.rA a b c d (r + (1 : Nat)) ∧ M.rD a b c d r = M.rB a b c d (r + (1 : Nat)) ∧ -M.rB a b c d r = M.rC a b c d (r + (1 : Nat)) ∧ -M.rA a b c d r = M.rD a b c d (r + (1 : Nat)) ∧ True))) ∧ (decide ((2 : Int) * (↑r : Int) < (8 : Int)) = false → false = false ∧ M.hm a b c d r = M.hm a b c d (4 : Nat) ∧ True)
theorem q67 (a b c d : Int) (r : Nat) : VL true [] [(99, pureE e99), (100, pureE e100), (68, pureE e68)] YS.none Try.f67 0 [0,1,2,3,4,5,6,14,16,21,28] [] 0 (lp67 a b c d) (r) = Rq67 a b c d r := by kernel_rfl
theorem peq67 (a b c d : Int) (r : Nat) : (lp67 a b c d).pre (r) = (r ≤ (4 : Nat) ∧ M.Sm a ∧ M.Sm b ∧ M.Sm c ∧ M.Sm d) := by kernel_rfl
theorem bq67 (a b c d : Int) (r : Nat) (hp : r ≤ (4 : Nat) ∧ M.Sm a ∧ M.Sm b ∧ M.Sm c ∧ M.Sm d) : Rq67 a b c d r := by
  unfold Rq67
  obtain ⟨hr, ha, hb, hc, hd⟩ := hp
  obtain ⟨s1, s2, s3, s4⟩ := M.rot_sm ha hb hc hd r
  have s1 : M.Sm (M.rA a b c d r) := s1
  have s2 : M.Sm (M.rB a b c d r) := s2
  have s3 : M.Sm (M.rC a b c d r) := s3
  have s4 : M.Sm (M.rD a b c d r) := s4
  have hm := M.hm_le a b c d r
  have e0 : Int.toNat (2 * (r : Int)) = 2 * r := by omega
  have p1 : (0 : Int) < 2 ^ (2 * r) := Int.pow_pos (by omega)
  have e' : (2 : Int) * 2 ^ (2 * r) = 2 ^ (2 * r + 1) := by rw [Int.pow_succ]; omega
  have h8 : M.hm a b c d (r + 1) = M.hm a b c d r + M.bitV (M.ahead (M.rA a b c d r) (M.rB a b c d r) (M.rC a b c d r) (M.rD a b c d r)) (2 ^ (2 * r)) + M.bitV (M.aslant (M.rA a b c d r) (M.rB a b c d r) (M.rC a b c d r) (M.rD a b c d r)) (2 ^ (2 * r + 1)) := rfl
  have hA : M.rA a b c d (r + 1) = (M.rC a b c d r) := rfl
  have hB : M.rB a b c d (r + 1) = (M.rD a b c d r) := rfl
  have hC : M.rC a b c d (r + 1) = -(M.rB a b c d r) := rfl
  have hD : M.rD a b c d (r + 1) = -(M.rA a b c d r) := rfl
  have o1 := or_bit hm.1 hm.2 (by omega)
  have o2 := or_bit (s := M.hm a b c d r + 2 ^ (2 * r)) (d := 2 * r + 1) (by omega) (by omega) (by omega)
  have o3 := or_bit (s := M.hm a b c d r) (d := 2 * r + 1) (by omega) (by omega) (by omega)
  simp only [e0, Int.one_mul, e', o1, o2, o3, h8, hA, hB, hC, hD]
  have hs : M.Sm a ∧ M.Sm b ∧ M.Sm c ∧ M.Sm d := ⟨ha, hb, hc, hd⟩
  refine ⟨fun hlt => ?_, fun hlt => ?_⟩
  · simp only [decide_eq_true_eq] at hlt
    have p2 : (2 : Int) ^ (2 * r) ≤ 64 := by
      have : (2 : Nat) ^ (2 * r) ≤ 2 ^ 6 := Nat.pow_le_pow_right (by omega) (by omega)
      have e3 : (2 : Int) ^ (2 * r) = ((2 ^ (2 * r) : Nat) : Int) := by simp
      omega
    clear o1 o2 o3 h8 hA hB hC hD
    have b1 := s1; have b2 := s2
    unfold M.Sm at b1 b2
    cases M.ahead (M.rA a b c d r) (M.rB a b c d r) (M.rC a b c d r) (M.rD a b c d r) <;> cases M.aslant (M.rA a b c d r) (M.rB a b c d r) (M.rC a b c d r) (M.rD a b c d r) <;> simp [s1, s2, s3, s4, hs, M.bitV, R64] <;> (repeat' apply And.intro) <;> omega
  · simp only [decide_eq_false_iff_not] at hlt
    have e : r = 4 := by omega
    subst e
    simp
theorem t67 (a b c d : Int) {F : Fence} (hF : FOK F) (Y : YEnv PP YS.none) : ∀ Q A H nx, loopT false Try.f67.ntmps 0 (lp67 a b c d) (fun _ _ _ => (0 : Nat)) Q A H nx → WPS Y F Try.f67.ntmps 0 (.block 0 (blkAt 0 Try.f67)) Q A H nx :=
  loopW (E := []) (.nil) (O := [(99, pureE e99), (100, pureE e100), (68, pureE e68)]) (.cons (pureE_ok s99) (.cons (pureE_ok s100) (.cons (pureE_ok s68) (.nil)))) (ck := true) (L := [0,1,2,3,4,5,6,14,16,21,28]) (f := Try.f67) (m := 0) (id := 0) (l := (lp67 a b c d)) (LI := fun i => []) Y hF (by kernel_rfl) (fun _ => .nil) (by
    rintro r hp
    exact Hold.of (q67 a b c d r) (bq67 a b c d r ((peq67 a b c d r).mp hp)))
def e67 : List SV → Option (List Prop × SV)
  | [.agg [.int .i64 a, .int .i64 b], .agg [.int .i64 c, .int .i64 d]] => some ([M.Sm a, M.Sm b, M.Sm c, M.Sm d], SI (M.heading a b c d))
  | _ => none
def Rr67 (a b c d : Int) : Prop := R64 (-b) ∧ (decide (M.near a b = (0 : Int)) = true → decide (M.near a b = (0 : Int)) = true) ∧ (decide (M.near a b = (0 : Int)) = true → R64 (-d)) ∧ (decide (M.near a b = (0 : Int)) = true → decide (M.near a b = (0 : Int)) = true) ∧ (decide (M.near a b = (0 : Int)) = true → decide (M.near a b = (0 : Int)) = true) ∧ ((bif decide (M.near a b = (0 : Int)) then decide (M.near c d = (0 : Int)) else false) = true → (255 : Int) = M.heading a b c d) ∧ ((bif decide (M.near a b = (0 : Int)) then decide (M.near c d = (0 : Int)) else false) = false → ((0 : Nat) ≤ (4 : Nat) ∧ M.Sm a ∧ M.Sm b ∧ M.Sm c ∧ M.Sm d) ∧ ((0 : Int) = M.hm a b c d (0 : Nat) ∧ (0 : Int) = (2 : Int) * (↑(0 : Nat) : Int) ∧ a = M.rA a b c d (0 : Nat) ∧ b = M.rB a b c d (0 : Nat) ∧ c = M.rC a b c d (0 : Nat) ∧ d = M.rD a b c d (0 : Nat) ∧ True) ∧ (false = false → M.hm a b c d (4 : Nat) = M.heading a b c d) ∧ (false = true → False))
theorem r67 (a b c d : Int) : V true [] [(61, pureE e61)] Try.f67 [0,1,2,3,4,5,6,14,16,21,28] [(0, loopT false Try.f67.ntmps 0 (lp67 a b c d) (fun _ _ _ => (0 : Nat)))] [.agg [SI a, SI b], .agg [SI c, SI d]] (SI (M.heading a b c d)) = Rr67 a b c d := by kernel_rfl
theorem br67 (a b c d : Int) (hp : (M.Sm a) ∧ (M.Sm b) ∧ (M.Sm c) ∧ (M.Sm d) ∧ AllP []) : Rr67 a b c d := by
  unfold Rr67
  obtain ⟨ha, hb, hc, hd, -⟩ := hp
  have hs : M.Sm a ∧ M.Sm b ∧ M.Sm c ∧ M.Sm d := ⟨ha, hb, hc, hd⟩
  have e1 : M.hm a b c d 0 = 0 := rfl
  have e2 : M.rA a b c d 0 = a := rfl
  have e3 : M.rB a b c d 0 = b := rfl
  have e4 : M.rC a b c d 0 = c := rfl
  have e5 : M.rD a b c d 0 = d := rfl
  rw [M.hm_4, e1, e2, e3, e4, e5]
  unfold M.heading
  have : R64 (-b) ∧ R64 (-d) := by unfold M.Sm at *; unfold R64; omega
  by_cases h1 : M.near a b = 0 <;> by_cases h2 : M.near c d = 0 <;> simp [h1, h2, hs, this]
theorem s67 : PureOK PP 67 e67 := by
  intro xs ps res h hp
  unfold e67 at h
  split at h
  · rename_i a b c d
    simp only [Option.some.injEq, Prod.mk.injEq] at h
    obtain ⟨rfl, rfl⟩ := h
    simp only [AllP.cons] at hp
    refine enter (L := [0,1,2,3,4,5,6,14,16,21,28]) (LO := [(0, loopT false Try.f67.ntmps 0 (lp67 a b c d) (fun _ _ _ => (0 : Nat)))]) (E := []) (O := [(61, pureE e61)]) (ck := true) (.nil) (.cons (pureE_ok s61) (.nil)) (k := 67) (f := Try.f67) (xs := [.agg [SI a, SI b], .agg [SI c, SI d]]) (r := (SI (M.heading a b c d))) (by kernel_rfl) (by kernel_rfl) (fun Y => .cons (by kernel_rfl) (t67 a b c d FOK.wide Y) (.nil)) ?_
    exact Hold.of (r67 a b c d) (br67 a b c d hp)
  · cases h
def e21 : List SV → Option (List Prop × SV)
  | [.agg [.int .i64 a, .int .i64 b], .agg [.int .i64 c, .int .i64 d]] => some ([], .tup [SI (if M.within a b (-4000000) 4000000 && M.within c d (-4000000) 4000000 then M.heading a b c d else 0), SI (if M.within a b (-4000000) 4000000 && M.within c d (-4000000) 4000000 then 0 else 3)])
  | _ => none
def Rr21 (a b c d : Int) : Prop := ((!!M.within a b (-4000000 : Int) (4000000 : Int)) = true → (!!M.within a b (-4000000 : Int) (4000000 : Int)) = true) ∧ ((!!M.within a b (-4000000 : Int) (4000000 : Int)) = true → (!!M.within a b (-4000000 : Int) (4000000 : Int)) = true) ∧ ((!!M.within a b (-4000000 : Int) (4000000 : Int)) = true → (!!M.within a b (-4000000 : Int) (4000000 : Int)) = true) ∧ ((!M.within a b (-4000000 : Int) (4000000 : Int)) = false → (!!M.within a b (-4000000 : Int) (4000000 : Int)) = true) ∧ ((bif !M.within a b (-4000000 : Int) (4000000 : Int) then true else !M.within c d (-4000000 : Int) (4000000 : Int)) = true → ((0 : Int) = if (M.within a b (-4000000 : Int) (4000000 : Int) && M.within c d (-4000000 : Int) (4000000 : Int)) = true then M.heading a b c d else (0 : Int)) ∧ (3 : Int) = if (M.within a b (-4000000 : Int) (4000000 : Int) && M.within c d (-4000000 : Int) (4000000 : Int)) = true then (0 : Int) else (3 : Int)) ∧ ((bif !M.within a b (-4000000 : Int) (4000000 : Int) then true else !M.within c d (-4000000 : Int) (4000000 : Int)) = false → M.Sm a ∧ M.Sm b ∧ M.Sm c ∧ M.Sm d ∧ (M.heading a b c d = if (M.within a b (-4000000 : Int) (4000000 : Int) && M.within c d (-4000000 : Int) (4000000 : Int)) = true then M.heading a b c d else (0 : Int)) ∧ (0 : Int) = if (M.within a b (-4000000 : Int) (4000000 : Int) && M.within c d (-4000000 : Int) (4000000 : Int)) = true then (0 : Int) else (3 : Int))
theorem r21 (a b c d : Int) : V true [] [(67, pureE e67), (69, pureE e69)] Try.f21 [0,1,2,3,4,5,15] [] [.agg [SI a, SI b], .agg [SI c, SI d]] (.tup [SI (if M.within a b (-4000000) 4000000 && M.within c d (-4000000) 4000000 then M.heading a b c d else 0), SI (if M.within a b (-4000000) 4000000 && M.within c d (-4000000) 4000000 then 0 else 3)]) = Rr21 a b c d := by kernel_rfl
theorem br21 (a b c d : Int)  : Rr21 a b c d := by
  unfold Rr21
  have hw : ∀ x y, M.within x y (-4000000) 4000000 = true → M.Sm x ∧ M.Sm y := fun x y h => by
    simp only [M.within, Bool.and_eq_true, decide_eq_true_eq] at h
    unfold M.Sm; omega
  have h1 := hw a b
  have h2 := hw c d
  generalize M.within a b (-4000000) 4000000 = b1 at *
  generalize M.within c d (-4000000) 4000000 = b2 at *
  cases b1 <;> cases b2 <;> simp
  exact ⟨(h1 rfl).1, (h1 rfl).2, (h2 rfl).1, (h2 rfl).2⟩
theorem s21 : PureOK PP 21 e21 := by
  intro xs ps res h hp
  unfold e21 at h
  split at h
  · rename_i a b c d
    simp only [Option.some.injEq, Prod.mk.injEq] at h
    obtain ⟨rfl, rfl⟩ := h
    clear hp
    refine enter (L := [0,1,2,3,4,5,15]) (LO := []) (E := []) (O := [(67, pureE e67), (69, pureE e69)]) (ck := true) (.nil) (.cons (pureE_ok s67) (.cons (pureE_ok s69) (.nil))) (k := 21) (f := Try.f21) (xs := [.agg [SI a, SI b], .agg [SI c, SI d]]) (r := (.tup [SI (if M.within a b (-4000000) 4000000 && M.within c d (-4000000) 4000000 then M.heading a b c d else 0), SI (if M.within a b (-4000000) 4000000 && M.within c d (-4000000) 4000000 then 0 else 3)])) (by kernel_rfl) (by kernel_rfl) (fun _ => .nil) ?_
    exact Hold.of (r21 a b c d) (br21 a b c d )
  · cases h
def e56 : List SV → Option (List Prop × SV)
  | [.agg [.int .i64 x0, .int .i64 x1, .int .i64 y0, .int .i64 y1, .int .i64 r, .int .i64 m0, .int .i64 m1, .int .i64 l0, .int .i64 l1]] => some ([], SI (M.stormE x0 x1 y0 y1 r m0 m1 l0 l1))
  | _ => none
def Rr56 (x0 x1 y0 y1 r m0 m1 l0 l1 : Int) : Prop := ((!!M.within x0 x1 (-1000000 : Int) (1000000 : Int)) = true → (!!M.within x0 x1 (-1000000 : Int) (1000000 : Int)) = true) ∧ ((!!M.within x0 x1 (-1000000 : Int) (1000000 : Int)) = true → (!!M.within x0 x1 (-1000000 : Int) (1000000 : Int)) = true) ∧ ((!!M.within x0 x1 (-1000000 : Int) (1000000 : Int)) = true → (!!M.within x0 x1 (-1000000 : Int) (1000000 : Int)) = true) ∧ ((!!M.within x0 x1 (-1000000 : Int) (1000000 : Int)) = true → (!!M.within x0 x1 (-1000000 : Int) (1000000 : Int)) = true) ∧ ((!M.within x0 x1 (-1000000 : Int) (1000000 : Int)) = false → (!!M.within x0 x1 (-1000000 : Int) (1000000 : Int)) = true) ∧ ((!bif !M.within x0 x1 (-1000000 : Int) (1000000 : Int) then true else !M.within y0 y1 (-1000000 : Int) (1000000 : Int)) = true → (!bif !M.within x0 x1 (-1000000 : Int) (1000000 : Int) then true else !M.within y0 y1 (-1000000 : Int) (1000000 : Int)) = true) ∧ ((!bif !M.within x0 x1 (-1000000 : Int) (1000000 : Int) then true else !M.within y0 y1 (-1000000 : Int) (1000000 : Int)) = true → (!bif !M.within x0 x1 (-1000000 : Int) (1000000 : Int) then true else !M.within y0 y1 (-1000000 : Int) (1000000 : Int)) = true) ∧ ((bif !M.within x0 x1 (-1000000 : Int) (1000000 : Int) then true else !M.within y0 y1 (-1000000 : Int) (1000000 : Int)) = false → (!bif !M.within x0 x1 (-1000000 : Int) (1000000 : Int) then true else !M.within y0 y1 (-1000000 : Int) (1000000 : Int)) = true) ∧ ((!bif bif !M.within x0 x1 (-1000000 : Int) (1000000 : Int) then true else !M.within y0 y1 (-1000000 : Int) (1000000 : Int) then true else decide (r < (1 : Int))) = true → (!bif bif !M.within x0 x1 (-1000000 : Int) (1000000 : Int) then true else !M.within y0 y1 (-1000000 : Int) (1000000 : Int) then true else decide (r < (1 : Int))) = true) ∧ ((!bif bif !M.within x0 x1 (-1000000 : Int) (1000000 : Int) then true else !M.within y0 y1 (-1000000 : Int) (1000000 : Int) then true else decide (r < (1 : Int))) = true → (!bif bif !M.within x0 x1 (-1000000 : Int) (1000000 : Int) then true else !M.within y0 y1 (-1000000 : Int) (1000000 : Int) then true else decide (r < (1 : Int))) = true) ∧ ((bif bif !M.within x0 x1 (-1000000 : Int) (1000000 : Int) then true else !M.within y0 y1 (-1000000 : Int) (1000000 : Int) then true else decide (r < (1 : Int))) = false → (!bif bif !M.within x0 x1 (-1000000 : Int) (1000000 : Int) then true else !M.within y0 y1 (-1000000 : Int) (1000000 : Int) then true else decide (r < (1 : Int))) = true) ∧ ((!bif bif bif !M.within x0 x1 (-1000000 : Int) (1000000 : Int) then true else !M.within y0 y1 (-1000000 : Int) (1000000 : Int) then true else decide (r < (1 : Int)) then true else decide ((1000000 : Int) < r)) = true → (!bif bif bif !M.within x0 x1 (-1000000 : Int) (1000000 : Int) then true else !M.within y0 y1 (-1000000 : Int) (1000000 : Int) then true else decide (r < (1 : Int)) then true else decide ((1000000 : Int) < r)) = true) ∧ ((!bif bif bif !M.within x0 x1 (-1000000 : Int) (1000000 : Int) then true else !M.within y0 y1 (-1000000 : Int) (1000000 : Int) then true else decide (r < (1 : Int)) then true else decide ((1000000 : Int) < r)) = true → (!bif bif bif !M.within x0 x1 (-1000000 : Int) (1000000 : Int) then true else !M.within y0 y1 (-1000000 : Int) (1000000 : Int) then true else decide (r < (1 : Int)) then true else decide ((1000000 : Int) < r)) = true) ∧ ((!bif bif bif !M.within x0 x1 (-1000000 : Int) (1000000 : Int) then true else !M.within y0 y1 (-1000000 : Int) (1000000 : Int) then true else decide (r < (1 : Int)) then true else decide ((1000000 : Int) < r)) = true → (!bif bif bif !M.within x0 x1 (-1000000 : Int) (1000000 : Int) then true else !M.within y0 y1 (-1000000 : Int) (1000000 : Int) then true else decide (r < (1 : Int)) then true else decide ((1000000 : Int) < r)) = true) ∧ ((!bif bif bif !M.within x0 x1 (-1000000 : Int) (1000000 : Int) then true else !M.within y0 y1 (-1000000 : Int) (1000000 : Int) then true else decide (r < (1 : Int)) then true else decide ((1000000 : Int) < r)) = true → (!bif bif bif !M.within x0 x1 (-1000000 : Int) (1000000 : Int) then true else !M.within y0 y1 (-1000000 : Int) (1000000 : Int) then true else decide (r < (1 : Int)) then true else decide ((1000000 : Int) < r)) = true) ∧ ((bif bif bif !M.within x0 x1 (-1000000 : Int) (1000000 : Int) then true else !M.within y0 y1 (-1000000 : Int) (1000000 : Int) then true else decide (r < (1 : Int)) then true else decide ((1000000 : Int) < r)) = false → (!bif bif bif !M.within x0 x1 (-1000000 : Int) (1000000 : Int) then true else !M.within y0 y1 (-1000000 : Int) (1000000 : Int) then true else decide (r < (1 : Int)) then true else decide ((1000000 : Int) < r)) = true) ∧ ((!bif bif bif bif !M.within x0 x1 (-1000000 : Int) (1000000 : Int) then true else !M.within y0 y1 (-1000000 : Int) (1000000 : Int) then true else decide (r < (1 : Int)) then true else decide ((1000000 : Int) < r) then true else !M.within m0 m1 (0 : Int) (10000 : Int)) = true → (!bif bif bif bif !M.within x0 x1 (-1000000 : Int) (1000000 : Int) then true else !M.within y0 y1 (-1000000 : Int) (1000000 : Int) then true else decide (r < (1 : Int)) then true else decide ((1000000 : Int) < r) then true else !M.within m0 m1 (0 : Int) (10000 : Int)) = true) ∧ ((!bif bif bif bif !M.within x0 x1 (-1000000 : Int) (1000000 : Int) then true else !M.within y0 y1 (-1000000 : Int) (1000000 : Int) then true else decide (r < (1 : Int)) then true else decide ((1000000 : Int) < r) then true else !M.within m0 m1 (0 : Int) (10000 : Int)) = true → (!bif bif bif bif !M.within x0 x1 (-1000000 : Int) (1000000 : Int) then true else !M.within y0 y1 (-1000000 : Int) (1000000 : Int) then true else decide (r < (1 : Int)) then true else decide ((1000000 : Int) < r) then true else !M.within m0 m1 (0 : Int) (10000 : Int)) = true) ∧ ((!bif bif bif bif !M.within x0 x1 (-1000000 : Int) (1000000 : Int) then true else !M.within y0 y1 (-1000000 : Int) (1000000 : Int) then true else decide (r < (1 : Int)) then true else decide ((1000000 : Int) < r) then true else !M.within m0 m1 (0 : Int) (10000 : Int)) = true → (!bif bif bif bif !M.within x0 x1 (-1000000 : Int) (1000000 : Int) then true else !M.within y0 y1 (-1000000 : Int) (1000000 : Int) then true else decide (r < (1 : Int)) then true else decide ((1000000 : Int) < r) then true else !M.within m0 m1 (0 : Int) (10000 : Int)) = true) ∧ ((!bif bif bif bif !M.within x0 x1 (-1000000 : Int) (1000000 : Int) then true else !M.within y0 y1 (-1000000 : Int) (1000000 : Int) then true else decide (r < (1 : Int)) then true else decide ((1000000 : Int) < r) then true else !M.within m0 m1 (0 : Int) (10000 : Int)) = true → (!bif bif bif bif !M.within x0 x1 (-1000000 : Int) (1000000 : Int) then true else !M.within y0 y1 (-1000000 : Int) (1000000 : Int) then true else decide (r < (1 : Int)) then true else decide ((1000000 : Int) < r) then true else !M.within m0 m1 (0 : Int) (10000 : Int)) = true) ∧ ((bif bif bif bif !M.within x0 x1 (-1000000 : Int) (1000000 : Int) then true else !M.within y0 y1 (-1000000 : Int) (1000000 : Int) then true else decide (r < (1 : Int)) then true else decide ((1000000 : Int) < r) then true else !M.within m0 m1 (0 : Int) (10000 : Int)) = false → (!bif bif bif bif !M.within x0 x1 (-1000000 : Int) (1000000 : Int) then true else !M.within y0 y1 (-1000000 : Int) (1000000 : Int) then true else decide (r < (1 : Int)) then true else decide ((1000000 : Int) < r) then true else !M.within m0 m1 (0 : Int) (10000 : Int)) = true) ∧ ((bif bif bif bif bif !M.within x0 x1 (-1000000 : Int) (1000000 : Int) then true else !M.within y0 y1 (-1000000 : Int) (1000000 : Int) then true else decide (r < (1 : Int)) then true else decide ((1000000 : Int) < r) then true else !M.within m0 m1 (0 : Int) (10000 : Int) then true else !M.within l0 l1 (0 : Int) (20000 : Int)) = true → (3 : Int) = M.stormE x0 x1 y0 y1 r m0 m1 l0 l1) ∧ ((bif bif bif bif bif !M.within x0 x1 (-1000000 : Int) (1000000 : Int) then true else !M.within y0 y1 (-1000000 : Int) (1000000 : Int) then true else decide (r < (1 : Int)) then true else decide ((1000000 : Int) < r) then true else !M.within m0 m1 (0 : Int) (10000 : Int) then true else !M.within l0 l1 (0 : Int) (20000 : Int)) = false → (0 : Int) = M.stormE x0 x1 y0 y1 r m0 m1 l0 l1)
theorem r56 (x0 x1 y0 y1 r m0 m1 l0 l1 : Int) : V true [] [(69, pureE e69)] Try.f56 [0,1,2,38] [] [.agg [SI x0, SI x1, SI y0, SI y1, SI r, SI m0, SI m1, SI l0, SI l1]] (SI (M.stormE x0 x1 y0 y1 r m0 m1 l0 l1)) = Rr56 x0 x1 y0 y1 r m0 m1 l0 l1 := by kernel_rfl
theorem br56 (x0 x1 y0 y1 r m0 m1 l0 l1 : Int)  : Rr56 x0 x1 y0 y1 r m0 m1 l0 l1 := by
  unfold Rr56
  unfold M.stormE
  have e1 : decide (r < 1) = !decide (1 ≤ r) := by by_cases h : 1 ≤ r <;> simp [h] <;> omega
  have e2 : decide (1000000 < r) = !decide (r ≤ 1000000) := by by_cases h : r ≤ 1000000 <;> simp [h] <;> omega
  simp only [e1, e2]
  generalize M.within x0 x1 (-1000000) 1000000 = b1
  generalize M.within y0 y1 (-1000000) 1000000 = b2
  generalize decide (1 ≤ r) = b3
  generalize decide (r ≤ 1000000) = b4
  generalize M.within m0 m1 0 10000 = b5
  generalize M.within l0 l1 0 20000 = b6
  clear e1 e2
  cases b1 <;> cases b2 <;> cases b3 <;> cases b4 <;> cases b5 <;> cases b6 <;> simp
theorem s56 : PureOK PP 56 e56 := by
  intro xs ps res h hp
  unfold e56 at h
  split at h
  · rename_i x0 x1 y0 y1 r m0 m1 l0 l1
    simp only [Option.some.injEq, Prod.mk.injEq] at h
    obtain ⟨rfl, rfl⟩ := h
    clear hp
    refine enter (L := [0,1,2,38]) (LO := []) (E := []) (O := [(69, pureE e69)]) (ck := true) (.nil) (.cons (pureE_ok s69) (.nil)) (k := 56) (f := Try.f56) (xs := [.agg [SI x0, SI x1, SI y0, SI y1, SI r, SI m0, SI m1, SI l0, SI l1]]) (r := (SI (M.stormE x0 x1 y0 y1 r m0 m1 l0 l1))) (by kernel_rfl) (by kernel_rfl) (fun _ => .nil) ?_
    exact Hold.of (r56 x0 x1 y0 y1 r m0 m1 l0 l1) (br56 x0 x1 y0 y1 r m0 m1 l0 l1 )
  · cases h
end Go.Proofs.Ytkklmkogdogbkaa.Sep
/-
  What the stage 'surge' computes, in plain numbers: the wind of a storm. No condition. (This text proves no statement by itself.)
-/
namespace Go.Proofs.Ytkklmkogdogbkaa.M
/-- A storm and a cell. -/
structure Bl where
  w : Int
  s : Int
  c : Int
  x0 : Int
  x1 : Int
  y0 : Int
  y1 : Int
  r : Int
  m0 : Int
  m1 : Int
  l0 : Int
  l1 : Int
structure Bl.ok (g : Bl) : Prop where
  p1 : 0 ≤ g.c.tmod g.w * g.s
  p2 : g.c.tmod g.w * g.s ≤ 240000
  p3 : 0 ≤ g.c.tdiv g.w * g.s
  p4 : g.c.tdiv g.w * g.s ≤ 240000
  x1 : g.x0 ≤ g.x1
  x2 : -1000000 ≤ g.x0
  x3 : g.x1 ≤ 1000000
  y1 : g.y0 ≤ g.y1
  y2 : -1000000 ≤ g.y0
  y3 : g.y1 ≤ 1000000
  r1 : 1 ≤ g.r
  r2 : g.r ≤ 1000000
  m1 : g.m0 ≤ g.m1
  m2 : 0 ≤ g.m0
  m3 : g.m1 ≤ 10000
  l1 : g.l0 ≤ g.l1
  l2 : 0 ≤ g.l0
  l3 : g.l1 ≤ 20000
def Bl.X0 (g : Bl) : Int := g.c.tmod g.w * g.s - g.x1
def Bl.X1 (g : Bl) : Int := g.c.tmod g.w * g.s - g.x0
def Bl.Y0 (g : Bl) : Int := g.c.tdiv g.w * g.s - g.y1
def Bl.Y1 (g : Bl) : Int := g.c.tdiv g.w * g.s - g.y0
def Bl.D0 (g : Bl) : Int := root (near g.X0 g.X1 * near g.X0 g.X1 + near g.Y0 g.Y1 * near g.Y0 g.Y1 + 1) - 1
def Bl.D1 (g : Bl) : Int := root (far g.X0 g.X1 * far g.X0 g.X1 + far g.Y0 g.Y1 * far g.Y0 g.Y1)
def Bl.D (g : Bl) (k : Nat) : Int := bif decide (k = 1) then g.D1 else g.D0
def Bl.sLo (g : Bl) (k : Nat) : Int := g.m0 * min (g.D k) g.r / max (g.D k) g.r
def Bl.sHi (g : Bl) (k : Nat) : Int := -(-(g.m1 * min (g.D k) g.r) / max (g.D k) g.r)
/-- The speed, the bearing and the fall of pressure. -/
def Bl.S0 (g : Bl) : Int := min (g.sLo 0) (g.sLo 1)
def Bl.S1 (g : Bl) : Int := if g.D0 ≤ g.r ∧ g.r ≤ g.D1 then g.m1 else max (g.sHi 0) (g.sHi 1)
def Bl.H (g : Bl) : Int := heading (-g.Y1) (-g.Y0) g.X0 g.X1
def Bl.F0 (g : Bl) : Int := if g.r < g.D1 then 0 else g.l0
theorem first_pos {p : Nat → Bool} {n : Nat} (hn : 0 < n) (h : p 0 = false) : 1 ≤ first p n := by
  have h1 := (first_spec p n).2.2
  rcases Nat.eq_zero_or_pos (first p n) with h2 | h2
  · rw [h2] at h1
    have := h1 hn
    rw [h] at this; cases this
  · exact h2
theorem first_posI {p : Nat → Bool} {n : Nat} (hn : 0 < n) (h : p 0 = false) : (1 : Int) ≤ ((first p n : Nat) : Int) := by
  have := first_pos hn h
  omega
theorem root_eq {n : Int} {N : Nat} (hN : N = 16777216) : root n = ((first (fun k : Nat => decide (n ≤ (k : Int) * k)) N : Nat) : Int) := by subst hN; rfl
theorem root_pos {n : Int} (h : 1 ≤ n) : 1 ≤ root n := by
  obtain ⟨N, hN⟩ : ∃ N, N = 16777216 := ⟨_, rfl⟩
  rw [root_eq hN]
  exact first_posI (by omega) (decide_eq_false (by simp; omega))
theorem sq_bd {a m : Int} (h : 0 ≤ a) (h' : a ≤ m) : 0 ≤ a * a ∧ a * a ≤ m * m := mul_bd h h' h h'
theorem Bl.ok.vec {g : Bl} (h : g.ok) : -1000000 ≤ g.X0 ∧ g.X0 ≤ g.X1 ∧ g.X1 ≤ 1240000 ∧ -1000000 ≤ g.Y0 ∧ g.Y0 ≤ g.Y1 ∧ g.Y1 ≤ 1240000 := by
  obtain ⟨p1, p2, p3, p4, x1, x2, x3, y1, y2, y3, -, -, -, -, -, -, -, -⟩ := h
  unfold X0 X1 Y0 Y1
  omega
theorem near_bd {a b m : Int} (h0 : 0 ≤ m) (h1 : -m ≤ a) (h2 : a ≤ b) (h3 : b ≤ m) : 0 ≤ near a b ∧ near a b ≤ m ∧ 0 ≤ far a b ∧ far a b ≤ m := by
  unfold near far; omega
theorem Bl.ok.sq {g : Bl} (h : g.ok) : (0 ≤ near g.X0 g.X1 * near g.X0 g.X1 ∧ near g.X0 g.X1 * near g.X0 g.X1 ≤ 1537600000000) ∧ (0 ≤ near g.Y0 g.Y1 * near g.Y0 g.Y1 ∧ near g.Y0 g.Y1 * near g.Y0 g.Y1 ≤ 1537600000000) ∧
    (0 ≤ far g.X0 g.X1 * far g.X0 g.X1 ∧ far g.X0 g.X1 * far g.X0 g.X1 ≤ 1537600000000) ∧ (0 ≤ far g.Y0 g.Y1 * far g.Y0 g.Y1 ∧ far g.Y0 g.Y1 * far g.Y0 g.Y1 ≤ 1537600000000) := by
  have hv := h.vec
  have a := near_bd (a := g.X0) (b := g.X1) (m := 1240000) (by omega) (by omega) (by omega) (by omega)
  have b := near_bd (a := g.Y0) (b := g.Y1) (m := 1240000) (by omega) (by omega) (by omega) (by omega)
  exact ⟨sq_bd a.1 a.2.1, sq_bd b.1 b.2.1, sq_bd a.2.2.1 a.2.2.2, sq_bd b.2.2.1 b.2.2.2⟩
theorem Bl.ok.dist {g : Bl} (h : g.ok) : 0 ≤ g.D0 ∧ g.D0 ≤ 16777216 ∧ 0 ≤ g.D1 ∧ g.D1 ≤ 16777216 := by
  have := h.sq
  unfold D0 D1
  have a := root_le (near g.X0 g.X1 * near g.X0 g.X1 + near g.Y0 g.Y1 * near g.Y0 g.Y1 + 1)
  have b := root_pos (n := near g.X0 g.X1 * near g.X0 g.X1 + near g.Y0 g.Y1 * near g.Y0 g.Y1 + 1) (by omega)
  have c := root_le (far g.X0 g.X1 * far g.X0 g.X1 + far g.Y0 g.Y1 * far g.Y0 g.Y1)
  omega

theorem cond_bd {b : Bool} {p q l u : Int} (hp : l ≤ p ∧ p ≤ u) (hq : l ≤ q ∧ q ≤ u) : l ≤ (bif b then p else q) ∧ (bif b then p else q) ≤ u := by
  cases b
  · exact hq
  · exact hp
theorem Bl.ok.hD {g : Bl} (h : g.ok) (k : Nat) : 0 ≤ g.D k ∧ g.D k ≤ 16777216 := by
  have hd := h.dist
  exact cond_bd ⟨hd.2.2.1, hd.2.2.2⟩ ⟨hd.1, hd.2.1⟩
theorem spd {D r m0 m1 : Int} (hD : 0 ≤ D ∧ D ≤ 16777216) (r1 : 1 ≤ r) (r2 : r ≤ 1000000) (a1 : m0 ≤ m1) (a2 : 0 ≤ m0) (a3 : m1 ≤ 10000) : 1 ≤ max D r ∧ max D r ≤ 16777216 ∧ 0 ≤ m0 * min D r ∧ m0 * min D r ≤ 10000000000 ∧ 0 ≤ m1 * min D r ∧ m1 * min D r ≤ 10000000000 ∧ 0 ≤ m0 * min D r / max D r ∧ m0 * min D r / max D r ≤ 10000000000 ∧ 0 ≤ -(-(m1 * min D r) / max D r) ∧ -(-(m1 * min D r) / max D r) ≤ 10000000000 := by
  have a := mul_bd (a := m0) (b := min D r) (p := 10000) (q := 1000000) (by omega) (by omega) (by omega) (by omega)
  have b := mul_bd (a := m1) (b := min D r) (p := 10000) (q := 1000000) (by omega) (by omega) (by omega) (by omega)
  have hm : 1 ≤ max D r ∧ max D r ≤ 16777216 := by omega
  have e1 := ediv_le (b := max D r) (by omega) a.1
  have e2 := ediv_abs (a := -(m1 * min D r)) (b := max D r) (m := 10000000000) (by omega) (by omega) (by omega)
  have e3 : -(m1 * min D r) / max D r ≤ 0 := by
    have := Int.ediv_le_ediv (c := max D r) (by omega) (show -(m1 * min D r) ≤ 0 by omega)
    simpa using this
  refine ⟨hm.1, hm.2, a.1, by omega, b.1, by omega, e1.1, by omega, by omega, by omega⟩
theorem Bl.ok.speed {g : Bl} (h : g.ok) (k : Nat) : 1 ≤ max (g.D k) g.r ∧ max (g.D k) g.r ≤ 16777216 ∧ 0 ≤ g.m0 * min (g.D k) g.r ∧ g.m0 * min (g.D k) g.r ≤ 10000000000 ∧ 0 ≤ g.m1 * min (g.D k) g.r ∧ g.m1 * min (g.D k) g.r ≤ 10000000000 ∧ 0 ≤ g.sLo k ∧ g.sLo k ≤ 10000000000 ∧ 0 ≤ g.sHi k ∧ g.sHi k ≤ 10000000000 :=
  spd (h.hD k) h.r1 h.r2 h.m1 h.m2 h.m3
/-- The error of a wind of a storm. -/
def blowE (w h s : Int) (n : Nat) (x y : Nat → Int) (x0 x1 y0 y1 r m0 m1 l0 l1 c : Int) : Int :=
  if gridE w h s n x y = 0 then if stormE x0 x1 y0 y1 r m0 m1 l0 l1 = 0 then if decide (c < 0) || decide (w * h ≤ c) then 4 else 0 else stormE x0 x1 y0 y1 r m0 m1 l0 l1 else gridE w h s n x y
theorem blow_ok {w h s : Int} {n : Nat} {x y : Nat → Int} {x0 x1 y0 y1 r m0 m1 l0 l1 c : Int} (hE : blowE w h s n x y x0 x1 y0 y1 r m0 m1 l0 l1 c = 0) : (Bl.mk w s c x0 x1 y0 y1 r m0 m1 l0 l1).ok := by
  unfold blowE at hE
  have h1 : gridE w h s n x y = 0 := by
    split at hE
    · assumption
    · exact hE
  rw [if_pos h1] at hE
  have h2 : stormE x0 x1 y0 y1 r m0 m1 l0 l1 = 0 := by
    split at hE
    · assumption
    · exact hE
  rw [if_pos h2] at hE
  obtain ⟨a1, a2, a3, a4, a5, a6, -, -⟩ := gridE_iff.1 h1
  unfold stormE within at h2
  have h3 : ¬ (decide (c < 0) || decide (w * h ≤ c)) = true := by
    intro h3; rw [if_pos h3] at hE; cases hE
  simp only [Bool.or_eq_true, decide_eq_true_eq] at h3
  split at h2
  · rename_i h4
    simp only [Bool.and_eq_true, decide_eq_true_eq] at h4
    have hc := cell_at (w := w) (h := h) (c := c) a1 (by omega) (by omega)
    have m1 := mul_bd (a := c.tmod w) (b := s) (p := 24) (q := 10000) (by omega) (by omega) (by omega) a6
    have m2 := mul_bd (a := c.tdiv w) (b := s) (p := 24) (q := 10000) (by omega) (by omega) (by omega) a6
    constructor <;> simp only <;> omega
  · cases h2
end Go.Proofs.Ytkklmkogdogbkaa.M
/-
  The contract of Blow of the stage 'surge'. No condition. (This text proves no statement by itself.)
-/
namespace Go.Proofs.Ytkklmkogdogbkaa.Sep
open Go
set_option linter.unusedVariables false
set_option linter.unusedSimpArgs false
theorem bif_last (f g : Nat → Int) {j k : Nat} (hj : j < k + 1) : (bif decide (j < k) then f j else f k) = f j ∧ (bif decide (j < k) then g j else g k) = g j := by
  by_cases h : j < k
  · simp [h]
  · have : j = k := by omega
    subst this; simp
theorem bif_two {k : Nat} {p q : Int} (hk : k < 2) : (bif decide (k = 1) then p else bif decide (k = 0) then q else 0) = (bif decide (k = 1) then p else q) := by
  have : k = 0 ∨ k = 1 := by omega
  rcases this with e | e <;> subst e <;> rfl
theorem cell_of {w h s lo hi c : Int} {n : Nat} {x y : Nat → Int} (hE : M.W.hasE (M.W.mk w h s n x y lo hi) c = 0) : 0 ≤ c ∧ c < w * h := by
  unfold M.W.hasE at hE
  by_cases h1 : (decide (c < 0) || decide (w * h ≤ c)) = true
  · simp only [h1, if_true] at hE; cases hE
  · simp only [Bool.or_eq_true, decide_eq_true_eq] at h1; omega
def lp16 (w s c x0 x1 y0 y1 r m0 m1 l0 l1 : Int) : LoopS where
  ι := Nat
  β := Unit
  pre k := k ≤ 2 ∧ M.Bl.ok (M.Bl.mk w s c x0 x1 y0 y1 r m0 m1 l0 l1)
  μ k := 2 - k
  next k _ _ _ := k + 1
  out _ := ()
  early _ := false
  SA k := [(4, .ptr 0 0), (6, .ptr 1 0), (13, .ptr 2 0), (14, .ptr 3 0), (15, .ptr 4 0), (16, .vec 5 2 0 k), (103, .vec 6 1 0 2), (104, SI 2), (105, SI k)]
  SH k := [(0, .cells [SI x0, SI x1, SI y0, SI y1, SI r, SI m0, SI m1, SI l0, SI l1]), (1, .cells [SI 0, SI 0, SI 0, SI 0, SI 0]), (2, .cells [SI (M.Bl.X0 (M.Bl.mk w s c x0 x1 y0 y1 r m0 m1 l0 l1)), SI (M.Bl.X1 (M.Bl.mk w s c x0 x1 y0 y1 r m0 m1 l0 l1))]), (3, .cells [SI (M.Bl.Y0 (M.Bl.mk w s c x0 x1 y0 y1 r m0 m1 l0 l1)), SI (M.Bl.Y1 (M.Bl.mk w s c x0 x1 y0 y1 r m0 m1 l0 l1))]), (4, .cells [SI (M.Bl.D0 (M.Bl.mk w s c x0 x1 y0 y1 r m0 m1 l0 l1)), SI (M.Bl.D1 (M.Bl.mk w s c x0 x1 y0 y1 r m0 m1 l0 l1))]), (5, .row 2 k (fun j => [SI (M.Bl.sLo (M.Bl.mk w s c x0 x1 y0 y1 r m0 m1 l0 l1) j), SI (M.Bl.sHi (M.Bl.mk w s c x0 x1 y0 y1 r m0 m1 l0 l1) j)])), (6, .row 1 2 (fun j => [SI (M.Bl.D (M.Bl.mk w s c x0 x1 y0 y1 r m0 m1 l0 l1) j)]))]
  n0 := 7
  NA _ := [(4, .ptr 0 0), (6, .ptr 1 0), (13, .ptr 2 0), (14, .ptr 3 0), (15, .ptr 4 0), (16, .vec 5 2 0 2)]
  NH _ := [(0, .cells [SI x0, SI x1, SI y0, SI y1, SI r, SI m0, SI m1, SI l0, SI l1]), (1, .cells [SI 0, SI 0, SI 0, SI 0, SI 0]), (2, .cells [SI (M.Bl.X0 (M.Bl.mk w s c x0 x1 y0 y1 r m0 m1 l0 l1)), SI (M.Bl.X1 (M.Bl.mk w s c x0 x1 y0 y1 r m0 m1 l0 l1))]), (3, .cells [SI (M.Bl.Y0 (M.Bl.mk w s c x0 x1 y0 y1 r m0 m1 l0 l1)), SI (M.Bl.Y1 (M.Bl.mk w s c x0 x1 y0 y1 r m0 m1 l0 l1))]), (4, .cells [SI (M.Bl.D0 (M.Bl.mk w s c x0 x1 y0 y1 r m0 m1 l0 l1)), SI (M.Bl.D1 (M.Bl.mk w s c x0 x1 y0 y1 r m0 m1 l0 l1))]), (5, .row 2 2 (fun j => [SI (M.Bl.sLo (M.Bl.mk w s c x0 x1 y0 y1 r m0 m1 l0 l1) j), SI (M.Bl.sHi (M.Bl.mk w s c x0 x1 y0 y1 r m0 m1 l0 l1) j)]))]
  n1 := 6
  RA _ := []
  RH _ := []
def Rq16 (w s c x0 x1 y0 y1 r m0 m1 l0 l1 : Int) (k : Nat) : Prop := (decide ((↑k : Int) < (2 : Int)) = true → (0 : Int) ≤ (↑k : Int) ∧ (↑k : Int) < (↑(2 : Nat) : Int) ∧ (0 : Nat) + Int.toNat (↑k : Int) < (2 : Nat) ∧ R64 (m0 * min (M.Bl.D (M.Bl.mk w s c x0 x1 y0 y1 r m0 m1 l0 l1) ((0 : Nat) + Int.toNat (↑k : Int))) r) ∧ (0 : Int) < max (M.Bl.D (M.Bl.mk w s c x0 x1 y0 y1 r m0 m1 l0 l1) ((0 : Nat) + Int.toNat (↑k : Int))) r ∧ R64 (m0 * min (M.Bl.D (M.Bl.mk w s c x0 x1 y0 y1 r m0 m1 l0 l1) ((0 : Nat) + Int.toNat (↑k : Int))) r) ∧ R64 (max (M.Bl.D (M.Bl.mk w s c x0 x1 y0 y1 r m0 m1 l0 l1) ((0 : Nat) + Int.toNat (↑k : Int))) r) ∧ R64 (max (M.Bl.D (M.Bl.mk w s c x0 x1 y0 y1 r m0 m1 l0 l1) ((0 : Nat) + Int.toNat (↑k : Int))) r - (1 : Int) - m0 * min (M.Bl.D (M.Bl.mk w s c x0 x1 y0 y1 r m0 m1 l0 l1) ((0 : Nat) + Int.toNat (↑k : Int))) r) ∧ R64 (m1 * min (M.Bl.D (M.Bl.mk w s c x0 x1 y0 y1 r m0 m1 l0 l1) ((0 : Nat) + Int.toNat (↑k : Int))) r) ∧ (0 : Int) < max (M.Bl.D (M.Bl.mk w s c x0 x1 y0 y1 r m0 m1 l0 l1) ((0 : Nat) + Int.toNat (↑k : Int))) r ∧ R64 (-(m1 * min (M.Bl.D (M.Bl.mk w s c x0 x1 y0 y1 r m0 m1 l0 l1) ((0 : Nat) + Int.toNat (↑k : Int))) r)) ∧ R64 (max (M.Bl.D (M.Bl.mk w s c x0 x1 y0 y1 r m0 m1 l0 l1) ((0 : Nat) + Int.toNat (↑k : Int))) r) ∧ R64 (max (M.Bl.D (M.Bl.mk w s c x0 x1 y0 y1 r m0 m1 l0 l1) ((0 : Nat) + Int.toNat (↑k : Int))) r - (1 : Int) + m1 * min (M.Bl.D (M.Bl.mk w s c x0 x1 y0 y1 r m0 m1 l0 l1) ((0 : Nat) + Int.toNat (↑k : Int))) r) ∧ R64 (-(-(m1 * min (M.Bl.D (M.Bl.mk w s c x0 x1 y0 y1 r m0 m1 l0 l1) ((0 : Nat) + Int.toNat (↑k : Int))) r) / max (M.Bl.D (M.Bl.mk w s c x0 x1 y0 y1 r m0 m1 l0 l1) ((0 : Nat) + Int.toNat (↑k : Int))) r)) ∧ (0 : Nat) + (1 : Nat) ≤ (1 : Nat) ∧ (∀ (k : Nat), k < (1 : Nat) → true = true) ∧ k ≤ k ∧ (k + (1 : Nat)) * (16 : Nat) ≤ (140737488355328 : Nat) ∧ R64 ((↑k : Int) + (1 : Int)) ∧ (k + (1 : Nat) ≤ (2 : Nat) ∧ M.Bl.ok (M.Bl.mk w s c x0 x1 y0 y1 r m0 m1 l0 l1)) ∧ (2 : Nat) - (k + (1 : Nat)) < (2 : Nat) - k ∧ () = () ∧ (0 : Nat) = (0 : Nat) ∧ k + (1 : Nat) = k + (1 : Nat) ∧ (0 : Nat) = (0 : Nat) ∧ (2 : Nat) = (2 : Nat) ∧ (2 : Int) = (2 : Int) ∧ (↑k : Int) + (1 : Int) = (↑(k + (1 : Nat)) : Int) ∧ x0 = x0 ∧ x1 = x1 ∧ y0 = y0 ∧ y1 = y1 ∧ r = r ∧ m0 = m0 ∧ m1 = m1 ∧ l0 = l0 ∧ l1 = l1 ∧ (0 : Int) = (0 : Int) ∧ (0 : Int) = (0 : Int) ∧ (0 : Int) = (0 : Int) ∧ (0 : Int) = (0 : Int) ∧ (0 : Int) = (0 : Int) ∧ M.Bl.X0 (M.Bl.mk w s c x0 x1 y0 y1 r m0 m1 l0 l1) = M.Bl.X0 (M.Bl.mk w s c x0 x1 y0 y1 r m0 m1 l0 l1) ∧ M.Bl.X1 (M.Bl.mk w s c x0 x1 y0 y1 r m0 m1 l0 l1) = M.Bl.X1 (M.Bl.mk w s c x0 x1 y0 y1 r m0 m1 l0 l1) ∧ M.Bl.Y0 (M.Bl.mk w s c x0 x1 y0 y1 r m0 m1 l0 l1) = M.Bl.Y0 (M.Bl.mk w s c x0 x1 y0 y1 r m0 m1 l0 l1) ∧ M.Bl.Y1 (M.Bl.mk w s c x0 x1 y0 y1 r m0 m1 l0 l1) = M.Bl.Y1 (M.Bl.mk w s c x0 x1 y0 y1 r m0 m1 l0 l1) ∧ M.Bl.D0 (M.Bl.mk w s c x0 x1 y0 y1 r m0 m1 l0 l1) = M.Bl.D0 (M.Bl.mk w s c x0 x1 y0 y1 r m0 m1 l0 l1) ∧ M.Bl.D1 (M.Bl.mk w s c x0 x1 y0 y1 r m0 m1 l0 l1) = M.Bl.D1 (M.Bl.mk w s c x0 x1 y0 y1 r m0 m1 l0 l1) ∧ k + (1 : Nat) = k + (1 : Nat) ∧ (∀ (k_1 : Nat), k_1 < k + (1 : Nat) → (bif decide (k_1 < k) then M.Bl.sLo (M.Bl.mk w s c x0 x1 y0 y1 r m0 m1 l0 l1) k_1 else m0 * min (M.Bl.D (M.Bl.mk w s c x0 x1 y0 y1 r m0 m1 l0 l1) ((0 : Nat) + Int.toNat (↑k : Int))) r / max (M.Bl.D (M.Bl.mk w s c x0 x1 y0 y1 r m0 m1 l0 l1) ((0 : Nat) + Int.toNat (↑k : Int))) r) = M.Bl.sLo (M.Bl.mk w s c x0 x1 y0 y1 r m0 m1 l0 l1) k_1 ∧ (bif decide (k_1 < k) then M.Bl.sHi (M.Bl.mk w s c x0 x1 y0 y1 r m0 m1 l0 l1) k_1 else -(-(m1 * min (M.Bl.D (M.Bl.mk w s c x0 x1 y0 y1 r m0 m1 l0 l1) ((0 : Nat) + Int.toNat (↑k : Int))) r) / max (M.Bl.D (M.Bl.mk w s c x0 x1 y0 y1 r m0 m1 l0 l1) ((0 : Nat) + Int.toNat (↑k : Int))) r)) = M.Bl.sHi (M.Bl.mk w s c x0 x1 y0 y1 r m0 m1 l0 l1) k_1) ∧ (2 : Nat) = (2 : Nat) ∧ (∀ (k : Nat), k < (2 : Nat) → M.Bl.D (M.Bl.mk w s c x0 x1 y0 y1 r m0 m1 l0 l1) k = M.Bl.D (M.Bl.mk w s c x0 x1 y0 y1 r m0 m1 l0 l1) k) ∧ True) ∧ (decide ((↑k : Int) < (2 : Int)) = false → false = false ∧ (0 : Nat) = (0 : Nat) ∧ k = (2 : Nat) ∧ x0 = x0 ∧ x1 = x1 ∧ y0 = y0 ∧ y1 = y1 ∧ r = r ∧ m0 = m0 ∧ m1 = m1 ∧ l0 = l0 ∧ l1 = l1 ∧ (0 : Int) = (0 : Int) ∧ (0 : Int) = (0 : Int) ∧ (0 : Int) = (0 : Int) ∧ (0 : Int) = (0 : Int) ∧ (0 : Int) = (0 : Int) ∧ M.Bl.X0 (M.Bl.mk w s c x0 x1 y0 y1 r m0 m1 l0 l1) = M.Bl.X0 (M.Bl.mk w s c x0 x1 y0 y1 r m0 m1 l0 l1) ∧ M.Bl.X1 (M.Bl.mk w s c x0 x1 y0 y1 r m0 m1 l0 l1) = M.Bl.X1 (M.Bl.mk w s c x0 x1 y0 y1 r m0 m1 l0 l1) ∧ M.Bl.Y0 (M.Bl.mk w s c x0 x1 y0 y1 r m0 m1 l0 l1) = M.Bl.Y0 (M.Bl.mk w s c x0 x1 y0 y1 r m0 m1 l0 l1) ∧ M.Bl.Y1 (M.Bl.mk w s c x0 x1 y0 y1 r m0 m1 l0 l1) = M.Bl.Y1 (M.Bl.mk w s c x0 x1 y0 y1 r m0 m1 l0 l1) ∧ M.Bl.D0 (M.Bl.mk w s c x0 x1 y0 y1 r m0 m1 l0 l1) = M.Bl.D0 (M.Bl.mk w s c x0 x1 y0 y1 r m0 m1 l0 l1) ∧ M.Bl.D1 (M.Bl.mk w s c x0 x1 y0 y1 r m0 m1 l0 l1) = M.Bl.D1 (M.Bl.mk w s c x0 x1 y0 y1 r m0 m1 l0 l1) ∧ k = (2 : Nat) ∧ (∀ (k_1 : Nat), k_1 < k → M.Bl.sLo (M.Bl.mk w s c x0 x1 y0 y1 r m0 m1 l0 l1) k_1 = M.Bl.sLo (M.Bl.mk w s c x0 x1 y0 y1 r m0 m1 l0 l1) k_1 ∧ M.Bl.sHi (M.Bl.mk w s c x0 x1 y0 y1 r m0 m1 l0 l1) k_1 = M.Bl.sHi (M.Bl.mk w s c x0 x1 y0 y1 r m0 m1 l0 l1) k_1) ∧ True)
theorem q16 (w s c x0 x1 y0 y1 r m0 m1 l0 l1 : Int) (k : Nat) : VL true [] [(58, pureE e58), (63, pureE e63), (64, pureE e64), (65, pureE e65)] YS.none Try.f16 0 [0,1,2,3,4,6,7,8,9,10,11,12,13,14,15,16,18,19,20,21,25,31,39,103,104,105,106,163,174] [] 0 (lp16 w s c x0 x1 y0 y1 r m0 m1 l0 l1) (k) = Rq16 w s c x0 x1 y0 y1 r m0 m1 l0 l1 k := by kernel_rfl
theorem peq16 (w s c x0 x1 y0 y1 r m0 m1 l0 l1 : Int) (k : Nat) : (lp16 w s c x0 x1 y0 y1 r m0 m1 l0 l1).pre (k) = (k ≤ (2 : Nat) ∧ M.Bl.ok (M.Bl.mk w s c x0 x1 y0 y1 r m0 m1 l0 l1)) := by kernel_rfl
theorem bq16 (w s c x0 x1 y0 y1 r m0 m1 l0 l1 : Int) (k : Nat) (hp : k ≤ (2 : Nat) ∧ M.Bl.ok (M.Bl.mk w s c x0 x1 y0 y1 r m0 m1 l0 l1)) : Rq16 w s c x0 x1 y0 y1 r m0 m1 l0 l1 k := by
  unfold Rq16
  obtain ⟨hk, hok⟩ := hp
  have hs := hok.speed k
  have e1 : (0 : Nat) + Int.toNat (k : Int) = k := by simp
  have eL : m0 * min (M.Bl.D (M.Bl.mk w s c x0 x1 y0 y1 r m0 m1 l0 l1) k) r / max (M.Bl.D (M.Bl.mk w s c x0 x1 y0 y1 r m0 m1 l0 l1) k) r = M.Bl.sLo (M.Bl.mk w s c x0 x1 y0 y1 r m0 m1 l0 l1) k := rfl
  have eH : -(-(m1 * min (M.Bl.D (M.Bl.mk w s c x0 x1 y0 y1 r m0 m1 l0 l1) k) r) / max (M.Bl.D (M.Bl.mk w s c x0 x1 y0 y1 r m0 m1 l0 l1) k) r) = M.Bl.sHi (M.Bl.mk w s c x0 x1 y0 y1 r m0 m1 l0 l1) k := rfl
  simp only [e1, eL, eH]
  have key : ∀ j, j < k + 1 → (bif decide (j < k) then M.Bl.sLo (M.Bl.mk w s c x0 x1 y0 y1 r m0 m1 l0 l1) j else M.Bl.sLo (M.Bl.mk w s c x0 x1 y0 y1 r m0 m1 l0 l1) k) = M.Bl.sLo (M.Bl.mk w s c x0 x1 y0 y1 r m0 m1 l0 l1) j ∧ (bif decide (j < k) then M.Bl.sHi (M.Bl.mk w s c x0 x1 y0 y1 r m0 m1 l0 l1) j else M.Bl.sHi (M.Bl.mk w s c x0 x1 y0 y1 r m0 m1 l0 l1) k) = M.Bl.sHi (M.Bl.mk w s c x0 x1 y0 y1 r m0 m1 l0 l1) j := fun j hj => bif_last (M.Bl.sLo (M.Bl.mk w s c x0 x1 y0 y1 r m0 m1 l0 l1)) (M.Bl.sHi (M.Bl.mk w s c x0 x1 y0 y1 r m0 m1 l0 l1)) hj
  generalize M.Bl.sLo (M.Bl.mk w s c x0 x1 y0 y1 r m0 m1 l0 l1) = f0 at *
  generalize M.Bl.sHi (M.Bl.mk w s c x0 x1 y0 y1 r m0 m1 l0 l1) = f1 at *
  generalize M.Bl.D (M.Bl.mk w s c x0 x1 y0 y1 r m0 m1 l0 l1) k = dd at *
  simp only at hs
  unfold R64
  clear eL eH
  refine ⟨fun hlt => ?_, fun hlt => ?_⟩
  · simp only [decide_eq_true_eq] at hlt
    repeat' apply And.intro
    all_goals first | omega | exact hok | exact key | rfl | trivial | exact fun _ _ => rfl | exact fun _ _ => ⟨rfl, rfl⟩
  · simp only [decide_eq_false_iff_not] at hlt
    have e : k = 2 := by omega
    subst e
    simp
theorem t16 (w s c x0 x1 y0 y1 r m0 m1 l0 l1 : Int) {F : Fence} (hF : FOK F) (Y : YEnv PP YS.none) : ∀ Q A H nx, loopT false Try.f16.ntmps 0 (lp16 w s c x0 x1 y0 y1 r m0 m1 l0 l1) (fun _ _ _ => (0 : Nat)) Q A H nx → WPS Y F Try.f16.ntmps 0 (.block 0 (blkAt 0 Try.f16)) Q A H nx :=
  loopW (E := []) (.nil) (O := [(58, pureE e58), (63, pureE e63), (64, pureE e64), (65, pureE e65)]) (.cons (pureE_ok s58) (.cons (pureE_ok s63) (.cons (pureE_ok s64) (.cons (pureE_ok s65) (.nil))))) (ck := true) (L := [0,1,2,3,4,6,7,8,9,10,11,12,13,14,15,16,18,19,20,21,25,31,39,103,104,105,106,163,174]) (f := Try.f16) (m := 0) (id := 0) (l := (lp16 w s c x0 x1 y0 y1 r m0 m1 l0 l1)) (LI := fun i => []) Y hF (by kernel_rfl) (fun _ => .nil) (by
    rintro k hp
    exact Hold.of (q16 w s c x0 x1 y0 y1 r m0 m1 l0 l1 k) (bq16 w s c x0 x1 y0 y1 r m0 m1 l0 l1 k ((peq16 w s c x0 x1 y0 y1 r m0 m1 l0 l1 k).mp hp)))
def e16 : List SV → Option (List Prop × SV)
  | [.agg [.int .i64 w, .int .i64 h, .int .i64 s, .sl 2 n g_1], .agg [.int .i64 x0, .int .i64 x1, .int .i64 y0, .int .i64 y1, .int .i64 r, .int .i64 m0, .int .i64 m1, .int .i64 l0, .int .i64 l1], .int .i64 c] => some ([Row 2 n g_1, R64 n], .tup [.agg [SI (if (M.blowE w h s n (cI g_1 0) (cI g_1 1) x0 x1 y0 y1 r m0 m1 l0 l1 c) = 0 then M.Bl.S0 (M.Bl.mk w s c x0 x1 y0 y1 r m0 m1 l0 l1) else 0), SI (if (M.blowE w h s n (cI g_1 0) (cI g_1 1) x0 x1 y0 y1 r m0 m1 l0 l1 c) = 0 then M.Bl.S1 (M.Bl.mk w s c x0 x1 y0 y1 r m0 m1 l0 l1) else 0), SI (if (M.blowE w h s n (cI g_1 0) (cI g_1 1) x0 x1 y0 y1 r m0 m1 l0 l1 c) = 0 then M.Bl.H (M.Bl.mk w s c x0 x1 y0 y1 r m0 m1 l0 l1) else 0), SI (if (M.blowE w h s n (cI g_1 0) (cI g_1 1) x0 x1 y0 y1 r m0 m1 l0 l1 c) = 0 then M.Bl.F0 (M.Bl.mk w s c x0 x1 y0 y1 r m0 m1 l0 l1) else 0), SI (if (M.blowE w h s n (cI g_1 0) (cI g_1 1) x0 x1 y0 y1 r m0 m1 l0 l1 c) = 0 then l1 else 0)], SI (M.blowE w h s n (cI g_1 0) (cI g_1 1) x0 x1 y0 y1 r m0 m1 l0 l1 c)])
  | _ => none
def Rr16 (w h s : Int) (n : Nat) (x y : Nat → Int) (x0 x1 y0 y1 r m0 m1 l0 l1 c : Int) : Prop := (∀ (k : Nat), k < n → x k = x k ∧ y k = y k) ∧ R64 (↑n : Int) ∧ ((!decide (M.gridE w h s n x y = (0 : Int))) = true → (((0 : Int) = if M.blowE w h s n x y x0 x1 y0 y1 r m0 m1 l0 l1 c = (0 : Int) then M.Bl.S0 (M.Bl.mk w s c x0 x1 y0 y1 r m0 m1 l0 l1) else (0 : Int)) ∧ ((0 : Int) = if M.blowE w h s n x y x0 x1 y0 y1 r m0 m1 l0 l1 c = (0 : Int) then M.Bl.S1 (M.Bl.mk w s c x0 x1 y0 y1 r m0 m1 l0 l1) else (0 : Int)) ∧ ((0 : Int) = if M.blowE w h s n x y x0 x1 y0 y1 r m0 m1 l0 l1 c = (0 : Int) then M.Bl.H (M.Bl.mk w s c x0 x1 y0 y1 r m0 m1 l0 l1) else (0 : Int)) ∧ ((0 : Int) = if M.blowE w h s n x y x0 x1 y0 y1 r m0 m1 l0 l1 c = (0 : Int) then M.Bl.F0 (M.Bl.mk w s c x0 x1 y0 y1 r m0 m1 l0 l1) else (0 : Int)) ∧ (0 : Int) = if M.blowE w h s n x y x0 x1 y0 y1 r m0 m1 l0 l1 c = (0 : Int) then l1 else (0 : Int)) ∧ M.gridE w h s n x y = M.blowE w h s n x y x0 x1 y0 y1 r m0 m1 l0 l1 c) ∧ ((!decide (M.gridE w h s n x y = (0 : Int))) = false → ((!decide (M.stormE x0 x1 y0 y1 r m0 m1 l0 l1 = (0 : Int))) = true → (((0 : Int) = if M.blowE w h s n x y x0 x1 y0 y1 r m0 m1 l0 l1 c = (0 : Int) then M.Bl.S0 (M.Bl.mk w s c x0 x1 y0 y1 r m0 m1 l0 l1) else (0 : Int)) ∧ ((0 : Int) = if M.blowE w h s n x y x0 x1 y0 y1 r m0 m1 l0 l1 c = (0 : Int) then M.Bl.S1 (M.Bl.mk w s c x0 x1 y0 y1 r m0 m1 l0 l1) else (0 : Int)) ∧ ((0 : Int) = if M.blowE w h s n x y x0 x1 y0 y1 r m0 m1 l0 l1 c = (0 : Int) then M.Bl.H (M.Bl.mk w s c x0 x1 y0 y1 r m0 m1 l0 l1) else (0 : Int)) ∧ ((0 : Int) = if M.blowE w h s n x y x0 x1 y0 y1 r m0 m1 l0 l1 c = (0 : Int) then M.Bl.F0 (M.Bl.mk w s c x0 x1 y0 y1 r m0 m1 l0 l1) else (0 : Int)) ∧ (0 : Int) = if M.blowE w h s n x y x0 x1 y0 y1 r m0 m1 l0 l1 c = (0 : Int) then l1 else (0 : Int)) ∧ M.stormE x0 x1 y0 y1 r m0 m1 l0 l1 = M.blowE w h s n x y x0 x1 y0 y1 r m0 m1 l0 l1 c) ∧ ((!decide (M.stormE x0 x1 y0 y1 r m0 m1 l0 l1 = (0 : Int))) = false → (∀ (k : Nat), k < n → x k = x k ∧ y k = y k) ∧ R64 (w * h) ∧ ((!decide (M.W.hasE (M.W.mk w h s n x y (0 : Int) (0 : Int)) c = (0 : Int))) = true → (((0 : Int) = if M.blowE w h s n x y x0 x1 y0 y1 r m0 m1 l0 l1 c = (0 : Int) then M.Bl.S0 (M.Bl.mk w s c x0 x1 y0 y1 r m0 m1 l0 l1) else (0 : Int)) ∧ ((0 : Int) = if M.blowE w h s n x y x0 x1 y0 y1 r m0 m1 l0 l1 c = (0 : Int) then M.Bl.S1 (M.Bl.mk w s c x0 x1 y0 y1 r m0 m1 l0 l1) else (0 : Int)) ∧ ((0 : Int) = if M.blowE w h s n x y x0 x1 y0 y1 r m0 m1 l0 l1 c = (0 : Int) then M.Bl.H (M.Bl.mk w s c x0 x1 y0 y1 r m0 m1 l0 l1) else (0 : Int)) ∧ ((0 : Int) = if M.blowE w h s n x y x0 x1 y0 y1 r m0 m1 l0 l1 c = (0 : Int) then M.Bl.F0 (M.Bl.mk w s c x0 x1 y0 y1 r m0 m1 l0 l1) else (0 : Int)) ∧ (0 : Int) = if M.blowE w h s n x y x0 x1 y0 y1 r m0 m1 l0 l1 c = (0 : Int) then l1 else (0 : Int)) ∧ M.W.hasE (M.W.mk w h s n x y (0 : Int) (0 : Int)) c = M.blowE w h s n x y x0 x1 y0 y1 r m0 m1 l0 l1 c) ∧ ((!decide (M.W.hasE (M.W.mk w h s n x y (0 : Int) (0 : Int)) c = (0 : Int))) = false → w ≠ (0 : Int) ∧ R64 (Int.tmod c w * s) ∧ w ≠ (0 : Int) ∧ R64 (Int.tdiv c w) ∧ R64 (Int.tdiv c w * s) ∧ R64 (Int.tmod c w * s - x1) ∧ R64 (Int.tmod c w * s - x0) ∧ R64 (Int.tdiv c w * s - y1) ∧ R64 (Int.tdiv c w * s - y0) ∧ R64 (-(Int.tmod c w * s - x0)) ∧ R64 (-(Int.tmod c w * s - x0)) ∧ R64 (M.near (Int.tmod c w * s - x1) (Int.tmod c w * s - x0) * M.near (Int.tmod c w * s - x1) (Int.tmod c w * s - x0)) ∧ R64 (-(Int.tdiv c w * s - y0)) ∧ R64 (-(Int.tdiv c w * s - y0)) ∧ R64 (M.near (Int.tdiv c w * s - y1) (Int.tdiv c w * s - y0) * M.near (Int.tdiv c w * s - y1) (Int.tdiv c w * s - y0)) ∧ R64 (M.near (Int.tmod c w * s - x1) (Int.tmod c w * s - x0) * M.near (Int.tmod c w * s - x1) (Int.tmod c w * s - x0) + M.near (Int.tdiv c w * s - y1) (Int.tdiv c w * s - y0) * M.near (Int.tdiv c w * s - y1) (Int.tdiv c w * s - y0)) ∧ R64 (M.near (Int.tmod c w * s - x1) (Int.tmod c w * s - x0) * M.near (Int.tmod c w * s - x1) (Int.tmod c w * s - x0) + M.near (Int.tdiv c w * s - y1) (Int.tdiv c w * s - y0) * M.near (Int.tdiv c w * s - y1) (Int.tdiv c w * s - y0) + (1 : Int)) ∧ R64 (M.root (M.near (Int.tmod c w * s - x1) (Int.tmod c w * s - x0) * M.near (Int.tmod c w * s - x1) (Int.tmod c w * s - x0) + M.near (Int.tdiv c w * s - y1) (Int.tdiv c w * s - y0) * M.near (Int.tdiv c w * s - y1) (Int.tdiv c w * s - y0) + (1 : Int)) - (1 : Int)) ∧ R64 (-(Int.tmod c w * s - x1)) ∧ R64 (-(Int.tmod c w * s - x1)) ∧ R64 (M.far (Int.tmod c w * s - x1) (Int.tmod c w * s - x0) * M.far (Int.tmod c w * s - x1) (Int.tmod c w * s - x0)) ∧ R64 (-(Int.tdiv c w * s - y1)) ∧ R64 (-(Int.tdiv c w * s - y1)) ∧ R64 (M.far (Int.tdiv c w * s - y1) (Int.tdiv c w * s - y0) * M.far (Int.tdiv c w * s - y1) (Int.tdiv c w * s - y0)) ∧ R64 (M.far (Int.tmod c w * s - x1) (Int.tmod c w * s - x0) * M.far (Int.tmod c w * s - x1) (Int.tmod c w * s - x0) + M.far (Int.tdiv c w * s - y1) (Int.tdiv c w * s - y0) * M.far (Int.tdiv c w * s - y1) (Int.tdiv c w * s - y0)) ∧ ((0 : Nat) ≤ (2 : Nat) ∧ M.Bl.ok (M.Bl.mk w s c x0 x1 y0 y1 r m0 m1 l0 l1)) ∧ ((0 : Nat) = (0 : Nat) ∧ (0 : Nat) = (0 : Nat) ∧ (2 : Nat) = (2 : Nat) ∧ (↑(2 : Nat) : Int) = (2 : Int) ∧ (0 : Int) = (↑(0 : Nat) : Int) ∧ x0 = x0 ∧ x1 = x1 ∧ y0 = y0 ∧ y1 = y1 ∧ r = r ∧ m0 = m0 ∧ m1 = m1 ∧ l0 = l0 ∧ l1 = l1 ∧ (0 : Int) = (0 : Int) ∧ (0 : Int) = (0 : Int) ∧ (0 : Int) = (0 : Int) ∧ (0 : Int) = (0 : Int) ∧ (0 : Int) = (0 : Int) ∧ Int.tmod c w * s - x1 = M.Bl.X0 (M.Bl.mk w s c x0 x1 y0 y1 r m0 m1 l0 l1) ∧ Int.tmod c w * s - x0 = M.Bl.X1 (M.Bl.mk w s c x0 x1 y0 y1 r m0 m1 l0 l1) ∧ Int.tdiv c w * s - y1 = M.Bl.Y0 (M.Bl.mk w s c x0 x1 y0 y1 r m0 m1 l0 l1) ∧ Int.tdiv c w * s - y0 = M.Bl.Y1 (M.Bl.mk w s c x0 x1 y0 y1 r m0 m1 l0 l1) ∧ M.root (M.near (Int.tmod c w * s - x1) (Int.tmod c w * s - x0) * M.near (Int.tmod c w * s - x1) (Int.tmod c w * s - x0) + M.near (Int.tdiv c w * s - y1) (Int.tdiv c w * s - y0) * M.near (Int.tdiv c w * s - y1) (Int.tdiv c w * s - y0) + (1 : Int)) - (1 : Int) = M.Bl.D0 (M.Bl.mk w s c x0 x1 y0 y1 r m0 m1 l0 l1) ∧ M.root (M.far (Int.tmod c w * s - x1) (Int.tmod c w * s - x0) * M.far (Int.tmod c w * s - x1) (Int.tmod c w * s - x0) + M.far (Int.tdiv c w * s - y1) (Int.tdiv c w * s - y0) * M.far (Int.tdiv c w * s - y1) (Int.tdiv c w * s - y0)) = M.Bl.D1 (M.Bl.mk w s c x0 x1 y0 y1 r m0 m1 l0 l1) ∧ (0 : Nat) = (0 : Nat) ∧ (2 : Nat) = (2 : Nat) ∧ (∀ (k : Nat), k < (2 : Nat) → (bif decide (k = (1 : Nat)) then M.root (M.far (Int.tmod c w * s - x1) (Int.tmod c w * s - x0) * M.far (Int.tmod c w * s - x1) (Int.tmod c w * s - x0) + M.far (Int.tdiv c w * s - y1) (Int.tdiv c w * s - y0) * M.far (Int.tdiv c w * s - y1) (Int.tdiv c w * s - y0)) else bif decide (k = (0 : Nat)) then M.root (M.near (Int.tmod c w * s - x1) (Int.tmod c w * s - x0) * M.near (Int.tmod c w * s - x1) (Int.tmod c w * s - x0) + M.near (Int.tdiv c w * s - y1) (Int.tdiv c w * s - y0) * M.near (Int.tdiv c w * s - y1) (Int.tdiv c w * s - y0) + (1 : Int)) - (1 : Int) else (0 : Int)) = M.Bl.D (M.Bl.mk w s c x0 x1 y0 y1 r m0 m1 l0 l1) k) ∧ True) ∧ (false = false → (0 : Int) ≤ (0 : Int) ∧ (0 : Int) < (↑(2 : Nat) : Int) ∧ (0 : Nat) + Int.toNat (0 : Int) < (2 : Nat) ∧ (0 : Int) ≤ (1 : Int) ∧ (1 : Int) < (↑(2 : Nat) : Int) ∧ (0 : Nat) + Int.toNat (1 : Int) < (2 : Nat) ∧ (0 : Nat) + (1 : Nat) ≤ (1 : Nat) ∧ (∀ (k : Nat), k < (1 : Nat) → M.Bl.sLo (M.Bl.mk w s c x0 x1 y0 y1 r m0 m1 l0 l1) ((0 : Nat) + Int.toNat (1 : Int)) = cI (fun k => (if (1 : Nat) = (1 : Nat) then fun x => [SV.int IntKind.i64 (M.Bl.sLo (M.Bl.mk w s c x0 x1 y0 y1 r m0 m1 l0 l1) ((0 : Nat) + Int.toNat (1 : Int))), SV.int IntKind.i64 (M.Bl.sHi (M.Bl.mk w s c x0 x1 y0 y1 r m0 m1 l0 l1) ((0 : Nat) + Int.toNat (1 : Int)))] else fun k => [SV.int IntKind.i64 (bif decide (k = (0 : Nat)) then M.Bl.sLo (M.Bl.mk w s c x0 x1 y0 y1 r m0 m1 l0 l1) ((0 : Nat) + Int.toNat (1 : Int)) else (0 : Int)), SV.int IntKind.i64 (bif decide (k = (0 : Nat)) then M.Bl.sHi (M.Bl.mk w s c x0 x1 y0 y1 r m0 m1 l0 l1) ((0 : Nat) + Int.toNat (1 : Int)) else (0 : Int))]) ((0 : Nat) + k)) (0 : Nat) k ∧ M.Bl.sHi (M.Bl.mk w s c x0 x1 y0 y1 r m0 m1 l0 l1) ((0 : Nat) + Int.toNat (1 : Int)) = cI (fun k => (if (1 : Nat) = (1 : Nat) then fun x => [SV.int IntKind.i64 (M.Bl.sLo (M.Bl.mk w s c x0 x1 y0 y1 r m0 m1 l0 l1) ((0 : Nat) + Int.toNat (1 : Int))), SV.int IntKind.i64 (M.Bl.sHi (M.Bl.mk w s c x0 x1 y0 y1 r m0 m1 l0 l1) ((0 : Nat) + Int.toNat (1 : Int)))] else fun k => [SV.int IntKind.i64 (bif decide (k = (0 : Nat)) then M.Bl.sLo (M.Bl.mk w s c x0 x1 y0 y1 r m0 m1 l0 l1) ((0 : Nat) + Int.toNat (1 : Int)) else (0 : Int)), SV.int IntKind.i64 (bif decide (k = (0 : Nat)) then M.Bl.sHi (M.Bl.mk w s c x0 x1 y0 y1 r m0 m1 l0 l1) ((0 : Nat) + Int.toNat (1 : Int)) else (0 : Int))]) ((0 : Nat) + k)) ((0 : Nat) + (1 : Nat)) k) ∧ R64 (↑(1 : Nat) : Int) ∧ R64 (-M.Bl.Y1 (M.Bl.mk w s c x0 x1 y0 y1 r m0 m1 l0 l1)) ∧ R64 (-M.Bl.Y0 (M.Bl.mk w s c x0 x1 y0 y1 r m0 m1 l0 l1)) ∧ M.Sm (-M.Bl.Y1 (M.Bl.mk w s c x0 x1 y0 y1 r m0 m1 l0 l1)) ∧ M.Sm (-M.Bl.Y0 (M.Bl.mk w s c x0 x1 y0 y1 r m0 m1 l0 l1)) ∧ M.Sm (M.Bl.X0 (M.Bl.mk w s c x0 x1 y0 y1 r m0 m1 l0 l1)) ∧ M.Sm (M.Bl.X1 (M.Bl.mk w s c x0 x1 y0 y1 r m0 m1 l0 l1)) ∧ (decide (M.Bl.D0 (M.Bl.mk w s c x0 x1 y0 y1 r m0 m1 l0 l1) ≤ r) = true → decide (M.Bl.D0 (M.Bl.mk w s c x0 x1 y0 y1 r m0 m1 l0 l1) ≤ r) = true) ∧ (decide (M.Bl.D0 (M.Bl.mk w s c x0 x1 y0 y1 r m0 m1 l0 l1) ≤ r) = true → decide (M.Bl.D0 (M.Bl.mk w s c x0 x1 y0 y1 r m0 m1 l0 l1) ≤ r) = true) ∧ (decide (M.Bl.D0 (M.Bl.mk w s c x0 x1 y0 y1 r m0 m1 l0 l1) ≤ r) = true → decide (M.Bl.D0 (M.Bl.mk w s c x0 x1 y0 y1 r m0 m1 l0 l1) ≤ r) = true) ∧ (decide (M.Bl.D0 (M.Bl.mk w s c x0 x1 y0 y1 r m0 m1 l0 l1) ≤ r) = true → decide (M.Bl.D0 (M.Bl.mk w s c x0 x1 y0 y1 r m0 m1 l0 l1) ≤ r) = true) ∧ (decide (M.Bl.D0 (M.Bl.mk w s c x0 x1 y0 y1 r m0 m1 l0 l1) ≤ r) = true → decide (M.Bl.D0 (M.Bl.mk w s c x0 x1 y0 y1 r m0 m1 l0 l1) ≤ r) = true) ∧ (decide (M.Bl.D0 (M.Bl.mk w s c x0 x1 y0 y1 r m0 m1 l0 l1) ≤ r) = true → decide (M.Bl.D0 (M.Bl.mk w s c x0 x1 y0 y1 r m0 m1 l0 l1) ≤ r) = true) ∧ ((bif decide (M.Bl.D0 (M.Bl.mk w s c x0 x1 y0 y1 r m0 m1 l0 l1) ≤ r) then decide (r ≤ M.Bl.D1 (M.Bl.mk w s c x0 x1 y0 y1 r m0 m1 l0 l1)) else false) = true → (decide (r < M.Bl.D1 (M.Bl.mk w s c x0 x1 y0 y1 r m0 m1 l0 l1)) = true → ((M.low (cI (fun k => (if (1 : Nat) = (1 : Nat) then fun x => [SV.int IntKind.i64 (M.Bl.sLo (M.Bl.mk w s c x0 x1 y0 y1 r m0 m1 l0 l1) ((0 : Nat) + Int.toNat (1 : Int))), SV.int IntKind.i64 (M.Bl.sHi (M.Bl.mk w s c x0 x1 y0 y1 r m0 m1 l0 l1) ((0 : Nat) + Int.toNat (1 : Int)))] else fun k => [SV.int IntKind.i64 (bif decide (k = (0 : Nat)) then M.Bl.sLo (M.Bl.mk w s c x0 x1 y0 y1 r m0 m1 l0 l1) ((0 : Nat) + Int.toNat (1 : Int)) else (0 : Int)), SV.int IntKind.i64 (bif decide (k = (0 : Nat)) then M.Bl.sHi (M.Bl.mk w s c x0 x1 y0 y1 r m0 m1 l0 l1) ((0 : Nat) + Int.toNat (1 : Int)) else (0 : Int))]) ((0 : Nat) + k)) (0 : Nat)) (M.Bl.sLo (M.Bl.mk w s c x0 x1 y0 y1 r m0 m1 l0 l1) ((0 : Nat) + Int.toNat (0 : Int))) (1 : Nat) = if M.blowE w h s n x y x0 x1 y0 y1 r m0 m1 l0 l1 c = (0 : Int) then M.Bl.S0 (M.Bl.mk w s c x0 x1 y0 y1 r m0 m1 l0 l1) else (0 : Int)) ∧ (m1 = if M.blowE w h s n x y x0 x1 y0 y1 r m0 m1 l0 l1 c = (0 : Int) then M.Bl.S1 (M.Bl.mk w s c x0 x1 y0 y1 r m0 m1 l0 l1) else (0 : Int)) ∧ (M.heading (-M.Bl.Y1 (M.Bl.mk w s c x0 x1 y0 y1 r m0 m1 l0 l1)) (-M.Bl.Y0 (M.Bl.mk w s c x0 x1 y0 y1 r m0 m1 l0 l1)) (M.Bl.X0 (M.Bl.mk w s c x0 x1 y0 y1 r m0 m1 l0 l1)) (M.Bl.X1 (M.Bl.mk w s c x0 x1 y0 y1 r m0 m1 l0 l1)) = if M.blowE w h s n x y x0 x1 y0 y1 r m0 m1 l0 l1 c = (0 : Int) then M.Bl.H (M.Bl.mk w s c x0 x1 y0 y1 r m0 m1 l0 l1) else (0 : Int)) ∧ ((0 : Int) = if M.blowE w h s n x y x0 x1 y0 y1 r m0 m1 l0 l1 c = (0 : Int) then M.Bl.F0 (M.Bl.mk w s c x0 x1 y0 y1 r m0 m1 l0 l1) else (0 : Int)) ∧ l1 = if M.blowE w h s n x y x0 x1 y0 y1 r m0 m1 l0 l1 c = (0 : Int) then l1 else (0 : Int)) ∧ (0 : Int) = M.blowE w h s n x y x0 x1 y0 y1 r m0 m1 l0 l1 c) ∧ (decide (r < M.Bl.D1 (M.Bl.mk w s c x0 x1 y0 y1 r m0 m1 l0 l1)) = false → ((M.low (cI (fun k => (if (1 : Nat) = (1 : Nat) then fun x => [SV.int IntKind.i64 (M.Bl.sLo (M.Bl.mk w s c x0 x1 y0 y1 r m0 m1 l0 l1) ((0 : Nat) + Int.toNat (1 : Int))), SV.int IntKind.i64 (M.Bl.sHi (M.Bl.mk w s c x0 x1 y0 y1 r m0 m1 l0 l1) ((0 : Nat) + Int.toNat (1 : Int)))] else fun k => [SV.int IntKind.i64 (bif decide (k = (0 : Nat)) then M.Bl.sLo (M.Bl.mk w s c x0 x1 y0 y1 r m0 m1 l0 l1) ((0 : Nat) + Int.toNat (1 : Int)) else (0 : Int)), SV.int IntKind.i64 (bif decide (k = (0 : Nat)) then M.Bl.sHi (M.Bl.mk w s c x0 x1 y0 y1 r m0 m1 l0 l1) ((0 : Nat) + Int.toNat (1 : Int)) else (0 : Int))]) ((0 : Nat) + k)) (0 : Nat)) (M.Bl.sLo (M.Bl.mk w s c x0 x1 y0 y1 r m0 m1 l0 l1) ((0 : Nat) + Int.toNat (0 : Int))) (1 : Nat) = if M.blowE w h s n x y x0 x1 y0 y1 r m0 m1 l0 l1 c = (0 : Int) then M.Bl.S0 (M.Bl.mk w s c x0 x1 y0 y1 r m0 m1 l0 l1) else (0 : Int)) ∧ (m1 = if M.blowE w h s n x y x0 x1 y0 y1 r m0 m1 l0 l1 c = (0 : Int) then M.Bl.S1 (M.Bl.mk w s c x0 x1 y0 y1 r m0 m1 l0 l1) else (0 : Int)) ∧ (M.heading (-M.Bl.Y1 (M.Bl.mk w s c x0 x1 y0 y1 r m0 m1 l0 l1)) (-M.Bl.Y0 (M.Bl.mk w s c x0 x1 y0 y1 r m0 m1 l0 l1)) (M.Bl.X0 (M.Bl.mk w s c x0 x1 y0 y1 r m0 m1 l0 l1)) (M.Bl.X1 (M.Bl.mk w s c x0 x1 y0 y1 r m0 m1 l0 l1)) = if M.blowE w h s n x y x0 x1 y0 y1 r m0 m1 l0 l1 c = (0 : Int) then M.Bl.H (M.Bl.mk w s c x0 x1 y0 y1 r m0 m1 l0 l1) else (0 : Int)) ∧ (l0 = if M.blowE w h s n x y x0 x1 y0 y1 r m0 m1 l0 l1 c = (0 : Int) then M.Bl.F0 (M.Bl.mk w s c x0 x1 y0 y1 r m0 m1 l0 l1) else (0 : Int)) ∧ l1 = if M.blowE w h s n x y x0 x1 y0 y1 r m0 m1 l0 l1 c = (0 : Int) then l1 else (0 : Int)) ∧ (0 : Int) = M.blowE w h s n x y x0 x1 y0 y1 r m0 m1 l0 l1 c)) ∧ ((bif decide (M.Bl.D0 (M.Bl.mk w s c x0 x1 y0 y1 r m0 m1 l0 l1) ≤ r) then decide (r ≤ M.Bl.D1 (M.Bl.mk w s c x0 x1 y0 y1 r m0 m1 l0 l1)) else false) = false → (decide (r < M.Bl.D1 (M.Bl.mk w s c x0 x1 y0 y1 r m0 m1 l0 l1)) = true → ((M.low (cI (fun k => (if (1 : Nat) = (1 : Nat) then fun x => [SV.int IntKind.i64 (M.Bl.sLo (M.Bl.mk w s c x0 x1 y0 y1 r m0 m1 l0 l1) ((0 : Nat) + Int.toNat (1 : Int))), SV.int IntKind.i64 (M.Bl.sHi (M.Bl.mk w s c x0 x1 y0 y1 r m0 m1 l0 l1) ((0 : Nat) + Int.toNat (1 : Int)))] else fun k => [SV.int IntKind.i64 (bif decide (k = (0 : Nat)) then M.Bl.sLo (M.Bl.mk w s c x0 x1 y0 y1 r m0 m1 l0 l1) ((0 : Nat) + Int.toNat (1 : Int)) else (0 : Int)), SV.int IntKind.i64 (bif decide (k = (0 : Nat)) then M.Bl.sHi (M.Bl.mk w s c x0 x1 y0 y1 r m0 m1 l0 l1) ((0 : Nat) + Int.toNat (1 : Int)) else (0 : Int))]) ((0 : Nat) + k)) (0 : Nat)) (M.Bl.sLo (M.Bl.mk w s c x0 x1 y0 y1 r m0 m1 l0 l1) ((0 : Nat) + Int.toNat (0 : Int))) (1 : Nat) = if M.blowE w h s n x y x0 x1 y0 y1 r m0 m1 l0 l1 c = (0 : Int) then M.Bl.S0 (M.Bl.mk w s c x0 x1 y0 y1 r m0 m1 l0 l1) else (0 : Int)) ∧ (M.high (cI (fun k => (if (1 : Nat) = (1 : Nat) then fun x => [SV.int IntKind.i64 (M.Bl.sLo (M.Bl.mk w s c x0 x1 y0 y1 r m0 m1 l0 l1) ((0 : Nat) + Int.toNat (1 : Int))), SV.int IntKind.i64 (M.Bl.sHi (M.Bl.mk w s c x0 x1 y0 y1 r m0 m1 l0 l1) ((0 : Nat) + Int.toNat (1 : Int)))] else fun k => [SV.int IntKind.i64 (bif decide (k = (0 : Nat)) then M.Bl.sLo (M.Bl.mk w s c x0 x1 y0 y1 r m0 m1 l0 l1) ((0 : Nat) + Int.toNat (1 : Int)) else (0 : Int)), SV.int IntKind.i64 (bif decide (k = (0 : Nat)) then M.Bl.sHi (M.Bl.mk w s c x0 x1 y0 y1 r m0 m1 l0 l1) ((0 : Nat) + Int.toNat (1 : Int)) else (0 : Int))]) ((0 : Nat) + k)) (1 : Nat)) (M.Bl.sHi (M.Bl.mk w s c x0 x1 y0 y1 r m0 m1 l0 l1) ((0 : Nat) + Int.toNat (0 : Int))) (1 : Nat) = if M.blowE w h s n x y x0 x1 y0 y1 r m0 m1 l0 l1 c = (0 : Int) then M.Bl.S1 (M.Bl.mk w s c x0 x1 y0 y1 r m0 m1 l0 l1) else (0 : Int)) ∧ (M.heading (-M.Bl.Y1 (M.Bl.mk w s c x0 x1 y0 y1 r m0 m1 l0 l1)) (-M.Bl.Y0 (M.Bl.mk w s c x0 x1 y0 y1 r m0 m1 l0 l1)) (M.Bl.X0 (M.Bl.mk w s c x0 x1 y0 y1 r m0 m1 l0 l1)) (M.Bl.X1 (M.Bl.mk w s c x0 x1 y0 y1 r m0 m1 l0 l1)) = if M.blowE w h s n x y x0 x1 y0 y1 r m0 m1 l0 l1 c = (0 : Int) then M.Bl.H (M.Bl.mk w s c x0 x1 y0 y1 r m0 m1 l0 l1) else (0 : Int)) ∧ ((0 : Int) = if M.blowE w h s n x y x0 x1 y0 y1 r m0 m1 l0 l1 c = (0 : Int) then M.Bl.F0 (M.Bl.mk w s c x0 x1 y0 y1 r m0 m1 l0 l1) else (0 : Int)) ∧ l1 = if M.blowE w h s n x y x0 x1 y0 y1 r m0 m1 l0 l1 c = (0 : Int) then l1 else (0 : Int)) ∧ (0 : Int) = M.blowE w h s n x y x0 x1 y0 y1 r m0 m1 l0 l1 c) ∧ (decide (r < M.Bl.D1 (M.Bl.mk w s c x0 x1 y0 y1 r m0 m1 l0 l1)) = false → ((M.low (cI (fun k => (if (1 : Nat) = (1 : Nat) then fun x => [SV.int IntKind.i64 (M.Bl.sLo (M.Bl.mk w s c x0 x1 y0 y1 r m0 m1 l0 l1) ((0 : Nat) + Int.toNat (1 : Int))), SV.int IntKind.i64 (M.Bl.sHi (M.Bl.mk w s c x0 x1 y0 y1 r m0 m1 l0 l1) ((0 : Nat) + Int.toNat (1 : Int)))] else fun k => [SV.int IntKind.i64 (bif decide (k = (0 : Nat)) then M.Bl.sLo (M.Bl.mk w s c x0 x1 y0 y1 r m0 m1 l0 l1) ((0 : Nat) + Int.toNat (1 : Int)) else (0 : Int)), SV.int IntKind.i64 (bif decide (k = (0 : Nat)) then M.Bl.sHi (M.Bl.mk w s c x0 x1 y0 y1 r m0 m1 l0 l1) ((0 : Nat) + Int.toNat (1 : Int)) else (0 : Int))]) ((0 : Nat) + k)) (0 : Nat)) (M.Bl.sLo (M.Bl.mk w s c x0 x1 y0 y1 r m0 m1 l0 l1) ((0 : Nat) + Int.toNat (0 : Int))) (1 : Nat) = if M.blowE w h s n x y x0 x1 y0 y1 r m0 m1 l0 l1 c = (0 : Int) then M.Bl.S0 (M.Bl.mk w s c x0 x1 y0 y1 r m0 m1 l0 l1) else (0 : Int)) ∧ (M.high (cI (fun k => (if (1 : Nat) = (1 : Nat) then fun x => [SV.int IntKind.i64 (M.Bl.sLo (M.Bl.mk w s c x0 x1 y0 y1 r m0 m1 l0 l1) ((0 : Nat) + Int.toNat (1 : Int))), SV.int IntKind.i64 (M.Bl.sHi (M.Bl.mk w s c x0 x1 y0 y1 r m0 m1 l0 l1) ((0 : Nat) + Int.toNat (1 : Int)))] else fun k => [SV.int IntKind.i64 (bif decide (k = (0 : Nat)) then M.Bl.sLo (M.Bl.mk w s c x0 x1 y0 y1 r m0 m1 l0 l1) ((0 : Nat) + Int.toNat (1 : Int)) else (0 : Int)), SV.int IntKind.i64 (bif decide (k = (0 : Nat)) then M.Bl.sHi (M.Bl.mk w s c x0 x1 y0 y1 r m0 m1 l0 l1) ((0 : Nat) + Int.toNat (1 : Int)) else (0 : Int))]) ((0 : Nat) + k)) (1 : Nat)) (M.Bl.sHi (M.Bl.mk w s c x0 x1 y0 y1 r m0 m1 l0 l1) ((0 : Nat) + Int.toNat (0 : Int))) (1 : Nat) = if M.blowE w h s n x y x0 x1 y0 y1 r m0 m1 l0 l1 c = (0 : Int) then M.Bl.S1 (M.Bl.mk w s c x0 x1 y0 y1 r m0 m1 l0 l1) else (0 : Int)) ∧ (M.heading (-M.Bl.Y1 (M.Bl.mk w s c x0 x1 y0 y1 r m0 m1 l0 l1)) (-M.Bl.Y0 (M.Bl.mk w s c x0 x1 y0 y1 r m0 m1 l0 l1)) (M.Bl.X0 (M.Bl.mk w s c x0 x1 y0 y1 r m0 m1 l0 l1)) (M.Bl.X1 (M.Bl.mk w s c x0 x1 y0 y1 r m0 m1 l0 l1)) = if M.blowE w h s n x y x0 x1 y0 y1 r m0 m1 l0 l1 c = (0 : Int) then M.Bl.H (M.Bl.mk w s c x0 x1 y0 y1 r m0 m1 l0 l1) else (0 : Int)) ∧ (l0 = if M.blowE w h s n x y x0 x1 y0 y1 r m0 m1 l0 l1 c = (0 : Int) then M.Bl.F0 (M.Bl.mk w s c x0 x1 y0 y1 r m0 m1 l0 l1) else (0 : Int)) ∧ l1 = if M.blowE w h s n x y x0 x1 y0 y1 r m0 m1 l0 l1 c = (0 : Int) then l1 else (0 : Int)) ∧ (0 : Int) = M.blowE w h s n x y x0 x1 y0 y1 r m0 m1 l0 l1 c))) ∧ (false = true → False))))
theorem r16 (w h s : Int) (n : Nat) (x y : Nat → Int) (x0 x1 y0 y1 r m0 m1 l0 l1 c : Int) : V true [] [(55, pureE e55), (56, pureE e56), (57, pureE e57), (58, pureE e58), (59, pureE e59), (60, pureE e60), (61, pureE e61), (62, pureE e62), (66, pureE e66), (67, pureE e67), (68, pureE e68)] Try.f16 [0,1,2,3,4,6,7,8,9,10,11,12,13,14,15,16,18,19,20,21,25,31,39,103,104,105,106,163,174] [(0, loopT false Try.f16.ntmps 0 (lp16 w s c x0 x1 y0 y1 r m0 m1 l0 l1) (fun _ _ _ => (0 : Nat)))] [.agg [SI w, SI h, SI s, .sl 2 n (fun k => [SI (x k), SI (y k)])], .agg [SI x0, SI x1, SI y0, SI y1, SI r, SI m0, SI m1, SI l0, SI l1], SI c] (.tup [.agg [SI (if (M.blowE w h s n x y x0 x1 y0 y1 r m0 m1 l0 l1 c) = 0 then M.Bl.S0 (M.Bl.mk w s c x0 x1 y0 y1 r m0 m1 l0 l1) else 0), SI (if (M.blowE w h s n x y x0 x1 y0 y1 r m0 m1 l0 l1 c) = 0 then M.Bl.S1 (M.Bl.mk w s c x0 x1 y0 y1 r m0 m1 l0 l1) else 0), SI (if (M.blowE w h s n x y x0 x1 y0 y1 r m0 m1 l0 l1 c) = 0 then M.Bl.H (M.Bl.mk w s c x0 x1 y0 y1 r m0 m1 l0 l1) else 0), SI (if (M.blowE w h s n x y x0 x1 y0 y1 r m0 m1 l0 l1 c) = 0 then M.Bl.F0 (M.Bl.mk w s c x0 x1 y0 y1 r m0 m1 l0 l1) else 0), SI (if (M.blowE w h s n x y x0 x1 y0 y1 r m0 m1 l0 l1 c) = 0 then l1 else 0)], SI (M.blowE w h s n x y x0 x1 y0 y1 r m0 m1 l0 l1 c)]) = Rr16 w h s n x y x0 x1 y0 y1 r m0 m1 l0 l1 c := by kernel_rfl
theorem br16 (w h s : Int) (n : Nat) (x y : Nat → Int) (x0 x1 y0 y1 r m0 m1 l0 l1 c : Int) (hp : (R64 n) ∧ AllP []) : Rr16 w h s n x y x0 x1 y0 y1 r m0 m1 l0 l1 c := by
  unfold Rr16
  have hn := hp.1
  have hE : (M.blowE w h s n x y x0 x1 y0 y1 r m0 m1 l0 l1 c) = if M.gridE w h s n x y = 0 then if M.stormE x0 x1 y0 y1 r m0 m1 l0 l1 = 0 then M.W.hasE (M.W.mk w h s n x y 0 0) c else M.stormE x0 x1 y0 y1 r m0 m1 l0 l1 else M.gridE w h s n x y := rfl
  have hok := @M.blow_ok w h s n x y x0 x1 y0 y1 r m0 m1 l0 l1 c
  have hg : M.gridE w h s n x y = 0 → R64 (w * h) ∧ w ≠ 0 ∧ 1 ≤ w := fun e => by
    obtain ⟨a1, a2, a3, a4, -⟩ := M.gridE_iff.1 e
    have := M.area a1 a2 a3 a4
    unfold R64; omega
  have eX0 : c.tmod w * s - x1 = M.Bl.X0 (M.Bl.mk w s c x0 x1 y0 y1 r m0 m1 l0 l1) := rfl
  have eX1 : c.tmod w * s - x0 = M.Bl.X1 (M.Bl.mk w s c x0 x1 y0 y1 r m0 m1 l0 l1) := rfl
  have eY0 : c.tdiv w * s - y1 = M.Bl.Y0 (M.Bl.mk w s c x0 x1 y0 y1 r m0 m1 l0 l1) := rfl
  have eY1 : c.tdiv w * s - y0 = M.Bl.Y1 (M.Bl.mk w s c x0 x1 y0 y1 r m0 m1 l0 l1) := rfl
  have eD0 : M.root (M.near (M.Bl.X0 (M.Bl.mk w s c x0 x1 y0 y1 r m0 m1 l0 l1)) (M.Bl.X1 (M.Bl.mk w s c x0 x1 y0 y1 r m0 m1 l0 l1)) * M.near (M.Bl.X0 (M.Bl.mk w s c x0 x1 y0 y1 r m0 m1 l0 l1)) (M.Bl.X1 (M.Bl.mk w s c x0 x1 y0 y1 r m0 m1 l0 l1)) + M.near (M.Bl.Y0 (M.Bl.mk w s c x0 x1 y0 y1 r m0 m1 l0 l1)) (M.Bl.Y1 (M.Bl.mk w s c x0 x1 y0 y1 r m0 m1 l0 l1)) * M.near (M.Bl.Y0 (M.Bl.mk w s c x0 x1 y0 y1 r m0 m1 l0 l1)) (M.Bl.Y1 (M.Bl.mk w s c x0 x1 y0 y1 r m0 m1 l0 l1)) + 1) - 1 = M.Bl.D0 (M.Bl.mk w s c x0 x1 y0 y1 r m0 m1 l0 l1) := rfl
  have eD1 : M.root (M.far (M.Bl.X0 (M.Bl.mk w s c x0 x1 y0 y1 r m0 m1 l0 l1)) (M.Bl.X1 (M.Bl.mk w s c x0 x1 y0 y1 r m0 m1 l0 l1)) * M.far (M.Bl.X0 (M.Bl.mk w s c x0 x1 y0 y1 r m0 m1 l0 l1)) (M.Bl.X1 (M.Bl.mk w s c x0 x1 y0 y1 r m0 m1 l0 l1)) + M.far (M.Bl.Y0 (M.Bl.mk w s c x0 x1 y0 y1 r m0 m1 l0 l1)) (M.Bl.Y1 (M.Bl.mk w s c x0 x1 y0 y1 r m0 m1 l0 l1)) * M.far (M.Bl.Y0 (M.Bl.mk w s c x0 x1 y0 y1 r m0 m1 l0 l1)) (M.Bl.Y1 (M.Bl.mk w s c x0 x1 y0 y1 r m0 m1 l0 l1))) = M.Bl.D1 (M.Bl.mk w s c x0 x1 y0 y1 r m0 m1 l0 l1) := rfl
  have hS0 : M.Bl.S0 (M.Bl.mk w s c x0 x1 y0 y1 r m0 m1 l0 l1) = min (M.Bl.sLo (M.Bl.mk w s c x0 x1 y0 y1 r m0 m1 l0 l1) 0) (M.Bl.sLo (M.Bl.mk w s c x0 x1 y0 y1 r m0 m1 l0 l1) 1) := rfl
  have hS1 : M.Bl.S1 (M.Bl.mk w s c x0 x1 y0 y1 r m0 m1 l0 l1) = if M.Bl.D0 (M.Bl.mk w s c x0 x1 y0 y1 r m0 m1 l0 l1) ≤ r ∧ r ≤ M.Bl.D1 (M.Bl.mk w s c x0 x1 y0 y1 r m0 m1 l0 l1) then m1 else max (M.Bl.sHi (M.Bl.mk w s c x0 x1 y0 y1 r m0 m1 l0 l1) 0) (M.Bl.sHi (M.Bl.mk w s c x0 x1 y0 y1 r m0 m1 l0 l1) 1) := rfl
  have hH : M.Bl.H (M.Bl.mk w s c x0 x1 y0 y1 r m0 m1 l0 l1) = M.heading (-M.Bl.Y1 (M.Bl.mk w s c x0 x1 y0 y1 r m0 m1 l0 l1)) (-M.Bl.Y0 (M.Bl.mk w s c x0 x1 y0 y1 r m0 m1 l0 l1)) (M.Bl.X0 (M.Bl.mk w s c x0 x1 y0 y1 r m0 m1 l0 l1)) (M.Bl.X1 (M.Bl.mk w s c x0 x1 y0 y1 r m0 m1 l0 l1)) := rfl
  have hF : M.Bl.F0 (M.Bl.mk w s c x0 x1 y0 y1 r m0 m1 l0 l1) = if r < M.Bl.D1 (M.Bl.mk w s c x0 x1 y0 y1 r m0 m1 l0 l1) then 0 else l0 := rfl
  have i0 : (0 : Nat) + Int.toNat 0 = 0 := rfl
  have i1 : (0 : Nat) + Int.toNat 1 = 1 := rfl
  have hD : ∀ k, k < 2 → (bif decide (k = 1) then M.Bl.D1 (M.Bl.mk w s c x0 x1 y0 y1 r m0 m1 l0 l1) else bif decide (k = 0) then M.Bl.D0 (M.Bl.mk w s c x0 x1 y0 y1 r m0 m1 l0 l1) else 0) = M.Bl.D (M.Bl.mk w s c x0 x1 y0 y1 r m0 m1 l0 l1) k := fun k hk => bif_two hk
  have eL : cI (fun k => [SV.int IntKind.i64 (M.Bl.sLo (M.Bl.mk w s c x0 x1 y0 y1 r m0 m1 l0 l1) 1), SV.int IntKind.i64 (M.Bl.sHi (M.Bl.mk w s c x0 x1 y0 y1 r m0 m1 l0 l1) 1)]) 0 = fun _ => M.Bl.sLo (M.Bl.mk w s c x0 x1 y0 y1 r m0 m1 l0 l1) 1 := rfl
  have eH : cI (fun k => [SV.int IntKind.i64 (M.Bl.sLo (M.Bl.mk w s c x0 x1 y0 y1 r m0 m1 l0 l1) 1), SV.int IntKind.i64 (M.Bl.sHi (M.Bl.mk w s c x0 x1 y0 y1 r m0 m1 l0 l1) 1)]) 1 = fun _ => M.Bl.sHi (M.Bl.mk w s c x0 x1 y0 y1 r m0 m1 l0 l1) 1 := rfl
  have eLo : ∀ a b : Int, M.low (fun _ => b) a 1 = min a b := fun _ _ => rfl
  have eHi : ∀ a b : Int, M.high (fun _ => b) a 1 = max a b := fun _ _ => rfl
  simp only [eX0, eX1, eY0, eY1, eD0, eD1, hS0, hS1, hH, hF, i0, i1, if_true, eL, eH, Nat.zero_add, eLo, eHi]
  by_cases g1 : M.gridE w h s n x y = 0
  · by_cases g2 : M.stormE x0 x1 y0 y1 r m0 m1 l0 l1 = 0
    · by_cases g3 : M.W.hasE (M.W.mk w h s n x y 0 0) c = 0
      · have e0 : (M.blowE w h s n x y x0 x1 y0 y1 r m0 m1 l0 l1 c) = 0 := by rw [hE, if_pos g1, if_pos g2, g3]
        have ok := hok e0
        have hv := ok.vec
        have hq := ok.sq
        have hd := ok.dist
        have p1 := ok.p1; have p2 := ok.p2; have p3 := ok.p3; have p4 := ok.p4
        have hg' := hg g1
        have td : R64 (c.tdiv w) := by
          have := M.cell_at (w := w) (h := h) (c := c) (by omega) (cell_of g3).1 (cell_of g3).2
          have := (M.gridE_iff.1 g1).2.2.2.1
          unfold R64; omega
        simp only at p1 p2 p3 p4
        clear hok hE hg eX0 eX1 eY0 eY1 eD0 eD1 hS0 hS1 hH hF eL eH eLo eHi
        simp only [g1, g2, g3, e0]
        generalize M.Bl.D (M.Bl.mk w s c x0 x1 y0 y1 r m0 m1 l0 l1) = fD at *
        generalize M.Bl.D0 (M.Bl.mk w s c x0 x1 y0 y1 r m0 m1 l0 l1) = D0 at *
        generalize M.Bl.D1 (M.Bl.mk w s c x0 x1 y0 y1 r m0 m1 l0 l1) = D1 at *
        generalize M.Bl.sLo (M.Bl.mk w s c x0 x1 y0 y1 r m0 m1 l0 l1) = f0 at *
        generalize M.Bl.sHi (M.Bl.mk w s c x0 x1 y0 y1 r m0 m1 l0 l1) = f1 at *
        generalize M.Bl.X0 (M.Bl.mk w s c x0 x1 y0 y1 r m0 m1 l0 l1) = X0 at *
        generalize M.Bl.X1 (M.Bl.mk w s c x0 x1 y0 y1 r m0 m1 l0 l1) = X1 at *
        generalize M.Bl.Y0 (M.Bl.mk w s c x0 x1 y0 y1 r m0 m1 l0 l1) = Y0 at *
        generalize M.Bl.Y1 (M.Bl.mk w s c x0 x1 y0 y1 r m0 m1 l0 l1) = Y1 at *
        generalize M.Bl.ok (M.Bl.mk w s c x0 x1 y0 y1 r m0 m1 l0 l1) = OK at *
        generalize M.heading (-Y1) (-Y0) X0 X1 = H at *
        generalize c.tmod w * s = PX at *
        generalize c.tdiv w * s = PY at *
        generalize M.near X0 X1 * M.near X0 X1 = q1 at *
        generalize M.near Y0 Y1 * M.near Y0 Y1 = q2 at *
        generalize M.far X0 X1 * M.far X0 X1 = q3 at *
        generalize M.far Y0 Y1 * M.far Y0 Y1 = q4 at *
        have hs : R64 PX ∧ R64 PY ∧ R64 X0 ∧ R64 X1 ∧ R64 Y0 ∧ R64 Y1 ∧ R64 (-X1) ∧ R64 (-Y1) ∧ R64 (-X0) ∧ R64 (-Y0) ∧ R64 q1 ∧ R64 q2 ∧ R64 (q1 + q2) ∧ R64 (q1 + q2 + 1) ∧ R64 q3 ∧ R64 q4 ∧ R64 (q3 + q4) ∧ R64 D0 ∧ M.Sm (-Y1) ∧ M.Sm (-Y0) ∧ M.Sm X0 ∧ M.Sm X1 ∧ R64 (↑(1 : Nat) : Int) := by
          unfold R64 M.Sm; omega
        obtain ⟨t1, t2, t3, t4, t5, t6, t7, t8, t9, t10, t11, t12, t13, t14, t15, t16, t17, t18, t19, t20, t21, t22, t23⟩ := hs
        by_cases c1 : D0 ≤ r <;> by_cases c2 : r ≤ D1 <;> by_cases c3 : r < D1 <;> simp [hn, hg', ok, td, hD, c1, c2, c3, t1, t2, t3, t4, t5, t6, t7, t8, t9, t10, t11, t12, t13, t14, t15, t16, t17, t18, t19, t20, t21, t22, t23] <;> exact ⟨hD, t23⟩
      · have e0 : (M.blowE w h s n x y x0 x1 y0 y1 r m0 m1 l0 l1 c) = M.W.hasE (M.W.mk w h s n x y 0 0) c := by rw [hE, if_pos g1, if_pos g2]
        simp [g1, g2, g3, e0, hn, hg g1]
    · have e0 : (M.blowE w h s n x y x0 x1 y0 y1 r m0 m1 l0 l1 c) = M.stormE x0 x1 y0 y1 r m0 m1 l0 l1 := by rw [hE, if_pos g1, if_neg g2]
      simp [g1, g2, e0, hn]
  · have e0 : (M.blowE w h s n x y x0 x1 y0 y1 r m0 m1 l0 l1 c) = M.gridE w h s n x y := by rw [hE, if_neg g1]
    simp [g1, e0, hn]
theorem s16 : PureOK PP 16 e16 := by
  intro xs ps res h hp
  unfold e16 at h
  split at h
  · rename_i w h s n g_1 x0 x1 y0 y1 r m0 m1 l0 l1 c
    simp only [Option.some.injEq, Prod.mk.injEq] at h
    obtain ⟨rfl, rfl⟩ := h
    simp only [AllP.cons] at hp
    obtain ⟨Hg_1, hp⟩ := hp
    refine Spec.args (ys := [.agg [SI w, SI h, SI s, .sl 2 n (fun k => [SI ((cI g_1 0) k), SI ((cI g_1 1) k)])], .agg [SI x0, SI x1, SI y0, SI y1, SI r, SI m0, SI m1, SI l0, SI l1], SI c]) ?_ (.cons (.agg (.cons (.refl _) (.cons (.refl _) (.cons (.refl _) (.cons (.row Hg_1 fun _ => rfl) .nil))))) (.cons (.refl _) (.cons (.refl _) .nil)))
    refine enter (L := [0,1,2,3,4,6,7,8,9,10,11,12,13,14,15,16,18,19,20,21,25,31,39,103,104,105,106,163,174]) (LO := [(0, loopT false Try.f16.ntmps 0 (lp16 w s c x0 x1 y0 y1 r m0 m1 l0 l1) (fun _ _ _ => (0 : Nat)))]) (E := []) (O := [(55, pureE e55), (56, pureE e56), (57, pureE e57), (58, pureE e58), (59, pureE e59), (60, pureE e60), (61, pureE e61), (62, pureE e62), (66, pureE e66), (67, pureE e67), (68, pureE e68)]) (ck := true) (.nil) (.cons (pureE_ok s55) (.cons (pureE_ok s56) (.cons (pureE_ok s57) (.cons (pureE_ok s58) (.cons (pureE_ok s59) (.cons (pureE_ok s60) (.cons (pureE_ok s61) (.cons (pureE_ok s62) (.cons (pureE_ok s66) (.cons (pureE_ok s67) (.cons (pureE_ok s68) (.nil)))))))))))) (k := 16) (f := Try.f16) (xs := [.agg [SI w, SI h, SI s, .sl 2 n (fun k => [SI ((cI g_1 0) k), SI ((cI g_1 1) k)])], .agg [SI x0, SI x1, SI y0, SI y1, SI r, SI m0, SI m1, SI l0, SI l1], SI c]) (r := (.tup [.agg [SI (if (M.blowE w h s n (cI g_1 0) (cI g_1 1) x0 x1 y0 y1 r m0 m1 l0 l1 c) = 0 then M.Bl.S0 (M.Bl.mk w s c x0 x1 y0 y1 r m0 m1 l0 l1) else 0), SI (if (M.blowE w h s n (cI g_1 0) (cI g_1 1) x0 x1 y0 y1 r m0 m1 l0 l1 c) = 0 then M.Bl.S1 (M.Bl.mk w s c x0 x1 y0 y1 r m0 m1 l0 l1) else 0), SI (if (M.blowE w h s n (cI g_1 0) (cI g_1 1) x0 x1 y0 y1 r m0 m1 l0 l1 c) = 0 then M.Bl.H (M.Bl.mk w s c x0 x1 y0 y1 r m0 m1 l0 l1) else 0), SI (if (M.blowE w h s n (cI g_1 0) (cI g_1 1) x0 x1 y0 y1 r m0 m1 l0 l1 c) = 0 then M.Bl.F0 (M.Bl.mk w s c x0 x1 y0 y1 r m0 m1 l0 l1) else 0), SI (if (M.blowE w h s n (cI g_1 0) (cI g_1 1) x0 x1 y0 y1 r m0 m1 l0 l1 c) = 0 then l1 else 0)], SI (M.blowE w h s n (cI g_1 0) (cI g_1 1) x0 x1 y0 y1 r m0 m1 l0 l1 c)])) (by kernel_rfl) (by kernel_rfl) (fun Y => .cons (by kernel_rfl) (t16 w s c x0 x1 y0 y1 r m0 m1 l0 l1 FOK.wide Y) (.nil)) ?_
    exact Hold.of (r16 w h s n (cI g_1 0) (cI g_1 1) x0 x1 y0 y1 r m0 m1 l0 l1 c) (br16 w h s n (cI g_1 0) (cI g_1 1) x0 x1 y0 y1 r m0 m1 l0 l1 c hp)
  · cases h
end Go.Proofs.Ytkklmkogdogbkaa.Sep
/-
  What the stage 'surge' computes, in plain numbers: the concrete example; rows that are compared. No condition. (This text proves no statement by itself.)
-/
namespace Go.Proofs.Ytkklmkogdogbkaa.M
def g0 (k : Nat) : Int := [-1000, -1000, -500, 200].getD k 0
def eqR (x y u v : Nat → Int) (k : Nat) : Bool := decide (x k = u k) && decide (y k = v k)
def exP (c : Int) : P := P.mk (W.mk 4 1 1000 4 g0 g0 0 0) 3000 3000 512 512 c
theorem ex_set : (exP 1).setE 0 2000 2000 = 0 ∧ (exP 1).slo 0 2000 2000 = -314 ∧ (exP 1).shi 0 2000 2000 = -312 := by decide
theorem ex_st : (exP 2).atE = 0 ∧ (exP 2).stLo 2000 2000 1 0 = 626 ∧ (exP 2).stHi 2000 2000 1 0 = 628 := by decide
def exB : Bl := Bl.mk 4 1000 0 0 0 (-3000) (-3000) 2000 4000 4000 5000 5000
theorem ex_D0 : exB.D0 = 3000 := by
  have : root 9000001 = (3001 : Nat) := root_at (by omega) (fun j hj => by
    have := sq_bd (a := (j : Int)) (m := 3000) (by omega) (by omega)
    omega) (fun _ => by decide)
  show root 9000001 - 1 = 3000
  rw [this]; rfl
theorem ex_D1 : exB.D1 = 3000 := by
  have : root 9000000 = (3000 : Nat) := root_at (by omega) (fun j hj => by
    have := sq_bd (a := (j : Int)) (m := 2999) (by omega) (by omega)
    omega) (fun _ => by decide)
  show root 9000000 = 3000
  rw [this]; rfl
theorem ex_H : exB.H = 16 := by decide
def exW : Ws := Ws.mk 2 (fun _ => 2000) (fun _ => 2000) (fun _ => 1) (fun _ => 0) (fun _ => 0)
def exLo (k : Nat) : Int := (exP 2).rLo 0 exW (k + 1)
def exHi (k : Nat) : Int := (exP 2).rHi 0 exW (k + 1)
theorem ex_run : (exP 2).runE 0 0 exW = 0 ∧ exLo 0 = 313 ∧ exLo 1 = 469 ∧ exHi 0 = 314 ∧ exHi 1 = 471 := by decide
theorem ex_E : blowE 4 1 1000 4 g0 g0 0 0 (-3000) (-3000) 2000 4000 4000 5000 5000 0 = 0 := by decide
theorem ex_D (k : Nat) : exB.D k = 3000 := by
  unfold Bl.D
  rw [ex_D0, ex_D1]
  cases decide (k = 1) <;> rfl
theorem ex_s (k : Nat) : exB.sLo k = 2666 ∧ exB.sHi k = 2667 := by
  unfold Bl.sLo Bl.sHi
  rw [ex_D]
  decide
theorem ex_S0 : exB.S0 = 2666 := by
  unfold Bl.S0
  rw [(ex_s 0).1, (ex_s 1).1]; rfl
theorem ex_S1 : exB.S1 = 2667 := by
  unfold Bl.S1
  rw [ex_D0, ex_D1, (ex_s 0).2, (ex_s 1).2]
  decide
theorem ex_F : exB.F0 = 0 := by
  unfold Bl.F0
  rw [ex_D1]
  decide
end Go.Proofs.Ytkklmkogdogbkaa.M
/-
  Contracts of the concrete example that every law of the stage 'surge' tries. No condition. (This text proves no statement by itself.)
-/
namespace Go.Proofs.Ytkklmkogdogbkaa.Sep
open Go
set_option linter.unusedVariables false
set_option linter.unusedSimpArgs false
def e51 : List SV → Option (List Prop × SV)
  | [] => some ([], .agg [SI 4, SI 1, SI 1000, .sl 2 4 (fun k => [SI (M.g0 k), SI (M.g0 k)])])
  | _ => none
def Rr51  : Prop := (0 : Nat) + (4 : Nat) ≤ (4 : Nat) ∧ (4 : Int) = (4 : Int) ∧ (1 : Int) = (1 : Int) ∧ (1000 : Int) = (1000 : Int) ∧ (4 : Nat) = (4 : Nat) ∧ ∀ (k : Nat), k < (4 : Nat) → (bif decide ((0 : Nat) + k = (3 : Nat)) then (200 : Int) else bif decide ((0 : Nat) + k = (2 : Nat)) then (-500 : Int) else bif decide ((0 : Nat) + k = (1 : Nat)) then (-1000 : Int) else bif decide ((0 : Nat) + k = (0 : Nat)) then (-1000 : Int) else (0 : Int)) = M.g0 k ∧ (bif decide ((0 : Nat) + k = (3 : Nat)) then (200 : Int) else bif decide ((0 : Nat) + k = (2 : Nat)) then (-500 : Int) else bif decide ((0 : Nat) + k = (1 : Nat)) then (-1000 : Int) else bif decide ((0 : Nat) + k = (0 : Nat)) then (-1000 : Int) else (0 : Int)) = M.g0 k
theorem r51  : V true [] [(24, pureE e24)] Try.f51 [0] [] [] (.agg [SI 4, SI 1, SI 1000, .sl 2 4 (fun k => [SI (M.g0 k), SI (M.g0 k)])]) = Rr51  := by kernel_rfl
theorem br51   : Rr51  := by
  unfold Rr51
  have h : ∀ k, k < 4 → (bif decide (0 + k = 3) then (200 : Int) else bif decide (0 + k = 2) then (-500 : Int) else bif decide (0 + k = 1) then (-1000 : Int) else bif decide (0 + k = 0) then (-1000 : Int) else 0) = M.g0 k := fun k hk => by
    have : k = 0 ∨ k = 1 ∨ k = 2 ∨ k = 3 := by omega
    rcases this with e | e | e | e <;> subst e <;> rfl
  exact ⟨by omega, rfl, rfl, rfl, rfl, fun k hk => ⟨h k hk, h k hk⟩⟩
theorem s51 : PureOK PP 51 e51 := by
  intro xs ps res h hp
  unfold e51 at h
  split at h
  · skip
    simp only [Option.some.injEq, Prod.mk.injEq] at h
    obtain ⟨rfl, rfl⟩ := h
    clear hp
    refine enter (L := [0]) (LO := []) (E := []) (O := [(24, pureE e24)]) (ck := true) (.nil) (.cons (pureE_ok s24) (.nil)) (k := 51) (f := Try.f51) (xs := []) (r := (.agg [SI 4, SI 1, SI 1000, .sl 2 4 (fun k => [SI (M.g0 k), SI (M.g0 k)])])) (by kernel_rfl) (by kernel_rfl) (fun _ => .nil) ?_
    exact Hold.of (r51 ) (br51  )
  · cases h
def e52 : List SV → Option (List Prop × SV)
  | [] => some ([], .agg [SI 3000, SI 3000, SI 512, SI 512])
  | _ => none
def Rr52  : Prop := (3000 : Int) = (3000 : Int) ∧ (3000 : Int) = (3000 : Int) ∧ (512 : Int) = (512 : Int) ∧ (512 : Int) = (512 : Int)
theorem r52  : V true [] [(24, pureE e24)] Try.f52 [0] [] [] (.agg [SI 3000, SI 3000, SI 512, SI 512]) = Rr52  := by kernel_rfl
theorem br52   : Rr52  := by
  unfold Rr52
  simp
theorem s52 : PureOK PP 52 e52 := by
  intro xs ps res h hp
  unfold e52 at h
  split at h
  · skip
    simp only [Option.some.injEq, Prod.mk.injEq] at h
    obtain ⟨rfl, rfl⟩ := h
    clear hp
    refine enter (L := [0]) (LO := []) (E := []) (O := [(24, pureE e24)]) (ck := true) (.nil) (.cons (pureE_ok s24) (.nil)) (k := 52) (f := Try.f52) (xs := []) (r := (.agg [SI 3000, SI 3000, SI 512, SI 512])) (by kernel_rfl) (by kernel_rfl) (fun _ => .nil) ?_
    exact Hold.of (r52 ) (br52  )
  · cases h
def e53 : List SV → Option (List Prop × SV)
  | [.int .i64 m, .int .i64 q] => some ([], .agg [SI 2000, SI 2000, SI m, SI q, SI q])
  | _ => none
def Rr53 (m q : Int) : Prop := (2000 : Int) = (2000 : Int) ∧ (2000 : Int) = (2000 : Int) ∧ m = m ∧ q = q ∧ q = q
theorem r53 (m q : Int) : V true [] [(24, pureE e24)] Try.f53 [0,1,4] [] [SI m, SI q] (.agg [SI 2000, SI 2000, SI m, SI q, SI q]) = Rr53 m q := by kernel_rfl
theorem br53 (m q : Int)  : Rr53 m q := by
  unfold Rr53
  simp
theorem s53 : PureOK PP 53 e53 := by
  intro xs ps res h hp
  unfold e53 at h
  split at h
  · rename_i m q
    simp only [Option.some.injEq, Prod.mk.injEq] at h
    obtain ⟨rfl, rfl⟩ := h
    clear hp
    refine enter (L := [0,1,4]) (LO := []) (E := []) (O := [(24, pureE e24)]) (ck := true) (.nil) (.cons (pureE_ok s24) (.nil)) (k := 53) (f := Try.f53) (xs := [SI m, SI q]) (r := (.agg [SI 2000, SI 2000, SI m, SI q, SI q])) (by kernel_rfl) (by kernel_rfl) (fun _ => .nil) ?_
    exact Hold.of (r53 m q) (br53 m q )
  · cases h
def e54 : List SV → Option (List Prop × SV)
  | [] => some ([], .agg [SI 0, SI 0, SI (-3000), SI (-3000), SI 2000, SI 4000, SI 4000, SI 5000, SI 5000])
  | _ => none
def Rr54  : Prop := (0 : Int) = (0 : Int) ∧ (0 : Int) = (0 : Int) ∧ (-3000 : Int) = (-3000 : Int) ∧ (-3000 : Int) = (-3000 : Int) ∧ (2000 : Int) = (2000 : Int) ∧ (4000 : Int) = (4000 : Int) ∧ (4000 : Int) = (4000 : Int) ∧ (5000 : Int) = (5000 : Int) ∧ (5000 : Int) = (5000 : Int)
theorem r54  : V true [] [(24, pureE e24)] Try.f54 [0] [] [] (.agg [SI 0, SI 0, SI (-3000), SI (-3000), SI 2000, SI 4000, SI 4000, SI 5000, SI 5000]) = Rr54  := by kernel_rfl
theorem br54   : Rr54  := by
  unfold Rr54
  simp
theorem s54 : PureOK PP 54 e54 := by
  intro xs ps res h hp
  unfold e54 at h
  split at h
  · skip
    simp only [Option.some.injEq, Prod.mk.injEq] at h
    obtain ⟨rfl, rfl⟩ := h
    clear hp
    refine enter (L := [0]) (LO := []) (E := []) (O := [(24, pureE e24)]) (ck := true) (.nil) (.cons (pureE_ok s24) (.nil)) (k := 54) (f := Try.f54) (xs := []) (r := (.agg [SI 0, SI 0, SI (-3000), SI (-3000), SI 2000, SI 4000, SI 4000, SI 5000, SI 5000])) (by kernel_rfl) (by kernel_rfl) (fun _ => .nil) ?_
    exact Hold.of (r54 ) (br54  )
  · cases h
def lp39 (n : Nat) (x y : Nat → Int) (m : Nat) (u v : Nat → Int) : LoopS where
  ι := Nat
  β := Unit
  pre k := (k ≤ n ∧ n = m ∧ R64 n) ∧ ∀ j, j < k → M.eqR x y u v j = true
  μ k := n - k
  next k _ _ _ := k + 1
  out _ := ()
  early _ := !M.allB (M.eqR x y u v) n
  SA k := [(0, .sl 2 n (fun k => [SI (x k), SI (y k)])), (1, .sl 2 m (fun k => [SI (u k), SI (v k)])), (5, SI k)]
  SH _ := []
  n0 := 0
  NA _ := []
  NH _ := []
  n1 := 0
  RA _ := [(4, .bool false)]
  RH _ := []
def Rq39 (n : Nat) (x y : Nat → Int) (m : Nat) (u v : Nat → Int) (k : Nat) : Prop := (decide ((↑k : Int) < (↑n : Int)) = true → (0 : Int) ≤ (↑k : Int) ∧ (↑k : Int) < (↑n : Int) ∧ Int.toNat (↑k : Int) < n ∧ (0 : Int) ≤ (↑k : Int) ∧ (↑k : Int) < (↑m : Int) ∧ Int.toNat (↑k : Int) < m ∧ ((!(decide (x (Int.toNat (↑k : Int)) = u (Int.toNat (↑k : Int))) && (decide (y (Int.toNat (↑k : Int)) = v (Int.toNat (↑k : Int))) && true))) = true → (!M.allB (M.eqR x y u v) n) = true ∧ false = false ∧ True) ∧ ((!(decide (x (Int.toNat (↑k : Int)) = u (Int.toNat (↑k : Int))) && (decide (y (Int.toNat (↑k : Int)) = v (Int.toNat (↑k : Int))) && true))) = false → R64 ((↑k : Int) + (1 : Int)) ∧ ((k + (1 : Nat) ≤ n ∧ n = m ∧ R64 (↑n : Int)) ∧ ∀ (j : Nat), j < k + (1 : Nat) → M.eqR x y u v j = true) ∧ n - (k + (1 : Nat)) < n - k ∧ () = () ∧ (n = n ∧ ∀ (k : Nat), k < n → x k = x k ∧ y k = y k) ∧ (m = m ∧ ∀ (k : Nat), k < m → u k = u k ∧ v k = v k) ∧ (↑k : Int) + (1 : Int) = (↑(k + (1 : Nat)) : Int) ∧ True)) ∧ (decide ((↑k : Int) < (↑n : Int)) = false → (!M.allB (M.eqR x y u v) n) = false ∧ True)
theorem q39 (n : Nat) (x y : Nat → Int) (m : Nat) (u v : Nat → Int) (k : Nat) : VL true eqs [] YS.none Try.f39 0 [0,1,4,5,10,14,25] [] 0 (lp39 n x y m u v) (k) = Rq39 n x y m u v k := by kernel_rfl
theorem peq39 (n : Nat) (x y : Nat → Int) (m : Nat) (u v : Nat → Int) (k : Nat) : (lp39 n x y m u v).pre (k) = ((k ≤ n ∧ n = m ∧ R64 (↑n : Int)) ∧ ∀ (j : Nat), j < k → M.eqR x y u v j = true) := by kernel_rfl
theorem bq39 (n : Nat) (x y : Nat → Int) (m : Nat) (u v : Nat → Int) (k : Nat) (hp : (k ≤ n ∧ n = m ∧ R64 (↑n : Int)) ∧ ∀ (j : Nat), j < k → M.eqR x y u v j = true) : Rq39 n x y m u v k := by
  unfold Rq39
  obtain ⟨⟨hk, hnm, hR⟩, ho⟩ := hp
  have e : M.eqR x y u v k = (decide (x k = u k) && decide (y k = v k)) := rfl
  have ha := @M.allB_iff (M.eqR x y u v) n
  simp only [Int.toNat_natCast, Bool.and_true, ← e]
  unfold R64 at *
  refine ⟨fun hlt => ?_, fun hlt => ?_⟩
  · simp only [decide_eq_true_eq] at hlt
    cases hb : M.eqR x y u v k
    · have : M.allB (M.eqR x y u v) n = false := by
        rw [Bool.eq_false_iff]
        intro h
        have := ha.1 h k (by omega)
        rw [hb] at this; cases this
      simp [this]
      omega
    · have hn : ∀ j, j < k + 1 → M.eqR x y u v j = true := fun j hj => by
        by_cases e' : j = k
        · subst e'; exact hb
        · exact ho j (by omega)
      simp
      repeat' apply And.intro
      all_goals first | omega | exact hn
  · simp only [decide_eq_false_iff_not] at hlt
    have := ha.2 (fun j hj => ho j (by omega))
    simp [this]
theorem t39 (n : Nat) (x y : Nat → Int) (m : Nat) (u v : Nat → Int) {F : Fence} (hF : FOK F) (Y : YEnv PP YS.none) : ∀ Q A H nx, loopT false Try.f39.ntmps 0 (lp39 n x y m u v) (fun _ _ _ => (0 : Nat)) Q A H nx → WPS Y F Try.f39.ntmps 0 (.block 0 (blkAt 0 Try.f39)) Q A H nx :=
  loopW (E := eqs) (eqsok) (O := []) (.nil) (ck := true) (L := [0,1,4,5,10,14,25]) (f := Try.f39) (m := 0) (id := 0) (l := (lp39 n x y m u v)) (LI := fun i => []) Y hF (by kernel_rfl) (fun _ => .nil) (by
    rintro k hp
    exact Hold.of (q39 n x y m u v k) (bq39 n x y m u v k ((peq39 n x y m u v k).mp hp)))
def e39 : List SV → Option (List Prop × SV)
  | [.sl 2 n g_1, .sl 2 m g_2] => some ([Row 2 n g_1, Row 2 m g_2, R64 n, R64 m], .bool (decide (n = m) && M.allB (M.eqR (cI g_1 0) (cI g_1 1) (cI g_2 0) (cI g_2 1)) n))
  | _ => none
def Rr39 (n : Nat) (x y : Nat → Int) (m : Nat) (u v : Nat → Int) : Prop := ((!decide ((↑n : Int) = (↑m : Int))) = true → false = (decide (n = m) && M.allB (M.eqR x y u v) n)) ∧ ((!decide ((↑n : Int) = (↑m : Int))) = false → (((0 : Nat) ≤ n ∧ n = m ∧ R64 (↑n : Int)) ∧ ∀ (j : Nat), j < (0 : Nat) → M.eqR x y u v j = true) ∧ ((n = n ∧ ∀ (k : Nat), k < n → x k = x k ∧ y k = y k) ∧ (m = m ∧ ∀ (k : Nat), k < m → u k = u k ∧ v k = v k) ∧ (0 : Int) = (↑(0 : Nat) : Int) ∧ True) ∧ ((!M.allB (M.eqR x y u v) n) = false → true = (decide (n = m) && M.allB (M.eqR x y u v) n)) ∧ ((!M.allB (M.eqR x y u v) n) = true → false = (decide (n = m) && M.allB (M.eqR x y u v) n)))
theorem r39 (n : Nat) (x y : Nat → Int) (m : Nat) (u v : Nat → Int) : V true eqs [] Try.f39 [0,1,4,5,10,14,25] [(0, loopT false Try.f39.ntmps 0 (lp39 n x y m u v) (fun _ _ _ => (0 : Nat)))] [.sl 2 n (fun k => [SI (x k), SI (y k)]), .sl 2 m (fun k => [SI (u k), SI (v k)])] (.bool (decide (n = m) && M.allB (M.eqR x y u v) n)) = Rr39 n x y m u v := by kernel_rfl
theorem br39 (n : Nat) (x y : Nat → Int) (m : Nat) (u v : Nat → Int) (hp : (R64 n) ∧ (R64 m) ∧ AllP []) : Rr39 n x y m u v := by
  unfold Rr39
  have h1 := hp.1
  have e : ((n : Int) = (m : Int)) = (n = m) := by rw [eq_iff_iff]; omega
  simp only [e]
  by_cases h : n = m
  · subst h
    cases M.allB (M.eqR x y u v) n <;> simp [h1]
  · simp [h]
theorem s39 : PureOK PP 39 e39 := by
  intro xs ps res h hp
  unfold e39 at h
  split at h
  · rename_i n g_1 m g_2
    simp only [Option.some.injEq, Prod.mk.injEq] at h
    obtain ⟨rfl, rfl⟩ := h
    simp only [AllP.cons] at hp
    obtain ⟨Hg_1, hp⟩ := hp
    obtain ⟨Hg_2, hp⟩ := hp
    refine Spec.args (ys := [.sl 2 n (fun k => [SI ((cI g_1 0) k), SI ((cI g_1 1) k)]), .sl 2 m (fun k => [SI ((cI g_2 0) k), SI ((cI g_2 1) k)])]) ?_ (.cons (.row Hg_1 fun _ => rfl) (.cons (.row Hg_2 fun _ => rfl) .nil))
    refine enter (L := [0,1,4,5,10,14,25]) (LO := [(0, loopT false Try.f39.ntmps 0 (lp39 n (cI g_1 0) (cI g_1 1) m (cI g_2 0) (cI g_2 1)) (fun _ _ _ => (0 : Nat)))]) (E := eqs) (O := []) (ck := true) (eqsok) (.nil) (k := 39) (f := Try.f39) (xs := [.sl 2 n (fun k => [SI ((cI g_1 0) k), SI ((cI g_1 1) k)]), .sl 2 m (fun k => [SI ((cI g_2 0) k), SI ((cI g_2 1) k)])]) (r := (.bool (decide (n = m) && M.allB (M.eqR (cI g_1 0) (cI g_1 1) (cI g_2 0) (cI g_2 1)) n))) (by kernel_rfl) (by kernel_rfl) (fun Y => .cons (by kernel_rfl) (t39 n (cI g_1 0) (cI g_1 1) m (cI g_2 0) (cI g_2 1) FOK.wide Y) (.nil)) ?_
    exact Hold.of (r39 n (cI g_1 0) (cI g_1 1) m (cI g_2 0) (cI g_2 1)) (br39 n (cI g_1 0) (cI g_1 1) m (cI g_2 0) (cI g_2 1) hp)
  · cases h
/-- The entry at arguments that are known. -/
def atArgs (ys : List SV) (r : SV) : List SV → Option (List Prop × SV) := fun xs => some ([leRow le2 xs ys], r)
theorem atArgs_ok {f : FuncId} {ys : List SV} {r : SV} (h : Pure PP f (SV.denL ys) r.den) : PureOK PP f (atArgs ys r) := fun xs ps res hx hp => by
  cases hx
  exact Spec.args h (leRow_to le2_ok _ _ (hp _ (by simp)))
abbrev exG : SV := .agg [SI 4, SI 1, SI 1000, .sl 2 4 (fun k => [SI (M.g0 k), SI (M.g0 k)])]
abbrev exL : SV := .agg [SI 0, SI 0]
abbrev exM : SV := .agg [SI 3000, SI 3000, SI 512, SI 512]
theorem row4 : Row 2 4 (fun k => [SI (M.g0 k), SI (M.g0 k)]) := fun k hk => ⟨rfl, rfl⟩
theorem p4 : AllP [Row 2 4 (fun k => [SI (M.g0 k), SI (M.g0 k)]), R64 (4 : Nat)] := AllP.cons.2 ⟨row4, AllP.cons.2 ⟨by unfold R64; omega, AllP.nil⟩⟩
abbrev e27x := atArgs [exG, exL, exM, SI 1, SI 0, .agg [SI 2000, SI 2000]] (.tup [.agg [SI (-314), SI (-312)], SI 0])
theorem res27 {E lo hi a b : Int} (hE : E = 0) (h1 : lo = a) (h2 : hi = b) : SV.tup [.agg [SI (if E = 0 then lo else 0), SI (if E = 0 then hi else 0)], SI E] = .tup [.agg [SI a, SI b], SI 0] := by subst hE h1 h2; rfl
theorem s27x : PureOK PP 27 e27x := atArgs_ok ((congrArg (fun r => Pure PP 27 (SV.denL [exG, exL, exM, SI 1, SI 0, .agg [SI 2000, SI 2000]]) (SV.den r)) (res27 M.ex_set.1 M.ex_set.2.1 M.ex_set.2.2)).mp (s27 [exG, exL, exM, SI 1, SI 0, .agg [SI 2000, SI 2000]] _ _ rfl p4))
abbrev exWs : SV := .sl 5 2 (fun _ => [SI 2000, SI 2000, SI 1, SI 0, SI 0])
abbrev e32x := atArgs [exG, exL, exM, SI 2, exL, exWs] (.tup [.sl 2 2 (fun k => [SI (M.exLo k), SI (M.exHi k)]), SI 0])
theorem res32 {E : Int} {f : Nat → List SV} {m : Nat} (hE : E = 0) : SV.tup [.sl 2 (if E = 0 then m else 0) f, SI E] = .tup [.sl 2 m f, SI 0] := by subst hE; rfl
theorem p42 : AllP [Row 2 4 (fun k => [SI (M.g0 k), SI (M.g0 k)]), Row 5 2 (fun _ => [SI 2000, SI 2000, SI 1, SI 0, SI 0]), R64 (4 : Nat), R64 (2 : Nat)] := AllP.cons.2 ⟨row4, AllP.cons.2 ⟨fun k hk => ⟨rfl, rfl, rfl, rfl, rfl⟩, AllP.cons.2 ⟨by unfold R64; omega, AllP.cons.2 ⟨by unfold R64; omega, AllP.nil⟩⟩⟩⟩
theorem s32x : PureOK PP 32 e32x := atArgs_ok ((congrArg (fun r => Pure PP 32 (SV.denL [exG, exL, exM, SI 2, exL, exWs]) (SV.den r)) (res32 (f := fun k => [SI (M.exLo k), SI (M.exHi k)]) M.ex_run.1)).mp (s32 [exG, exL, exM, SI 2, exL, exWs] _ _ rfl p42))
abbrev exS : SV := .agg [SI 0, SI 0, SI (-3000), SI (-3000), SI 2000, SI 4000, SI 4000, SI 5000, SI 5000]
abbrev e16x := atArgs [exG, exS, SI 0] (.tup [.agg [SI 2666, SI 2667, SI 16, SI 0, SI 5000], SI 0])
theorem res16 {E a b c d e a' b' c' d' : Int} (hE : E = 0) (h1 : a = a') (h2 : b = b') (h3 : c = c') (h4 : d = d') : SV.tup [.agg [SI (if E = 0 then a else 0), SI (if E = 0 then b else 0), SI (if E = 0 then c else 0), SI (if E = 0 then d else 0), SI (if E = 0 then e else 0)], SI E] = .tup [.agg [SI a', SI b', SI c', SI d', SI e], SI 0] := by subst hE h1 h2 h3 h4; rfl
theorem s16x : PureOK PP 16 e16x := atArgs_ok ((congrArg (fun r => Pure PP 16 (SV.denL [exG, exS, SI 0]) (SV.den r)) (res16 M.ex_E M.ex_S0 M.ex_S1 M.ex_H M.ex_F)).mp (s16 [exG, exS, SI 0] _ _ rfl p4))
def e15 : List SV → Option (List Prop × SV)
  | [] => some ([], .bool true)
  | _ => none
def Rr15  : Prop := (((4 : Int) = (4 : Int) ∧ (1 : Int) = (1 : Int) ∧ (1000 : Int) = (1000 : Int) ∧ (4 : Nat) = (4 : Nat) ∧ ∀ (k : Nat), k < (4 : Nat) → M.g0 k = M.g0 k ∧ M.g0 k = M.g0 k) ∧ ((0 : Int) = (0 : Int) ∧ (0 : Int) = (0 : Int)) ∧ ((3000 : Int) = (3000 : Int) ∧ (3000 : Int) = (3000 : Int) ∧ (512 : Int) = (512 : Int) ∧ (512 : Int) = (512 : Int)) ∧ (1 : Int) = (1 : Int) ∧ (0 : Int) = (0 : Int) ∧ (2000 : Int) = (2000 : Int) ∧ (2000 : Int) = (2000 : Int)) ∧ (0 : Nat) + (2 : Nat) ≤ (2 : Nat) ∧ (((4 : Int) = (4 : Int) ∧ (1 : Int) = (1 : Int) ∧ (1000 : Int) = (1000 : Int) ∧ (4 : Nat) = (4 : Nat) ∧ ∀ (k : Nat), k < (4 : Nat) → M.g0 k = M.g0 k ∧ M.g0 k = M.g0 k) ∧ ((0 : Int) = (0 : Int) ∧ (0 : Int) = (0 : Int)) ∧ ((3000 : Int) = (3000 : Int) ∧ (3000 : Int) = (3000 : Int) ∧ (512 : Int) = (512 : Int) ∧ (512 : Int) = (512 : Int)) ∧ (2 : Int) = (2 : Int) ∧ ((0 : Int) = (0 : Int) ∧ (0 : Int) = (0 : Int)) ∧ (2 : Nat) = (2 : Nat) ∧ ∀ (k : Nat), k < (2 : Nat) → (bif decide ((0 : Nat) + k = (1 : Nat)) then (2000 : Int) else bif decide ((0 : Nat) + k = (0 : Nat)) then (2000 : Int) else (0 : Int)) = (2000 : Int) ∧ (bif decide ((0 : Nat) + k = (1 : Nat)) then (2000 : Int) else bif decide ((0 : Nat) + k = (0 : Nat)) then (2000 : Int) else (0 : Int)) = (2000 : Int) ∧ (bif decide ((0 : Nat) + k = (1 : Nat)) then (1 : Int) else bif decide ((0 : Nat) + k = (0 : Nat)) then (1 : Int) else (0 : Int)) = (1 : Int) ∧ (bif decide ((0 : Nat) + k = (1 : Nat)) then (0 : Int) else bif decide ((0 : Nat) + k = (0 : Nat)) then (0 : Int) else (0 : Int)) = (0 : Int) ∧ (bif decide ((0 : Nat) + k = (1 : Nat)) then (0 : Int) else bif decide ((0 : Nat) + k = (0 : Nat)) then (0 : Int) else (0 : Int)) = (0 : Int)) ∧ (((4 : Int) = (4 : Int) ∧ (1 : Int) = (1 : Int) ∧ (1000 : Int) = (1000 : Int) ∧ (4 : Nat) = (4 : Nat) ∧ ∀ (k : Nat), k < (4 : Nat) → M.g0 k = M.g0 k ∧ M.g0 k = M.g0 k) ∧ ((0 : Int) = (0 : Int) ∧ (0 : Int) = (0 : Int) ∧ (-3000 : Int) = (-3000 : Int) ∧ (-3000 : Int) = (-3000 : Int) ∧ (2000 : Int) = (2000 : Int) ∧ (4000 : Int) = (4000 : Int) ∧ (4000 : Int) = (4000 : Int) ∧ (5000 : Int) = (5000 : Int) ∧ (5000 : Int) = (5000 : Int)) ∧ (0 : Int) = (0 : Int)) ∧ (decide ((0 : Int) = (0 : Int)) = true → decide ((0 : Int) = (0 : Int)) = true) ∧ (decide ((0 : Int) = (0 : Int)) = true → decide ((0 : Int) = (0 : Int)) = true) ∧ ((bif decide ((0 : Int) = (0 : Int)) then decide ((0 : Int) = (0 : Int)) else false) = true → (bif decide ((0 : Int) = (0 : Int)) then decide ((0 : Int) = (0 : Int)) else false) = true) ∧ ((bif decide ((0 : Int) = (0 : Int)) then decide ((0 : Int) = (0 : Int)) else false) = true → (bif decide ((0 : Int) = (0 : Int)) then decide ((0 : Int) = (0 : Int)) else false) = true) ∧ ((bif bif decide ((0 : Int) = (0 : Int)) then decide ((0 : Int) = (0 : Int)) else false then decide ((0 : Int) = (0 : Int)) else false) = true → (bif bif decide ((0 : Int) = (0 : Int)) then decide ((0 : Int) = (0 : Int)) else false then decide ((0 : Int) = (0 : Int)) else false) = true) ∧ ((bif bif decide ((0 : Int) = (0 : Int)) then decide ((0 : Int) = (0 : Int)) else false then decide ((0 : Int) = (0 : Int)) else false) = true → (bif bif decide ((0 : Int) = (0 : Int)) then decide ((0 : Int) = (0 : Int)) else false then decide ((0 : Int) = (0 : Int)) else false) = true) ∧ ((bif bif decide ((0 : Int) = (0 : Int)) then decide ((0 : Int) = (0 : Int)) else false then decide ((0 : Int) = (0 : Int)) else false) = true → (bif bif decide ((0 : Int) = (0 : Int)) then decide ((0 : Int) = (0 : Int)) else false then decide ((0 : Int) = (0 : Int)) else false) = true) ∧ ((bif bif bif decide ((0 : Int) = (0 : Int)) then decide ((0 : Int) = (0 : Int)) else false then decide ((0 : Int) = (0 : Int)) else false then decide ((-314 : Int) = (-314 : Int)) && (decide ((-312 : Int) = (-312 : Int)) && true) else false) = true → (bif bif bif decide ((0 : Int) = (0 : Int)) then decide ((0 : Int) = (0 : Int)) else false then decide ((0 : Int) = (0 : Int)) else false then decide ((-314 : Int) = (-314 : Int)) && (decide ((-312 : Int) = (-312 : Int)) && true) else false) = true ∧ (bif bif bif decide ((0 : Int) = (0 : Int)) then decide ((0 : Int) = (0 : Int)) else false then decide ((0 : Int) = (0 : Int)) else false then decide ((-314 : Int) = (-314 : Int)) && (decide ((-312 : Int) = (-312 : Int)) && true) else false) = true ∧ ((bif bif bif decide ((0 : Int) = (0 : Int)) then decide ((0 : Int) = (0 : Int)) else false then decide ((0 : Int) = (0 : Int)) else false then decide ((-314 : Int) = (-314 : Int)) && (decide ((-312 : Int) = (-312 : Int)) && true) else false) = true → (bif bif bif decide ((0 : Int) = (0 : Int)) then decide ((0 : Int) = (0 : Int)) else false then decide ((0 : Int) = (0 : Int)) else false then decide ((-314 : Int) = (-314 : Int)) && (decide ((-312 : Int) = (-312 : Int)) && true) else false) = true) ∧ ((bif bif bif decide ((0 : Int) = (0 : Int)) then decide ((0 : Int) = (0 : Int)) else false then decide ((0 : Int) = (0 : Int)) else false then decide ((-314 : Int) = (-314 : Int)) && (decide ((-312 : Int) = (-312 : Int)) && true) else false) = true → (0 : Nat) + (2 : Nat) ≤ (2 : Nat)) ∧ ((bif bif bif decide ((0 : Int) = (0 : Int)) then decide ((0 : Int) = (0 : Int)) else false then decide ((0 : Int) = (0 : Int)) else false then decide ((-314 : Int) = (-314 : Int)) && (decide ((-312 : Int) = (-312 : Int)) && true) else false) = true → ∀ (k : Nat), k < (2 : Nat) → M.exLo k = M.exLo k ∧ M.exHi k = M.exHi k) ∧ ((bif bif bif decide ((0 : Int) = (0 : Int)) then decide ((0 : Int) = (0 : Int)) else false then decide ((0 : Int) = (0 : Int)) else false then decide ((-314 : Int) = (-314 : Int)) && (decide ((-312 : Int) = (-312 : Int)) && true) else false) = true → ∀ (k : Nat), k < (2 : Nat) → (bif decide ((0 : Nat) + k = (1 : Nat)) then (469 : Int) else bif decide ((0 : Nat) + k = (0 : Nat)) then (313 : Int) else (0 : Int)) = cI (fun k => (if (2 : Nat) = (1 : Nat) then fun x => [SV.int IntKind.i64 (469 : Int), SV.int IntKind.i64 (471 : Int)] else fun k => [SV.int IntKind.i64 (bif decide (k = (1 : Nat)) then (469 : Int) else bif decide (k = (0 : Nat)) then (313 : Int) else (0 : Int)), SV.int IntKind.i64 (bif decide (k = (1 : Nat)) then (471 : Int) else bif decide (k = (0 : Nat)) then (314 : Int) else (0 : Int))]) ((0 : Nat) + k)) (0 : Nat) k ∧ (bif decide ((0 : Nat) + k = (1 : Nat)) then (471 : Int) else bif decide ((0 : Nat) + k = (0 : Nat)) then (314 : Int) else (0 : Int)) = cI (fun k => (if (2 : Nat) = (1 : Nat) then fun x => [SV.int IntKind.i64 (469 : Int), SV.int IntKind.i64 (471 : Int)] else fun k => [SV.int IntKind.i64 (bif decide (k = (1 : Nat)) then (469 : Int) else bif decide (k = (0 : Nat)) then (313 : Int) else (0 : Int)), SV.int IntKind.i64 (bif decide (k = (1 : Nat)) then (471 : Int) else bif decide (k = (0 : Nat)) then (314 : Int) else (0 : Int))]) ((0 : Nat) + k)) ((0 : Nat) + (1 : Nat)) k) ∧ ((bif bif bif decide ((0 : Int) = (0 : Int)) then decide ((0 : Int) = (0 : Int)) else false then decide ((0 : Int) = (0 : Int)) else false then decide ((-314 : Int) = (-314 : Int)) && (decide ((-312 : Int) = (-312 : Int)) && true) else false) = true → R64 (↑(2 : Nat) : Int)) ∧ ((bif bif bif decide ((0 : Int) = (0 : Int)) then decide ((0 : Int) = (0 : Int)) else false then decide ((0 : Int) = (0 : Int)) else false then decide ((-314 : Int) = (-314 : Int)) && (decide ((-312 : Int) = (-312 : Int)) && true) else false) = true → R64 (↑(2 : Nat) : Int)) ∧ ((bif bif bif decide ((0 : Int) = (0 : Int)) then decide ((0 : Int) = (0 : Int)) else false then decide ((0 : Int) = (0 : Int)) else false then decide ((-314 : Int) = (-314 : Int)) && (decide ((-312 : Int) = (-312 : Int)) && true) else false) = true → (bif bif bif decide ((0 : Int) = (0 : Int)) then decide ((0 : Int) = (0 : Int)) else false then decide ((0 : Int) = (0 : Int)) else false then decide ((-314 : Int) = (-314 : Int)) && (decide ((-312 : Int) = (-312 : Int)) && true) else false) = true) ∧ ((bif bif bif bif decide ((0 : Int) = (0 : Int)) then decide ((0 : Int) = (0 : Int)) else false then decide ((0 : Int) = (0 : Int)) else false then decide ((-314 : Int) = (-314 : Int)) && (decide ((-312 : Int) = (-312 : Int)) && true) else false then decide ((2 : Nat) = (2 : Nat)) && M.allB (M.eqR M.exLo M.exHi (cI (fun k => (if (2 : Nat) = (1 : Nat) then fun x => [SV.int IntKind.i64 (469 : Int), SV.int IntKind.i64 (471 : Int)] else fun k => [SV.int IntKind.i64 (bif decide (k = (1 : Nat)) then (469 : Int) else bif decide (k = (0 : Nat)) then (313 : Int) else (0 : Int)), SV.int IntKind.i64 (bif decide (k = (1 : Nat)) then (471 : Int) else bif decide (k = (0 : Nat)) then (314 : Int) else (0 : Int))]) ((0 : Nat) + k)) (0 : Nat)) (cI (fun k => (if (2 : Nat) = (1 : Nat) then fun x => [SV.int IntKind.i64 (469 : Int), SV.int IntKind.i64 (471 : Int)] else fun k => [SV.int IntKind.i64 (bif decide (k = (1 : Nat)) then (469 : Int) else bif decide (k = (0 : Nat)) then (313 : Int) else (0 : Int)), SV.int IntKind.i64 (bif decide (k = (1 : Nat)) then (471 : Int) else bif decide (k = (0 : Nat)) then (314 : Int) else (0 : Int))]) ((0 : Nat) + k)) (1 : Nat))) (2 : Nat) else false) = true → (bif bif bif bif decide ((0 : Int) = (0 : Int)) then decide ((0 : Int) = (0 : Int)) else false then decide ((0 : Int) = (0 : Int)) else false then decide ((-314 : Int) = (-314 : Int)) && (decide ((-312 : Int) = (-312 : Int)) && true) else false then decide ((2 : Nat) = (2 : Nat)) && M.allB (M.eqR M.exLo M.exHi (cI (fun k => (if (2 : Nat) = (1 : Nat) then fun x => [SV.int IntKind.i64 (469 : Int), SV.int IntKind.i64 (471 : Int)] else fun k => [SV.int IntKind.i64 (bif decide (k = (1 : Nat)) then (469 : Int) else bif decide (k = (0 : Nat)) then (313 : Int) else (0 : Int)), SV.int IntKind.i64 (bif decide (k = (1 : Nat)) then (471 : Int) else bif decide (k = (0 : Nat)) then (314 : Int) else (0 : Int))]) ((0 : Nat) + k)) (0 : Nat)) (cI (fun k => (if (2 : Nat) = (1 : Nat) then fun x => [SV.int IntKind.i64 (469 : Int), SV.int IntKind.i64 (471 : Int)] else fun k => [SV.int IntKind.i64 (bif decide (k = (1 : Nat)) then (469 : Int) else bif decide (k = (0 : Nat)) then (313 : Int) else (0 : Int)), SV.int IntKind.i64 (bif decide (k = (1 : Nat)) then (471 : Int) else bif decide (k = (0 : Nat)) then (314 : Int) else (0 : Int))]) ((0 : Nat) + k)) (1 : Nat))) (2 : Nat) else false) = true) ∧ ((bif bif bif bif decide ((0 : Int) = (0 : Int)) then decide ((0 : Int) = (0 : Int)) else false then decide ((0 : Int) = (0 : Int)) else false then decide ((-314 : Int) = (-314 : Int)) && (decide ((-312 : Int) = (-312 : Int)) && true) else false then decide ((2 : Nat) = (2 : Nat)) && M.allB (M.eqR M.exLo M.exHi (cI (fun k => (if (2 : Nat) = (1 : Nat) then fun x => [SV.int IntKind.i64 (469 : Int), SV.int IntKind.i64 (471 : Int)] else fun k => [SV.int IntKind.i64 (bif decide (k = (1 : Nat)) then (469 : Int) else bif decide (k = (0 : Nat)) then (313 : Int) else (0 : Int)), SV.int IntKind.i64 (bif decide (k = (1 : Nat)) then (471 : Int) else bif decide (k = (0 : Nat)) then (314 : Int) else (0 : Int))]) ((0 : Nat) + k)) (0 : Nat)) (cI (fun k => (if (2 : Nat) = (1 : Nat) then fun x => [SV.int IntKind.i64 (469 : Int), SV.int IntKind.i64 (471 : Int)] else fun k => [SV.int IntKind.i64 (bif decide (k = (1 : Nat)) then (469 : Int) else bif decide (k = (0 : Nat)) then (313 : Int) else (0 : Int)), SV.int IntKind.i64 (bif decide (k = (1 : Nat)) then (471 : Int) else bif decide (k = (0 : Nat)) then (314 : Int) else (0 : Int))]) ((0 : Nat) + k)) (1 : Nat))) (2 : Nat) else false) = true → (bif bif bif bif decide ((0 : Int) = (0 : Int)) then decide ((0 : Int) = (0 : Int)) else false then decide ((0 : Int) = (0 : Int)) else false then decide ((-314 : Int) = (-314 : Int)) && (decide ((-312 : Int) = (-312 : Int)) && true) else false then decide ((2 : Nat) = (2 : Nat)) && M.allB (M.eqR M.exLo M.exHi (cI (fun k => (if (2 : Nat) = (1 : Nat) then fun x => [SV.int IntKind.i64 (469 : Int), SV.int IntKind.i64 (471 : Int)] else fun k => [SV.int IntKind.i64 (bif decide (k = (1 : Nat)) then (469 : Int) else bif decide (k = (0 : Nat)) then (313 : Int) else (0 : Int)), SV.int IntKind.i64 (bif decide (k = (1 : Nat)) then (471 : Int) else bif decide (k = (0 : Nat)) then (314 : Int) else (0 : Int))]) ((0 : Nat) + k)) (0 : Nat)) (cI (fun k => (if (2 : Nat) = (1 : Nat) then fun x => [SV.int IntKind.i64 (469 : Int), SV.int IntKind.i64 (471 : Int)] else fun k => [SV.int IntKind.i64 (bif decide (k = (1 : Nat)) then (469 : Int) else bif decide (k = (0 : Nat)) then (313 : Int) else (0 : Int)), SV.int IntKind.i64 (bif decide (k = (1 : Nat)) then (471 : Int) else bif decide (k = (0 : Nat)) then (314 : Int) else (0 : Int))]) ((0 : Nat) + k)) (1 : Nat))) (2 : Nat) else false) = true) ∧ ((bif bif bif bif decide ((0 : Int) = (0 : Int)) then decide ((0 : Int) = (0 : Int)) else false then decide ((0 : Int) = (0 : Int)) else false then decide ((-314 : Int) = (-314 : Int)) && (decide ((-312 : Int) = (-312 : Int)) && true) else false then decide ((2 : Nat) = (2 : Nat)) && M.allB (M.eqR M.exLo M.exHi (cI (fun k => (if (2 : Nat) = (1 : Nat) then fun x => [SV.int IntKind.i64 (469 : Int), SV.int IntKind.i64 (471 : Int)] else fun k => [SV.int IntKind.i64 (bif decide (k = (1 : Nat)) then (469 : Int) else bif decide (k = (0 : Nat)) then (313 : Int) else (0 : Int)), SV.int IntKind.i64 (bif decide (k = (1 : Nat)) then (471 : Int) else bif decide (k = (0 : Nat)) then (314 : Int) else (0 : Int))]) ((0 : Nat) + k)) (0 : Nat)) (cI (fun k => (if (2 : Nat) = (1 : Nat) then fun x => [SV.int IntKind.i64 (469 : Int), SV.int IntKind.i64 (471 : Int)] else fun k => [SV.int IntKind.i64 (bif decide (k = (1 : Nat)) then (469 : Int) else bif decide (k = (0 : Nat)) then (313 : Int) else (0 : Int)), SV.int IntKind.i64 (bif decide (k = (1 : Nat)) then (471 : Int) else bif decide (k = (0 : Nat)) then (314 : Int) else (0 : Int))]) ((0 : Nat) + k)) (1 : Nat))) (2 : Nat) else false) = true → (bif bif bif bif decide ((0 : Int) = (0 : Int)) then decide ((0 : Int) = (0 : Int)) else false then decide ((0 : Int) = (0 : Int)) else false then decide ((-314 : Int) = (-314 : Int)) && (decide ((-312 : Int) = (-312 : Int)) && true) else false then decide ((2 : Nat) = (2 : Nat)) && M.allB (M.eqR M.exLo M.exHi (cI (fun k => (if (2 : Nat) = (1 : Nat) then fun x => [SV.int IntKind.i64 (469 : Int), SV.int IntKind.i64 (471 : Int)] else fun k => [SV.int IntKind.i64 (bif decide (k = (1 : Nat)) then (469 : Int) else bif decide (k = (0 : Nat)) then (313 : Int) else (0 : Int)), SV.int IntKind.i64 (bif decide (k = (1 : Nat)) then (471 : Int) else bif decide (k = (0 : Nat)) then (314 : Int) else (0 : Int))]) ((0 : Nat) + k)) (0 : Nat)) (cI (fun k => (if (2 : Nat) = (1 : Nat) then fun x => [SV.int IntKind.i64 (469 : Int), SV.int IntKind.i64 (471 : Int)] else fun k => [SV.int IntKind.i64 (bif decide (k = (1 : Nat)) then (469 : Int) else bif decide (k = (0 : Nat)) then (313 : Int) else (0 : Int)), SV.int IntKind.i64 (bif decide (k = (1 : Nat)) then (471 : Int) else bif decide (k = (0 : Nat)) then (314 : Int) else (0 : Int))]) ((0 : Nat) + k)) (1 : Nat))) (2 : Nat) else false) = true) ∧ ((bif bif bif bif decide ((0 : Int) = (0 : Int)) then decide ((0 : Int) = (0 : Int)) else false then decide ((0 : Int) = (0 : Int)) else false then decide ((-314 : Int) = (-314 : Int)) && (decide ((-312 : Int) = (-312 : Int)) && true) else false then decide ((2 : Nat) = (2 : Nat)) && M.allB (M.eqR M.exLo M.exHi (cI (fun k => (if (2 : Nat) = (1 : Nat) then fun x => [SV.int IntKind.i64 (469 : Int), SV.int IntKind.i64 (471 : Int)] else fun k => [SV.int IntKind.i64 (bif decide (k = (1 : Nat)) then (469 : Int) else bif decide (k = (0 : Nat)) then (313 : Int) else (0 : Int)), SV.int IntKind.i64 (bif decide (k = (1 : Nat)) then (471 : Int) else bif decide (k = (0 : Nat)) then (314 : Int) else (0 : Int))]) ((0 : Nat) + k)) (0 : Nat)) (cI (fun k => (if (2 : Nat) = (1 : Nat) then fun x => [SV.int IntKind.i64 (469 : Int), SV.int IntKind.i64 (471 : Int)] else fun k => [SV.int IntKind.i64 (bif decide (k = (1 : Nat)) then (469 : Int) else bif decide (k = (0 : Nat)) then (313 : Int) else (0 : Int)), SV.int IntKind.i64 (bif decide (k = (1 : Nat)) then (471 : Int) else bif decide (k = (0 : Nat)) then (314 : Int) else (0 : Int))]) ((0 : Nat) + k)) (1 : Nat))) (2 : Nat) else false) = true → (bif bif bif bif decide ((0 : Int) = (0 : Int)) then decide ((0 : Int) = (0 : Int)) else false then decide ((0 : Int) = (0 : Int)) else false then decide ((-314 : Int) = (-314 : Int)) && (decide ((-312 : Int) = (-312 : Int)) && true) else false then decide ((2 : Nat) = (2 : Nat)) && M.allB (M.eqR M.exLo M.exHi (cI (fun k => (if (2 : Nat) = (1 : Nat) then fun x => [SV.int IntKind.i64 (469 : Int), SV.int IntKind.i64 (471 : Int)] else fun k => [SV.int IntKind.i64 (bif decide (k = (1 : Nat)) then (469 : Int) else bif decide (k = (0 : Nat)) then (313 : Int) else (0 : Int)), SV.int IntKind.i64 (bif decide (k = (1 : Nat)) then (471 : Int) else bif decide (k = (0 : Nat)) then (314 : Int) else (0 : Int))]) ((0 : Nat) + k)) (0 : Nat)) (cI (fun k => (if (2 : Nat) = (1 : Nat) then fun x => [SV.int IntKind.i64 (469 : Int), SV.int IntKind.i64 (471 : Int)] else fun k => [SV.int IntKind.i64 (bif decide (k = (1 : Nat)) then (469 : Int) else bif decide (k = (0 : Nat)) then (313 : Int) else (0 : Int)), SV.int IntKind.i64 (bif decide (k = (1 : Nat)) then (471 : Int) else bif decide (k = (0 : Nat)) then (314 : Int) else (0 : Int))]) ((0 : Nat) + k)) (1 : Nat))) (2 : Nat) else false) = true) ∧ ((bif bif bif bif decide ((0 : Int) = (0 : Int)) then decide ((0 : Int) = (0 : Int)) else false then decide ((0 : Int) = (0 : Int)) else false then decide ((-314 : Int) = (-314 : Int)) && (decide ((-312 : Int) = (-312 : Int)) && true) else false then decide ((2 : Nat) = (2 : Nat)) && M.allB (M.eqR M.exLo M.exHi (cI (fun k => (if (2 : Nat) = (1 : Nat) then fun x => [SV.int IntKind.i64 (469 : Int), SV.int IntKind.i64 (471 : Int)] else fun k => [SV.int IntKind.i64 (bif decide (k = (1 : Nat)) then (469 : Int) else bif decide (k = (0 : Nat)) then (313 : Int) else (0 : Int)), SV.int IntKind.i64 (bif decide (k = (1 : Nat)) then (471 : Int) else bif decide (k = (0 : Nat)) then (314 : Int) else (0 : Int))]) ((0 : Nat) + k)) (0 : Nat)) (cI (fun k => (if (2 : Nat) = (1 : Nat) then fun x => [SV.int IntKind.i64 (469 : Int), SV.int IntKind.i64 (471 : Int)] else fun k => [SV.int IntKind.i64 (bif decide (k = (1 : Nat)) then (469 : Int) else bif decide (k = (0 : Nat)) then (313 : Int) else (0 : Int)), SV.int IntKind.i64 (bif decide (k = (1 : Nat)) then (471 : Int) else bif decide (k = (0 : Nat)) then (314 : Int) else (0 : Int))]) ((0 : Nat) + k)) (1 : Nat))) (2 : Nat) else false) = true → (bif bif bif bif decide ((0 : Int) = (0 : Int)) then decide ((0 : Int) = (0 : Int)) else false then decide ((0 : Int) = (0 : Int)) else false then decide ((-314 : Int) = (-314 : Int)) && (decide ((-312 : Int) = (-312 : Int)) && true) else false then decide ((2 : Nat) = (2 : Nat)) && M.allB (M.eqR M.exLo M.exHi (cI (fun k => (if (2 : Nat) = (1 : Nat) then fun x => [SV.int IntKind.i64 (469 : Int), SV.int IntKind.i64 (471 : Int)] else fun k => [SV.int IntKind.i64 (bif decide (k = (1 : Nat)) then (469 : Int) else bif decide (k = (0 : Nat)) then (313 : Int) else (0 : Int)), SV.int IntKind.i64 (bif decide (k = (1 : Nat)) then (471 : Int) else bif decide (k = (0 : Nat)) then (314 : Int) else (0 : Int))]) ((0 : Nat) + k)) (0 : Nat)) (cI (fun k => (if (2 : Nat) = (1 : Nat) then fun x => [SV.int IntKind.i64 (469 : Int), SV.int IntKind.i64 (471 : Int)] else fun k => [SV.int IntKind.i64 (bif decide (k = (1 : Nat)) then (469 : Int) else bif decide (k = (0 : Nat)) then (313 : Int) else (0 : Int)), SV.int IntKind.i64 (bif decide (k = (1 : Nat)) then (471 : Int) else bif decide (k = (0 : Nat)) then (314 : Int) else (0 : Int))]) ((0 : Nat) + k)) (1 : Nat))) (2 : Nat) else false) = true) ∧ (bif bif bif bif bif decide ((0 : Int) = (0 : Int)) then decide ((0 : Int) = (0 : Int)) else false then decide ((0 : Int) = (0 : Int)) else false then decide ((-314 : Int) = (-314 : Int)) && (decide ((-312 : Int) = (-312 : Int)) && true) else false then decide ((2 : Nat) = (2 : Nat)) && M.allB (M.eqR M.exLo M.exHi (cI (fun k => (if (2 : Nat) = (1 : Nat) then fun x => [SV.int IntKind.i64 (469 : Int), SV.int IntKind.i64 (471 : Int)] else fun k => [SV.int IntKind.i64 (bif decide (k = (1 : Nat)) then (469 : Int) else bif decide (k = (0 : Nat)) then (313 : Int) else (0 : Int)), SV.int IntKind.i64 (bif decide (k = (1 : Nat)) then (471 : Int) else bif decide (k = (0 : Nat)) then (314 : Int) else (0 : Int))]) ((0 : Nat) + k)) (0 : Nat)) (cI (fun k => (if (2 : Nat) = (1 : Nat) then fun x => [SV.int IntKind.i64 (469 : Int), SV.int IntKind.i64 (471 : Int)] else fun k => [SV.int IntKind.i64 (bif decide (k = (1 : Nat)) then (469 : Int) else bif decide (k = (0 : Nat)) then (313 : Int) else (0 : Int)), SV.int IntKind.i64 (bif decide (k = (1 : Nat)) then (471 : Int) else bif decide (k = (0 : Nat)) then (314 : Int) else (0 : Int))]) ((0 : Nat) + k)) (1 : Nat))) (2 : Nat) else false then decide ((2666 : Int) = (2666 : Int)) && (decide ((2667 : Int) = (2667 : Int)) && (decide ((16 : Int) = (16 : Int)) && (decide ((0 : Int) = (0 : Int)) && (decide ((5000 : Int) = (5000 : Int)) && true)))) else false) = true) ∧ ((bif bif bif decide ((0 : Int) = (0 : Int)) then decide ((0 : Int) = (0 : Int)) else false then decide ((0 : Int) = (0 : Int)) else false then decide ((-314 : Int) = (-314 : Int)) && (decide ((-312 : Int) = (-312 : Int)) && true) else false) = false → False)
theorem r15  : V true eqs [(51, pureE e51), (52, pureE e52), (53, pureE e53), (54, pureE e54), (24, pureE e24), (27, pureE e27x), (32, pureE e32x), (16, pureE e16x), (39, pureE e39)] Try.f15 [0,1,2,3,4,5,6] [] [] (.bool true) = Rr15  := by kernel_rfl
theorem br15   : Rr15  := by
  unfold Rr15
  have e : M.exLo 0 = 313 ∧ M.exLo 1 = 469 ∧ M.exHi 0 = 314 ∧ M.exHi 1 = 471 := M.ex_run.2
  have two : ∀ {P : Nat → Prop}, P 0 → P 1 → ∀ k, k < 2 → P k := fun h0 h1 k hk => by
    have : k = 0 ∨ k = 1 := by omega
    rcases this with e | e <;> subst e <;> assumption
  simp [cI, asI]
  refine ⟨two ⟨rfl, rfl⟩ ⟨rfl, rfl⟩, by unfold R64; omega, ?_⟩
  simp [M.allB, M.eqR, cI, asI, e]
theorem s15 : PureOK PP 15 e15 := by
  intro xs ps res h hp
  unfold e15 at h
  split at h
  · skip
    simp only [Option.some.injEq, Prod.mk.injEq] at h
    obtain ⟨rfl, rfl⟩ := h
    clear hp
    refine enter (L := [0,1,2,3,4,5,6]) (LO := []) (E := eqs) (O := [(51, pureE e51), (52, pureE e52), (53, pureE e53), (54, pureE e54), (24, pureE e24), (27, pureE e27x), (32, pureE e32x), (16, pureE e16x), (39, pureE e39)]) (ck := true) (eqsok) (.cons (pureE_ok s51) (.cons (pureE_ok s52) (.cons (pureE_ok s53) (.cons (pureE_ok s54) (.cons (pureE_ok s24) (.cons (pureE_ok s27x) (.cons (pureE_ok s32x) (.cons (pureE_ok s16x) (.cons (pureE_ok s39) (.nil)))))))))) (k := 15) (f := Try.f15) (xs := []) (r := (.bool true)) (by kernel_rfl) (by kernel_rfl) (fun _ => .nil) ?_
    exact Hold.of (r15 ) (br15  )
  · cases h
end Go.Proofs.Ytkklmkogdogbkaa.Sep
/-
  What the stage 'surge' computes, in plain numbers: levels that are exceeded. No condition. (This text proves no statement by itself.)
-/
namespace Go.Proofs.Ytkklmkogdogbkaa.M
def above (x : Nat → Int) (z : Int) (k : Nat) : Bool := decide (z < x k)
def ordR (x y : Nat → Int) (k : Nat) : Bool := decide (x k ≤ y k)
def ex0 (x y : Nat → Int) (n : Nat) (i : Int) : Int := if allB (ordR x y) n then i else 0
def exE (x y : Nat → Int) (n : Nat) : Int := if allB (ordR x y) n then 0 else 3
theorem idx_succ (p : Nat → Bool) (k : Nat) : idx p (k + 1) = if idx p k < 0 ∧ p k = true then (k : Int) else idx p k := by
  have h := (first_spec p k).1
  have e : first p (k + 1) = if first p k < k then first p k else if p k = true then k else k + 1 := rfl
  unfold idx
  generalize first p (k + 1) = f at *
  generalize first p k = g at *
  grind
theorem idx_ge (p : Nat → Bool) (k : Nat) : -1 ≤ idx p k ∧ idx p k ≤ k := by
  have h := (first_spec p k).1
  unfold idx
  split <;> omega
/-- The first one from j on. -/
def backOK (p : Nat → Bool) (n j : Nat) (a : Int) : Prop := (a = -1 ∧ ∀ k, j ≤ k → k < n → p k = false) ∨ (∃ k : Nat, a = k ∧ j ≤ k ∧ k < n ∧ p k = true ∧ ∀ i, j ≤ i → i < k → p i = false)
theorem backOK_end {p : Nat → Bool} {n : Nat} : backOK p n n (-1) := .inl ⟨rfl, fun k h h' => by omega⟩
theorem backOK_step {p : Nat → Bool} {n j : Nat} {a : Int} (h : backOK p n (j + 1) a) (hj : j < n) : backOK p n j (if p j = true then (j : Int) else a) := by
  by_cases hp : p j = true
  · rw [if_pos hp]
    exact .inr ⟨j, rfl, Nat.le_refl _, hj, hp, fun i h1 h2 => by omega⟩
  · rw [if_neg hp]
    have hp' : p j = false := by simpa using hp
    rcases h with ⟨rfl, h⟩ | ⟨k, rfl, h1, h2, h3, h4⟩
    · refine .inl ⟨rfl, fun k h1 h2 => ?_⟩
      by_cases e : k = j
      · subst e; exact hp'
      · exact h k (by omega) h2
    · refine .inr ⟨k, rfl, by omega, h2, h3, fun i h5 h6 => ?_⟩
      by_cases e : i = j
      · subst e; exact hp'
      · exact h4 i (by omega) h6
theorem backOK_0 {p : Nat → Bool} {n : Nat} {a : Int} (h : backOK p n 0 a) : a = idx p n := by
  rcases h with ⟨rfl, h⟩ | ⟨k, rfl, -, h2, h3, h4⟩
  · unfold idx; rw [first_end fun j hj => h j (by omega) hj, if_neg (by omega)]
  · unfold idx; rw [first_at h2 (fun j hj => h4 j (by omega) hj) h3, if_pos h2]
end Go.Proofs.Ytkklmkogdogbkaa.M
/-
  More of what the stage 'surge' computes, in plain numbers: rows of steps. No condition. (This text proves no statement by itself.)
-/
namespace Go.Proofs.Ytkklmkogdogbkaa.M
def dxs (k : Nat) : Int := [1, 1, 0, -1, -1, -1, 0, 1].getD k 0
def dys (k : Nat) : Int := [0, 1, 1, 1, 0, -1, -1, -1].getD k 0
theorem dxs_of (d : Int) : dxs d.toNat = dx d := rfl
theorem dys_of (d : Int) : dys d.toNat = dy d := rfl
theorem dxs_sel : ∀ k, (bif decide (k = 7) then (1 : Int) else bif decide (k = 6) then 0 else bif decide (k = 5) then -1 else bif decide (k = 4) then -1 else bif decide (k = 3) then -1 else bif decide (k = 2) then 0 else bif decide (k = 1) then 1 else bif decide (k = 0) then 1 else 0) = dxs k
  | 0 | 1 | 2 | 3 | 4 | 5 | 6 | 7 => rfl
  | k + 8 => by simp [dxs]
theorem dys_sel : ∀ k, (bif decide (k = 7) then (-1 : Int) else bif decide (k = 6) then -1 else bif decide (k = 5) then -1 else bif decide (k = 4) then 0 else bif decide (k = 3) then 1 else bif decide (k = 2) then 1 else bif decide (k = 1) then 1 else bif decide (k = 0) then 0 else 0) = dys k
  | 0 | 1 | 2 | 3 | 4 | 5 | 6 | 7 => rfl
  | k + 8 => by simp [dys]
theorem scan_next {p : Nat → Bool} {k : Nat} (ho : ∀ j, j < k → p j = true) (hb : p k = true) : ∀ j, j < k + 1 → p j = true := fun j hj => by
  by_cases e : j = k
  · subst e; exact hb
  · exact ho j (by omega)
theorem scan_fail {p : Nat → Bool} {n k : Nat} (hk : k < n) (hb : p k = false) : allB p n = false := by
  rw [Bool.eq_false_iff]
  intro h
  rw [allB_iff.1 h k hk] at hb; cases hb
theorem scan_all {p : Nat → Bool} {n : Nat} (ho : ∀ j, j < n → p j = true) : allB p n = true := allB_iff.2 ho
def eq1 (x u : Nat → Int) (k : Nat) : Bool := decide (x k = u k)
theorem W.fetch_more {g : W} {c d : Int} {sure : Bool} {k : Nat} (hs : ∀ j, j < k → g.sea c d sure j = true) (hk : k < rayN g.w g.h c d) (h : g.sea c d sure k = true) : k + 1 ≤ g.fetchN c d sure := by
  obtain ⟨h1, h2, h3⟩ := first_spec (fun k => !g.sea c d sure k) (rayN g.w g.h c d)
  rcases Nat.lt_or_ge k (g.fetchN c d sure) with h4 | h4
  · exact h4
  · exfalso
    have h5 : g.fetchN c d sure < rayN g.w g.h c d := by omega
    have h6 : (!g.sea c d sure (g.fetchN c d sure)) = true := h3 h5
    rcases Nat.lt_or_ge (g.fetchN c d sure) k with h7 | h7
    · rw [hs _ h7] at h6; cases h6
    · have : g.fetchN c d sure = k := by omega
      rw [this, h] at h6; cases h6
theorem W.fetch_stop {g : W} {c d : Int} {sure : Bool} {k : Nat} (hs : ∀ j, j < k → g.sea c d sure j = true) (hk : k ≤ rayN g.w g.h c d) (h : k < rayN g.w g.h c d → g.sea c d sure k = false) : g.fetchN c d sure = k := by
  unfold W.fetchN
  rcases Nat.lt_or_ge k (rayN g.w g.h c d) with h1 | h1
  · exact first_at h1 (fun j hj => by rw [hs j hj]; rfl) (by rw [h h1]; rfl)
  · have e : k = rayN g.w g.h c d := by omega
    have h2 := first_end (p := fun k => !g.sea c d sure k) (n := rayN g.w g.h c d) (fun j hj => by rw [hs j (by omega)]; rfl)
    exact h2.trans e.symm
theorem W.ok.ray {g : W} (h : g.ok) {c d : Int} {k : Nat} (hk : k < rayN g.w g.h c d) : 0 ≤ rayC g.w c d k ∧ rayC g.w c d k < g.n ∧ g.dlo (rayC g.w c d k) ≤ g.dhi (rayC g.w c d k) ∧ -1220000 ≤ g.dlo (rayC g.w c d k) ∧ g.dhi (rayC g.w c d k) ≤ 1220000 := by
  have h1 := rayC_in (d := d) h.w1 (inn_rayN hk)
  have h2 := h.depth h1.1 h1.2.1
  exact ⟨h1.1, by omega, h2.2⟩
theorem W.ok.sea_sure {g : W} (h : g.ok) {c d : Int} {k : Nat} (hk : k < rayN g.w g.h c d) : g.sea c d true k = decide (1 ≤ g.dlo (rayC g.w c d k)) := by
  have h1 := h.ray hk
  unfold W.sea
  rw [Bool.eq_iff_iff]; simp; omega
theorem W.sea_may {g : W} {c d : Int} {k : Nat} : g.sea c d false k = decide (1 ≤ g.dhi (rayC g.w c d k)) := by
  unfold W.sea; simp
theorem W.ok.fetch23 {g : W} (h : g.ok) {c d : Int} (hd : 0 ≤ d) (hd' : d ≤ 7) (hc : 0 ≤ c) (hc' : c < g.w * g.h) (sure : Bool) : g.fetchN c d sure ≤ 23 := by
  have h1 := g.fetchN_le c d sure
  have h2 := (rayN_lt h.w1 h.w2 h.h2 hc hc' hd hd').1
  omega
theorem cat_row {f : Nat → Int} {k : Nat} : ∀ j, j < k + 1 → (bif decide (j < k) then f j else f k) = f j := fun j hj => by
  by_cases e : j < k
  · simp [e]
  · have : j = k := by omega
    subst this; simp
theorem W.fetE_iff {g : W} {c d : Int} : g.fetE c d = 0 ↔ g.ok ∧ 0 ≤ c ∧ c < g.w * g.h ∧ 0 ≤ d ∧ d ≤ 7 := by
  rw [← W.chk_iff]
  unfold W.fetE W.hasE
  by_cases h1 : g.chk = 0 <;> by_cases h2 : c < 0 <;> by_cases h3 : g.w * g.h ≤ c <;> by_cases h4 : d < 0 <;> by_cases h5 : 7 < d <;> simp [h1, h2, h3, h4, h5] <;> omega
end Go.Proofs.Ytkklmkogdogbkaa.M
/-
  More of what the stage 'surge' computes, in plain numbers: steady levels gathered direction by direction. No condition. (This text proves no statement by itself.)
-/
namespace Go.Proofs.Ytkklmkogdogbkaa.M
def P.acLo (p : P) (m v0 v1 : Int) : Nat → Int
  | 0 => 0
  | d + 1 => if has m d then (if cntS m d = 0 then p.slo d v0 v1 else min (p.acLo m v0 v1 d) (p.slo d v0 v1)) else p.acLo m v0 v1 d
def P.acHi (p : P) (m v0 v1 : Int) : Nat → Int
  | 0 => 0
  | d + 1 => if has m d then (if cntS m d = 0 then p.shi d v0 v1 else max (p.acHi m v0 v1 d) (p.shi d v0 v1)) else p.acHi m v0 v1 d
theorem low_congr {x y : Nat → Int} {a b : Int} (h0 : a = b) : ∀ {n : Nat}, (∀ k, k < n → x k = y k) → low x a n = low y b n
  | 0, _ => h0
  | n + 1, h => by simp only [low]; rw [low_congr h0 (fun k hk => h k (by omega)), h n (by omega)]
theorem high_congr {x y : Nat → Int} {a b : Int} (h0 : a = b) : ∀ {n : Nat}, (∀ k, k < n → x k = y k) → high x a n = high y b n
  | 0, _ => h0
  | n + 1, h => by simp only [high]; rw [high_congr h0 (fun k hk => h k (by omega)), h n (by omega)]
theorem P.setLo_succ (p : P) {m v0 v1 : Int} {d k : Nat} (hb : has m d = true) (hk : k < cntS m d) : p.setLo m v0 v1 (d + 1) k = p.setLo m v0 v1 d k := by
  unfold P.setLo
  rw [get_succ hb (by omega), if_pos hk]
theorem P.setLo_last (p : P) {m v0 v1 : Int} {d k : Nat} (hb : has m d = true) (hk : k = cntS m d) : p.setLo m v0 v1 (d + 1) k = p.slo d v0 v1 := by
  unfold P.setLo
  rw [get_succ hb (by omega), if_neg (by omega)]
theorem P.acLo_eq (p : P) (m v0 v1 : Int) : ∀ d, 1 ≤ cntS m d → p.acLo m v0 v1 d = low (fun k => p.setLo m v0 v1 d (k + 1)) (p.setLo m v0 v1 d 0) (cntS m d - 1)
  | 0, h => by simp [cntS, sets] at h
  | d + 1, h => by
    have hs := cntS_succ m d
    have e0 : p.acLo m v0 v1 (d + 1) = if has m d then (if cntS m d = 0 then p.slo d v0 v1 else min (p.acLo m v0 v1 d) (p.slo d v0 v1)) else p.acLo m v0 v1 d := rfl
    rw [e0]
    by_cases hb : has m d = true
    · rw [if_pos hb] at hs ⊢
      rcases Nat.eq_zero_or_pos (cntS m d) with h0 | h0
      · rw [if_pos h0, hs, h0]
        exact (P.setLo_last p hb h0.symm).symm
      · rw [if_neg (by omega), hs, P.acLo_eq p m v0 v1 d h0]
        obtain ⟨c, hc⟩ : ∃ c, cntS m d = c + 1 := ⟨cntS m d - 1, by omega⟩
        rw [hc]
        simp only [Nat.add_sub_cancel, low]
        rw [P.setLo_last p hb hc.symm]
        rw [low_congr (x := fun k => p.setLo m v0 v1 d (k + 1)) (y := fun k => p.setLo m v0 v1 (d + 1) (k + 1)) (P.setLo_succ p hb h0).symm (fun k hk => (P.setLo_succ p hb (by omega)).symm)]
    · rw [if_neg hb] at hs ⊢
      rw [P.acLo_eq p m v0 v1 d (by omega), hs]
      have : sets m (d + 1) = sets m d := by simp only [sets, hb, Bool.false_eq_true, if_false]
      unfold P.setLo
      rw [this]
theorem P.setHi_succ (p : P) {m v0 v1 : Int} {d k : Nat} (hb : has m d = true) (hk : k < cntS m d) : p.setHi m v0 v1 (d + 1) k = p.setHi m v0 v1 d k := by
  unfold P.setHi
  rw [get_succ hb (by omega), if_pos hk]
theorem P.setHi_last (p : P) {m v0 v1 : Int} {d k : Nat} (hb : has m d = true) (hk : k = cntS m d) : p.setHi m v0 v1 (d + 1) k = p.shi d v0 v1 := by
  unfold P.setHi
  rw [get_succ hb (by omega), if_neg (by omega)]
theorem P.acHi_eq (p : P) (m v0 v1 : Int) : ∀ d, 1 ≤ cntS m d → p.acHi m v0 v1 d = high (fun k => p.setHi m v0 v1 d (k + 1)) (p.setHi m v0 v1 d 0) (cntS m d - 1)
  | 0, h => by simp [cntS, sets] at h
  | d + 1, h => by
    have hs := cntS_succ m d
    have e0 : p.acHi m v0 v1 (d + 1) = if has m d then (if cntS m d = 0 then p.shi d v0 v1 else max (p.acHi m v0 v1 d) (p.shi d v0 v1)) else p.acHi m v0 v1 d := rfl
    rw [e0]
    by_cases hb : has m d = true
    · rw [if_pos hb] at hs ⊢
      rcases Nat.eq_zero_or_pos (cntS m d) with h0 | h0
      · rw [if_pos h0, hs, h0]
        exact (P.setHi_last p hb h0.symm).symm
      · rw [if_neg (by omega), hs, P.acHi_eq p m v0 v1 d h0]
        obtain ⟨c, hc⟩ : ∃ c, cntS m d = c + 1 := ⟨cntS m d - 1, by omega⟩
        rw [hc]
        simp only [Nat.add_sub_cancel, high]
        rw [P.setHi_last p hb hc.symm]
        rw [high_congr (x := fun k => p.setHi m v0 v1 d (k + 1)) (y := fun k => p.setHi m v0 v1 (d + 1) (k + 1)) (P.setHi_succ p hb h0).symm (fun k hk => (P.setHi_succ p hb (by omega)).symm)]
    · rw [if_neg hb] at hs ⊢
      rw [P.acHi_eq p m v0 v1 d (by omega), hs]
      have : sets m (d + 1) = sets m d := by simp only [sets, hb, Bool.false_eq_true, if_false]
      unfold P.setHi
      rw [this]
theorem P.ok.acc {p : P} (h : p.ok) {v0 v1 : Int} (m : Int) (w1 : 0 ≤ v0) (w2 : v0 ≤ v1) (w3 : v1 ≤ 10000) : ∀ d, d ≤ 8 → -8522905553 ≤ p.acLo m v0 v1 d ∧ p.acLo m v0 v1 d ≤ 8522905553 ∧ -8522905553 ≤ p.acHi m v0 v1 d ∧ p.acHi m v0 v1 d ≤ 8522905553
  | 0, _ => by simp [P.acLo, P.acHi]
  | d + 1, hd => by
    have ih := P.ok.acc h m w1 w2 w3 d (by omega)
    have hs := h.setup (d := d) (by omega) (by omega) w1 w2 w3
    simp only [P.acLo, P.acHi]
    cases has m d <;> simp <;> (try split) <;> omega
theorem has_tmod {m : Int} {d : Nat} (h1 : 0 ≤ m) : decide (Int.tmod (Int.fdiv m (2 ^ min d 64)) 2 = 0) = !has m (min d 64) := by
  obtain ⟨n, rfl⟩ : ∃ n : Nat, m = n := ⟨m.toNat, by omega⟩
  have f : Int.fdiv (n : Int) (2 ^ min d 64) = ((n / 2 ^ min d 64 : Nat) : Int) := by
    rw [Int.fdiv_eq_ediv_of_nonneg _ (Int.pow_nonneg (by omega))]
    simp
  rw [f]
  unfold has
  rw [Int.toNat_natCast]
  generalize n / 2 ^ min d 64 = q
  rw [Int.tmod_eq_emod_of_nonneg (by omega)]
  rw [Bool.eq_iff_iff]
  simp
  omega
theorem P.rlo_eq (p : P) (d v : Int) : p.rlo d v = sum (fun k => tlo p.dl v (long p.s d) (p.dhi (rayC p.w p.c d k))) (p.fetchN p.c d true) := rfl
theorem P.rhi_eq (p : P) (d v : Int) : p.rhi d v = sum (fun k => thi p.dh v (wide p.s d) (p.dlo (rayC p.w p.c d k))) (p.fetchN p.c d false) := rfl
end Go.Proofs.Ytkklmkogdogbkaa.M
/-
  More of what the stage 'surge' computes, in plain numbers: roots rounded down and up. No condition. (This text proves no statement by itself.)
-/
namespace Go.Proofs.Ytkklmkogdogbkaa.M
/-- A root rounded down. -/
def flr (n : Int) : Int := root (n + 1) - 1
theorem sq_mono {a b : Int} (h0 : 0 ≤ a) (h : a ≤ b) : a * a ≤ b * b := Int.mul_le_mul h h h0 (by omega)
theorem sq_lt {a b : Int} (h0 : 0 ≤ a) (h : a < b) : a * a < b * b := by
  have h1 := sq_mono h0 (show a ≤ b - 1 by omega)
  have h2 : (b - 1) * (b - 1) = b * b - 2 * b + 1 := by rw [Int.sub_mul, Int.mul_sub]; omega
  omega
theorem sq_inv {a b : Int} (hb : 0 ≤ b) (h : a * a ≤ b * b) : a ≤ b := by
  rcases Int.lt_or_le b a with h1 | h1
  · have := sq_lt hb h1; omega
  · exact h1
theorem root_at' {n : Int} {k : Nat} (hk : k ≤ 16777216) (h : 1 ≤ k → ((k : Int) - 1) * (k - 1) < n) (h2 : n ≤ (k : Int) * k) : root n = k :=
  root_at hk (fun j hj hn => by
    have := sq_mono (a := (j : Int)) (b := k - 1) (by omega) (by omega)
    have := h (by omega)
    omega) (fun _ => h2)
theorem root_at_flr {n : Int} {f : Nat} (h : (f : Int) * f ≤ n) (h' : n < ((f : Int) + 1) * (f + 1)) (hf : f < 16777216) : flr n = f := by
  unfold flr
  have e : ((f + 1 : Nat) : Int) - 1 = f := by omega
  rw [root_at' (k := f + 1) (by omega) (fun _ => by rw [e]; omega) (by
    have e2 : ((f + 1 : Nat) : Int) = (f : Int) + 1 := by omega
    rw [e2]; omega)]
  omega
theorem flr_spec {n : Int} (h0 : 0 ≤ n) (h1 : n ≤ 200000000000000) : ∃ f : Nat, flr n = f ∧ (f : Int) * f ≤ n ∧ n < ((f : Int) + 1) * (f + 1) ∧ f < 16777216 := by
  have key : ∀ b : Nat, n < ((b : Int) + 1) * (b + 1) → ∃ f : Nat, (f : Int) * f ≤ n ∧ n < ((f : Int) + 1) * (f + 1) := fun b => by
    induction b with
    | zero => intro h; exact ⟨0, by simpa using h0, by simpa using h⟩
    | succ b ih =>
      intro h
      rcases Int.lt_or_le n (((b : Int) + 1) * (b + 1)) with h2 | h2
      · exact ih h2
      · exact ⟨b + 1, by simpa using h2, h⟩
  have big : ∃ b : Nat, n < ((b : Int) + 1) * (b + 1) := ⟨n.toNat, by
    have e : ((n.toNat : Nat) : Int) = n := Int.toNat_of_nonneg h0
    rw [e]
    have := Int.mul_le_mul (show (1 : Int) ≤ n + 1 by omega) (Int.le_refl (n + 1)) (by omega) (by omega)
    omega⟩
  obtain ⟨b, hb⟩ := big
  obtain ⟨f, hf, hf'⟩ := key b hb
  have hlt : f < 16777216 := by
    rcases Nat.lt_or_ge f 16777216 with h | h
    · exact h
    · have := sq_mono (a := 16777216) (b := (f : Int)) (by omega) (by omega)
      omega
  exact ⟨f, root_at_flr hf hf' hlt, hf, hf', hlt⟩
theorem flr_up {n : Int} (h0 : 0 ≤ n) (h1 : n ≤ 200000000000000) : (if flr n * flr n < n then flr n + 1 else flr n) = root n := by
  obtain ⟨f, e, hf, hf', hlt⟩ := flr_spec h0 h1
  rw [e]
  split
  · rename_i h
    have e1 : ((f + 1 : Nat) : Int) - 1 = f := by omega
    have e2 : ((f + 1 : Nat) : Int) = (f : Int) + 1 := by omega
    rw [root_at' (k := f + 1) (by omega) (fun _ => by rw [e1]; exact h) (by rw [e2]; omega), e2]
  · rename_i h
    refine (root_at' (by omega) (fun hf1 => ?_) (by omega)).symm
    have := sq_lt (a := (f : Int) - 1) (b := f) (by omega) (by omega)
    omega
theorem flr_bd {n : Int} (h0 : 0 ≤ n) (h1 : n ≤ 200000000000000) : 0 ≤ flr n ∧ flr n ≤ 16777215 ∧ 0 ≤ flr n * flr n ∧ flr n * flr n ≤ n := by
  obtain ⟨f, e, hf, hf', hlt⟩ := flr_spec h0 h1
  rw [e]
  have := sq_mono (a := 0) (b := (f : Int)) (by omega) (by omega)
  omega
theorem bits8 (f : Nat → Bool) : ∀ k, k < 8 → (bif decide (k = 7) then f 7 else bif decide (k = 6) then f 6 else bif decide (k = 5) then f 5 else bif decide (k = 4) then f 4 else bif decide (k = 3) then f 3 else bif decide (k = 2) then f 2 else bif decide (k = 1) then f 1 else bif decide (k = 0) then f 0 else false) = f k
  | 0, _ | 1, _ | 2, _ | 3, _ | 4, _ | 5, _ | 6, _ | 7, _ => rfl
theorem sumB_succ (f : Nat → Bool) (n : Nat) : sumB f (n + 1) = sumB f n + bitV (f n) (2 ^ n) := rfl
theorem min_max_quo (m d r : Int) : (if d ≤ r then m * d / r else m * r / d) = m * min d r / max d r := by
  split
  · rw [Int.min_eq_left (by omega), Int.max_eq_right (by omega)]
  · rw [Int.min_eq_right (by omega), Int.max_eq_left (by omega)]
theorem two_cond0 (k : Nat) (u v : Int) (h : k = 0) : (bif decide (k = 1) then u else v) = v := by subst h; rfl
theorem two_cond1 (k : Nat) (u v : Int) (h : k = 1) : (bif decide (k = 1) then u else v) = u := by subst h; rfl
theorem Bl.D_0 (g : Bl) (k : Nat) (h : k = 0) : g.D k = g.D0 := by
  rw [Bl.D]
  exact two_cond0 _ _ _ h
theorem Bl.D_1 (g : Bl) (k : Nat) (h : k = 1) : g.D k = g.D1 := by
  rw [Bl.D]
  exact two_cond1 _ _ _ h
theorem Bl.s_eq (g : Bl) (k : Nat) (d : Int) (h : g.D k = d) : g.sLo k = g.m0 * min d g.r / max d g.r ∧ g.sHi k = -(-(g.m1 * min d g.r) / max d g.r) := by
  rw [Bl.sLo, Bl.sHi, h]; exact ⟨rfl, rfl⟩
theorem Bl.S0_eq (g : Bl) : g.S0 = min (g.m0 * min g.D0 g.r / max g.D0 g.r) (g.m0 * min g.D1 g.r / max g.D1 g.r) := by
  rw [Bl.S0, (Bl.s_eq g 0 _ (Bl.D_0 g 0 rfl)).1, (Bl.s_eq g 1 _ (Bl.D_1 g 1 rfl)).1]
theorem Bl.S1_eq (g : Bl) : g.S1 = if g.D0 ≤ g.r ∧ g.r ≤ g.D1 then g.m1 else max (-(-(g.m1 * min g.D0 g.r) / max g.D0 g.r)) (-(-(g.m1 * min g.D1 g.r) / max g.D1 g.r)) := by
  rw [Bl.S1, (Bl.s_eq g 0 _ (Bl.D_0 g 0 rfl)).2, (Bl.s_eq g 1 _ (Bl.D_1 g 1 rfl)).2]
theorem Bl.D0_eq (g : Bl) : g.D0 = flr (near g.X0 g.X1 * near g.X0 g.X1 + near g.Y0 g.Y1 * near g.Y0 g.Y1) := by
  unfold Bl.D0 flr; rfl
theorem Bl.D1_eq (g : Bl) : g.D1 = root (far g.X0 g.X1 * far g.X0 g.X1 + far g.Y0 g.Y1 * far g.Y0 g.Y1) := by
  unfold Bl.D1; rfl
end Go.Proofs.Ytkklmkogdogbkaa.M
/-
  Contracts of the reference's places, fetches and setups of the stage 'surge'. No condition. (This text proves no statement by itself.)
-/
namespace Go.Proofs.Ytkklmkogdogbkaa.Sep
open Go
set_option linter.unusedVariables false
set_option linter.unusedSimpArgs false
def lp70 (w h s : Int) (n : Nat) (x y : Nat → Int) : LoopS where
  ι := Nat
  β := Unit
  pre k := (k ≤ n ∧ R64 n) ∧ ∀ j, j < k → M.okS x y j = true
  μ k := n - k
  next k _ _ _ := k + 1
  out _ := ()
  early _ := !M.allB (M.okS x y) n
  SA k := [(1, .ptr 0 0), (3, SI k)]
  SH _ := [(0, .cells [SI w, SI h, SI s, .sl 2 n (fun k => [SI (x k), SI (y k)])])]
  n0 := 1
  NA _ := []
  NH _ := []
  n1 := 0
  RA _ := [(2, SI 3)]
  RH _ := []
def Rq70 (w h s : Int) (n : Nat) (x y : Nat → Int) (k : Nat) : Prop := (decide ((↑k : Int) < (↑n : Int)) = true → (0 : Int) ≤ (↑k : Int) ∧ (↑k : Int) < (↑n : Int) ∧ Int.toNat (↑k : Int) < n ∧ ((!decide (y (Int.toNat (↑k : Int)) < x (Int.toNat (↑k : Int)))) = true → (!decide (y (Int.toNat (↑k : Int)) < x (Int.toNat (↑k : Int)))) = true) ∧ ((!decide (y (Int.toNat (↑k : Int)) < x (Int.toNat (↑k : Int)))) = true → (!decide (y (Int.toNat (↑k : Int)) < x (Int.toNat (↑k : Int)))) = true) ∧ (decide (y (Int.toNat (↑k : Int)) < x (Int.toNat (↑k : Int))) = false → (!decide (y (Int.toNat (↑k : Int)) < x (Int.toNat (↑k : Int)))) = true) ∧ ((!bif decide (y (Int.toNat (↑k : Int)) < x (Int.toNat (↑k : Int))) then true else decide (x (Int.toNat (↑k : Int)) < (-1200000 : Int))) = true → (!bif decide (y (Int.toNat (↑k : Int)) < x (Int.toNat (↑k : Int))) then true else decide (x (Int.toNat (↑k : Int)) < (-1200000 : Int))) = true) ∧ ((!bif decide (y (Int.toNat (↑k : Int)) < x (Int.toNat (↑k : Int))) then true else decide (x (Int.toNat (↑k : Int)) < (-1200000 : Int))) = true → (!bif decide (y (Int.toNat (↑k : Int)) < x (Int.toNat (↑k : Int))) then true else decide (x (Int.toNat (↑k : Int)) < (-1200000 : Int))) = true) ∧ ((bif decide (y (Int.toNat (↑k : Int)) < x (Int.toNat (↑k : Int))) then true else decide (x (Int.toNat (↑k : Int)) < (-1200000 : Int))) = false → (!bif decide (y (Int.toNat (↑k : Int)) < x (Int.toNat (↑k : Int))) then true else decide (x (Int.toNat (↑k : Int)) < (-1200000 : Int))) = true) ∧ ((bif bif decide (y (Int.toNat (↑k : Int)) < x (Int.toNat (↑k : Int))) then true else decide (x (Int.toNat (↑k : Int)) < (-1200000 : Int)) then true else decide ((1200000 : Int) < y (Int.toNat (↑k : Int)))) = true → (!M.allB (M.okS x y) n) = true ∧ (3 : Int) = (3 : Int) ∧ True) ∧ ((bif bif decide (y (Int.toNat (↑k : Int)) < x (Int.toNat (↑k : Int))) then true else decide (x (Int.toNat (↑k : Int)) < (-1200000 : Int)) then true else decide ((1200000 : Int) < y (Int.toNat (↑k : Int)))) = false → R64 ((↑k : Int) + (1 : Int)) ∧ ((k + (1 : Nat) ≤ n ∧ R64 (↑n : Int)) ∧ ∀ (j : Nat), j < k + (1 : Nat) → M.okS x y j = true) ∧ n - (k + (1 : Nat)) < n - k ∧ () = () ∧ (↑k : Int) + (1 : Int) = (↑(k + (1 : Nat)) : Int) ∧ w = w ∧ h = h ∧ s = s ∧ (n = n ∧ ∀ (k : Nat), k < n → x k = x k ∧ y k = y k) ∧ True)) ∧ (decide ((↑k : Int) < (↑n : Int)) = false → (!M.allB (M.okS x y) n) = false ∧ True)
theorem q70 (w h s : Int) (n : Nat) (x y : Nat → Int) (k : Nat) : VL true [] [] YS.none Try.f70 0 [0,1,2,3,4,20,29,34,56] [] 0 (lp70 w h s n x y) (k) = Rq70 w h s n x y k := by kernel_rfl
theorem peq70 (w h s : Int) (n : Nat) (x y : Nat → Int) (k : Nat) : (lp70 w h s n x y).pre (k) = ((k ≤ n ∧ R64 (↑n : Int)) ∧ ∀ (j : Nat), j < k → M.okS x y j = true) := by kernel_rfl
theorem bq70 (w h s : Int) (n : Nat) (x y : Nat → Int) (k : Nat) (hp : (k ≤ n ∧ R64 (↑n : Int)) ∧ ∀ (j : Nat), j < k → M.okS x y j = true) : Rq70 w h s n x y k := by
  unfold Rq70
  obtain ⟨⟨hk, hR⟩, ho⟩ := hp
  have e : M.okS x y k = (decide (x k ≤ y k) && decide (-1200000 ≤ x k) && decide (y k ≤ 1200000)) := rfl
  have hn := @M.scan_next (M.okS x y) k ho
  have hf := @M.scan_fail (M.okS x y) n k
  simp only [Int.toNat_natCast]
  unfold R64 at *
  by_cases hlt : k < n
  · have hf := hf hlt
    generalize M.okS x y k = b at *
    by_cases c1 : y k < x k <;> by_cases c2 : x k < -1200000 <;> by_cases c3 : 1200000 < y k <;> cases b <;> simp at hn hf <;> simp [c1, c2, c3, hf, hlt] <;> (try simp [show x k ≤ y k by omega, show -1200000 ≤ x k by omega, show y k ≤ 1200000 by omega] at e) <;> (try (simp at e; omega)) <;> (repeat' apply And.intro) <;> first | omega | exact hn | (intro j hj; exact hn j hj)
  · have e' : k = n := by omega
    subst e'
    simp [M.scan_all ho]
theorem t70 (w h s : Int) (n : Nat) (x y : Nat → Int) {F : Fence} (hF : FOK F) (Y : YEnv PP YS.none) : ∀ Q A H nx, loopT false Try.f70.ntmps 0 (lp70 w h s n x y) (fun _ _ _ => (0 : Nat)) Q A H nx → WPS Y F Try.f70.ntmps 0 (.block 0 (blkAt 0 Try.f70)) Q A H nx :=
  loopW (E := []) (.nil) (O := []) (.nil) (ck := true) (L := [0,1,2,3,4,20,29,34,56]) (f := Try.f70) (m := 0) (id := 0) (l := (lp70 w h s n x y)) (LI := fun i => []) Y hF (by kernel_rfl) (fun _ => .nil) (by
    rintro k hp
    exact Hold.of (q70 w h s n x y k) (bq70 w h s n x y k ((peq70 w h s n x y k).mp hp)))
def e70 : List SV → Option (List Prop × SV)
  | [.agg [.int .i64 w, .int .i64 h, .int .i64 s, .sl 2 n g_1]] => some ([Row 2 n g_1, R64 n], SI (M.gridE w h s n (cI g_1 0) (cI g_1 1)))
  | _ => none
def Rr70 (w h s : Int) (n : Nat) (x y : Nat → Int) : Prop := ((!!(decide ((1 : Int) ≤ w) && decide (w ≤ (24 : Int)))) = true → (!!(decide ((1 : Int) ≤ w) && decide (w ≤ (24 : Int)))) = true) ∧ ((!!(decide ((1 : Int) ≤ w) && decide (w ≤ (24 : Int)))) = true → (!!(decide ((1 : Int) ≤ w) && decide (w ≤ (24 : Int)))) = true) ∧ ((!!(decide ((1 : Int) ≤ w) && decide (w ≤ (24 : Int)))) = true → (!!(decide ((1 : Int) ≤ w) && decide (w ≤ (24 : Int)))) = true) ∧ ((!(decide ((1 : Int) ≤ w) && decide (w ≤ (24 : Int)))) = false → (!!(decide ((1 : Int) ≤ w) && decide (w ≤ (24 : Int)))) = true) ∧ ((!bif !(decide ((1 : Int) ≤ w) && decide (w ≤ (24 : Int))) then true else !(decide ((1 : Int) ≤ h) && decide (h ≤ (24 : Int)))) = true → (!bif !(decide ((1 : Int) ≤ w) && decide (w ≤ (24 : Int))) then true else !(decide ((1 : Int) ≤ h) && decide (h ≤ (24 : Int)))) = true) ∧ ((!bif !(decide ((1 : Int) ≤ w) && decide (w ≤ (24 : Int))) then true else !(decide ((1 : Int) ≤ h) && decide (h ≤ (24 : Int)))) = true → (!bif !(decide ((1 : Int) ≤ w) && decide (w ≤ (24 : Int))) then true else !(decide ((1 : Int) ≤ h) && decide (h ≤ (24 : Int)))) = true) ∧ ((!bif !(decide ((1 : Int) ≤ w) && decide (w ≤ (24 : Int))) then true else !(decide ((1 : Int) ≤ h) && decide (h ≤ (24 : Int)))) = true → (!bif !(decide ((1 : Int) ≤ w) && decide (w ≤ (24 : Int))) then true else !(decide ((1 : Int) ≤ h) && decide (h ≤ (24 : Int)))) = true) ∧ ((bif !(decide ((1 : Int) ≤ w) && decide (w ≤ (24 : Int))) then true else !(decide ((1 : Int) ≤ h) && decide (h ≤ (24 : Int)))) = false → (!bif !(decide ((1 : Int) ≤ w) && decide (w ≤ (24 : Int))) then true else !(decide ((1 : Int) ≤ h) && decide (h ≤ (24 : Int)))) = true) ∧ ((bif bif !(decide ((1 : Int) ≤ w) && decide (w ≤ (24 : Int))) then true else !(decide ((1 : Int) ≤ h) && decide (h ≤ (24 : Int))) then true else !(decide ((1 : Int) ≤ s) && decide (s ≤ (10000 : Int)))) = true → (3 : Int) = M.gridE w h s n x y) ∧ ((bif bif !(decide ((1 : Int) ≤ w) && decide (w ≤ (24 : Int))) then true else !(decide ((1 : Int) ≤ h) && decide (h ≤ (24 : Int))) then true else !(decide ((1 : Int) ≤ s) && decide (s ≤ (10000 : Int)))) = false → R64 (w * h) ∧ ((!decide ((↑n : Int) = w * h)) = true → (11 : Int) = M.gridE w h s n x y) ∧ ((!decide ((↑n : Int) = w * h)) = false → (((0 : Nat) ≤ n ∧ R64 (↑n : Int)) ∧ ∀ (j : Nat), j < (0 : Nat) → M.okS x y j = true) ∧ ((0 : Int) = (↑(0 : Nat) : Int) ∧ w = w ∧ h = h ∧ s = s ∧ (n = n ∧ ∀ (k : Nat), k < n → x k = x k ∧ y k = y k) ∧ True) ∧ ((!M.allB (M.okS x y) n) = false → (0 : Int) = M.gridE w h s n x y) ∧ ((!M.allB (M.okS x y) n) = true → (3 : Int) = M.gridE w h s n x y)))
theorem r70 (w h s : Int) (n : Nat) (x y : Nat → Int) : V true [] [(101, pureE e101)] Try.f70 [0,1,2,3,4,20,29,34,56] [(0, loopT false Try.f70.ntmps 0 (lp70 w h s n x y) (fun _ _ _ => (0 : Nat)))] [.agg [SI w, SI h, SI s, .sl 2 n (fun k => [SI (x k), SI (y k)])]] (SI (M.gridE w h s n x y)) = Rr70 w h s n x y := by kernel_rfl
theorem br70 (w h s : Int) (n : Nat) (x y : Nat → Int) (hp : (R64 n) ∧ AllP []) : Rr70 w h s n x y := by
  unfold Rr70
  have hn := hp.1
  have hm : (decide (1 ≤ w) && decide (w ≤ 24)) = true → (decide (1 ≤ h) && decide (h ≤ 24)) = true → R64 (w * h) := fun h1 h2 => by
    simp only [Bool.and_eq_true, decide_eq_true_eq] at h1 h2
    have := M.area h1.1 h1.2 h2.1 h2.2
    unfold R64; omega
  unfold M.gridE
  generalize M.allB (M.okS x y) n = q
  generalize (decide (1 ≤ w) && decide (w ≤ 24)) = a at *
  generalize (decide (1 ≤ h) && decide (h ≤ 24)) = b at *
  generalize (decide (1 ≤ s) && decide (s ≤ 10000)) = e
  cases a <;> cases b <;> cases e <;> simp [hn] <;> (try simp at hm) <;> simp [hm]
  cases q <;> simp
theorem s70 : PureOK PP 70 e70 := by
  intro xs ps res h hp
  unfold e70 at h
  split at h
  · rename_i w h s n g_1
    simp only [Option.some.injEq, Prod.mk.injEq] at h
    obtain ⟨rfl, rfl⟩ := h
    simp only [AllP.cons] at hp
    obtain ⟨Hg_1, hp⟩ := hp
    refine Spec.args (ys := [.agg [SI w, SI h, SI s, .sl 2 n (fun k => [SI ((cI g_1 0) k), SI ((cI g_1 1) k)])]]) ?_ (.cons (.agg (.cons (.refl _) (.cons (.refl _) (.cons (.refl _) (.cons (.row Hg_1 fun _ => rfl) .nil))))) .nil)
    refine enter (L := [0,1,2,3,4,20,29,34,56]) (LO := [(0, loopT false Try.f70.ntmps 0 (lp70 w h s n (cI g_1 0) (cI g_1 1)) (fun _ _ _ => (0 : Nat)))]) (E := []) (O := [(101, pureE e101)]) (ck := true) (.nil) (.cons (pureE_ok s101) (.nil)) (k := 70) (f := Try.f70) (xs := [.agg [SI w, SI h, SI s, .sl 2 n (fun k => [SI ((cI g_1 0) k), SI ((cI g_1 1) k)])]]) (r := (SI (M.gridE w h s n (cI g_1 0) (cI g_1 1)))) (by kernel_rfl) (by kernel_rfl) (fun Y => .cons (by kernel_rfl) (t70 w h s n (cI g_1 0) (cI g_1 1) FOK.wide Y) (.nil)) ?_
    exact Hold.of (r70 w h s n (cI g_1 0) (cI g_1 1)) (br70 w h s n (cI g_1 0) (cI g_1 1) hp)
  · cases h
def e73 : List SV → Option (List Prop × SV)
  | [.agg [.int .i64 w, .int .i64 h, .int .i64 s, .sl 2 n g_1], .int .i64 c] => some ([Row 2 n g_1, R64 (w * h), R64 (w * h - 1)], .bool (decide (0 ≤ c) && decide (c < w * h)))
  | _ => none
def Rr73 (w h s : Int) (n : Nat) (x y : Nat → Int) (c : Int) : Prop := R64 (w * h) ∧ R64 (w * h - (1 : Int)) ∧ (decide ((0 : Int) ≤ c) && decide (c ≤ w * h - (1 : Int))) = (decide ((0 : Int) ≤ c) && decide (c < w * h))
theorem r73 (w h s : Int) (n : Nat) (x y : Nat → Int) (c : Int) : V true [] [(72, pureE e72)] Try.f73 [0,1,2,4] [] [.agg [SI w, SI h, SI s, .sl 2 n (fun k => [SI (x k), SI (y k)])], SI c] (.bool (decide (0 ≤ c) && decide (c < w * h))) = Rr73 w h s n x y c := by kernel_rfl
theorem br73 (w h s : Int) (n : Nat) (x y : Nat → Int) (c : Int) (hp : (R64 (w * h)) ∧ (R64 (w * h - 1)) ∧ AllP []) : Rr73 w h s n x y c := by
  unfold Rr73
  obtain ⟨h1, h2, -⟩ := hp
  refine ⟨h1, h2, ?_⟩
  congr 1
  rw [decide_eq_decide]; omega
theorem s73 : PureOK PP 73 e73 := by
  intro xs ps res h hp
  unfold e73 at h
  split at h
  · rename_i w h s n g_1 c
    simp only [Option.some.injEq, Prod.mk.injEq] at h
    obtain ⟨rfl, rfl⟩ := h
    simp only [AllP.cons] at hp
    obtain ⟨Hg_1, hp⟩ := hp
    refine Spec.args (ys := [.agg [SI w, SI h, SI s, .sl 2 n (fun k => [SI ((cI g_1 0) k), SI ((cI g_1 1) k)])], SI c]) ?_ (.cons (.agg (.cons (.refl _) (.cons (.refl _) (.cons (.refl _) (.cons (.row Hg_1 fun _ => rfl) .nil))))) (.cons (.refl _) .nil))
    refine enter (L := [0,1,2,4]) (LO := []) (E := []) (O := [(72, pureE e72)]) (ck := true) (.nil) (.cons (pureE_ok s72) (.nil)) (k := 73) (f := Try.f73) (xs := [.agg [SI w, SI h, SI s, .sl 2 n (fun k => [SI ((cI g_1 0) k), SI ((cI g_1 1) k)])], SI c]) (r := (.bool (decide (0 ≤ c) && decide (c < w * h)))) (by kernel_rfl) (by kernel_rfl) (fun _ => .nil) ?_
    exact Hold.of (r73 w h s n (cI g_1 0) (cI g_1 1) c) (br73 w h s n (cI g_1 0) (cI g_1 1) c hp)
  · cases h
def e90 : List SV → Option (List Prop × SV)
  | [.agg [.int .i64 w, .int .i64 h, .int .i64 s, .sl 2 n g_1], .agg [.int .i64 lo, .int .i64 hi]] => some ([Row 2 n g_1, R64 n], SI (M.W.chk (M.W.mk w h s n (cI g_1 0) (cI g_1 1) lo hi)))
  | _ => none
def Rr90 (w h s : Int) (n : Nat) (x y : Nat → Int) (lo hi : Int) : Prop := (∀ (k : Nat), k < n → x k = x k ∧ y k = y k) ∧ R64 (↑n : Int) ∧ (decide (M.gridE w h s n x y = (0 : Int)) = true → decide (M.gridE w h s n x y = (0 : Int)) = true) ∧ (decide (M.gridE w h s n x y = (0 : Int)) = true → decide (M.gridE w h s n x y = (0 : Int)) = true) ∧ (decide (M.gridE w h s n x y = (0 : Int)) = true → decide (M.gridE w h s n x y = (0 : Int)) = true) ∧ ((bif decide (M.gridE w h s n x y = (0 : Int)) then !M.within lo hi (-20000 : Int) (20000 : Int) else false) = true → (3 : Int) = M.W.chk (M.W.mk w h s n x y lo hi)) ∧ ((bif decide (M.gridE w h s n x y = (0 : Int)) then !M.within lo hi (-20000 : Int) (20000 : Int) else false) = false → M.gridE w h s n x y = M.W.chk (M.W.mk w h s n x y lo hi))
theorem r90 (w h s : Int) (n : Nat) (x y : Nat → Int) (lo hi : Int) : V true [] [(70, pureE e70), (71, pureE e71)] Try.f90 [0,1,2,3,4,5,14] [] [.agg [SI w, SI h, SI s, .sl 2 n (fun k => [SI (x k), SI (y k)])], .agg [SI lo, SI hi]] (SI (M.W.chk (M.W.mk w h s n x y lo hi))) = Rr90 w h s n x y lo hi := by kernel_rfl
theorem br90 (w h s : Int) (n : Nat) (x y : Nat → Int) (lo hi : Int) (hp : (R64 n) ∧ AllP []) : Rr90 w h s n x y lo hi := by
  unfold Rr90
  have hn := hp.1
  unfold M.W.chk
  simp only
  generalize M.gridE w h s n x y = e at *
  by_cases he : e = 0 <;> cases hb : M.within lo hi (-20000) 20000 <;> simp [he, hn]
theorem s90 : PureOK PP 90 e90 := by
  intro xs ps res h hp
  unfold e90 at h
  split at h
  · rename_i w h s n g_1 lo hi
    simp only [Option.some.injEq, Prod.mk.injEq] at h
    obtain ⟨rfl, rfl⟩ := h
    simp only [AllP.cons] at hp
    obtain ⟨Hg_1, hp⟩ := hp
    refine Spec.args (ys := [.agg [SI w, SI h, SI s, .sl 2 n (fun k => [SI ((cI g_1 0) k), SI ((cI g_1 1) k)])], .agg [SI lo, SI hi]]) ?_ (.cons (.agg (.cons (.refl _) (.cons (.refl _) (.cons (.refl _) (.cons (.row Hg_1 fun _ => rfl) .nil))))) (.cons (.refl _) .nil))
    refine enter (L := [0,1,2,3,4,5,14]) (LO := []) (E := []) (O := [(70, pureE e70), (71, pureE e71)]) (ck := true) (.nil) (.cons (pureE_ok s70) (.cons (pureE_ok s71) (.nil))) (k := 90) (f := Try.f90) (xs := [.agg [SI w, SI h, SI s, .sl 2 n (fun k => [SI ((cI g_1 0) k), SI ((cI g_1 1) k)])], .agg [SI lo, SI hi]]) (r := (SI (M.W.chk (M.W.mk w h s n (cI g_1 0) (cI g_1 1) lo hi)))) (by kernel_rfl) (by kernel_rfl) (fun _ => .nil) ?_
    exact Hold.of (r90 w h s n (cI g_1 0) (cI g_1 1) lo hi) (br90 w h s n (cI g_1 0) (cI g_1 1) lo hi hp)
  · cases h
def e82 : List SV → Option (List Prop × SV)
  | [.agg [.int .i64 w, .int .i64 h, .int .i64 s, .sl 2 n g_1], .agg [.int .i64 lo, .int .i64 hi], .agg [.int .i64 dl, .int .i64 dh, .int .i64 ll, .int .i64 lh], .int .i64 c] => some ([Row 2 n g_1, R64 n], SI (M.P.atE (M.P.mk (M.W.mk w h s n (cI g_1 0) (cI g_1 1) lo hi) dl dh ll lh c)))
  | _ => none
def Rr82 (w h s : Int) (n : Nat) (x y : Nat → Int) (lo hi dl dh ll lh c : Int) : Prop := (∀ (k : Nat), k < n → x k = x k ∧ y k = y k) ∧ R64 (↑n : Int) ∧ (decide (M.W.chk (M.W.mk w h s n x y lo hi) = (0 : Int)) = true → (decide ((if (M.within dl dh (1 : Int) (10000 : Int) && M.within ll lh (1 : Int) (1024 : Int)) = true then (0 : Int) else (3 : Int)) = (0 : Int)) = true → decide ((if (M.within dl dh (1 : Int) (10000 : Int) && M.within ll lh (1 : Int) (1024 : Int)) = true then (0 : Int) else (3 : Int)) = (0 : Int)) = true) ∧ (decide ((if (M.within dl dh (1 : Int) (10000 : Int) && M.within ll lh (1 : Int) (1024 : Int)) = true then (0 : Int) else (3 : Int)) = (0 : Int)) = true → decide ((if (M.within dl dh (1 : Int) (10000 : Int) && M.within ll lh (1 : Int) (1024 : Int)) = true then (0 : Int) else (3 : Int)) = (0 : Int)) = true) ∧ (decide ((if (M.within dl dh (1 : Int) (10000 : Int) && M.within ll lh (1 : Int) (1024 : Int)) = true then (0 : Int) else (3 : Int)) = (0 : Int)) = true → ∀ (k : Nat), k < n → x k = x k ∧ y k = y k) ∧ (decide ((if (M.within dl dh (1 : Int) (10000 : Int) && M.within ll lh (1 : Int) (1024 : Int)) = true then (0 : Int) else (3 : Int)) = (0 : Int)) = true → R64 (w * h)) ∧ (decide ((if (M.within dl dh (1 : Int) (10000 : Int) && M.within ll lh (1 : Int) (1024 : Int)) = true then (0 : Int) else (3 : Int)) = (0 : Int)) = true → R64 (w * h - (1 : Int))) ∧ (decide ((if (M.within dl dh (1 : Int) (10000 : Int) && M.within ll lh (1 : Int) (1024 : Int)) = true then (0 : Int) else (3 : Int)) = (0 : Int)) = true → decide ((if (M.within dl dh (1 : Int) (10000 : Int) && M.within ll lh (1 : Int) (1024 : Int)) = true then (0 : Int) else (3 : Int)) = (0 : Int)) = true) ∧ (decide ((if (M.within dl dh (1 : Int) (10000 : Int) && M.within ll lh (1 : Int) (1024 : Int)) = true then (0 : Int) else (3 : Int)) = (0 : Int)) = true → decide ((if (M.within dl dh (1 : Int) (10000 : Int) && M.within ll lh (1 : Int) (1024 : Int)) = true then (0 : Int) else (3 : Int)) = (0 : Int)) = true) ∧ ((bif decide ((if (M.within dl dh (1 : Int) (10000 : Int) && M.within ll lh (1 : Int) (1024 : Int)) = true then (0 : Int) else (3 : Int)) = (0 : Int)) then !(decide ((0 : Int) ≤ c) && decide (c < w * h)) else false) = true → (4 : Int) = M.P.atE (M.P.mk (M.W.mk w h s n x y lo hi) dl dh ll lh c)) ∧ ((bif decide ((if (M.within dl dh (1 : Int) (10000 : Int) && M.within ll lh (1 : Int) (1024 : Int)) = true then (0 : Int) else (3 : Int)) = (0 : Int)) then !(decide ((0 : Int) ≤ c) && decide (c < w * h)) else false) = false → (if (M.within dl dh (1 : Int) (10000 : Int) && M.within ll lh (1 : Int) (1024 : Int)) = true then (0 : Int) else (3 : Int)) = M.P.atE (M.P.mk (M.W.mk w h s n x y lo hi) dl dh ll lh c))) ∧ (decide (M.W.chk (M.W.mk w h s n x y lo hi) = (0 : Int)) = false → (decide (M.W.chk (M.W.mk w h s n x y lo hi) = (0 : Int)) = true → decide (M.W.chk (M.W.mk w h s n x y lo hi) = (0 : Int)) = true) ∧ (decide (M.W.chk (M.W.mk w h s n x y lo hi) = (0 : Int)) = true → decide (M.W.chk (M.W.mk w h s n x y lo hi) = (0 : Int)) = true) ∧ (decide (M.W.chk (M.W.mk w h s n x y lo hi) = (0 : Int)) = true → ∀ (k : Nat), k < n → x k = x k ∧ y k = y k) ∧ (decide (M.W.chk (M.W.mk w h s n x y lo hi) = (0 : Int)) = true → R64 (w * h)) ∧ (decide (M.W.chk (M.W.mk w h s n x y lo hi) = (0 : Int)) = true → R64 (w * h - (1 : Int))) ∧ (decide (M.W.chk (M.W.mk w h s n x y lo hi) = (0 : Int)) = true → decide (M.W.chk (M.W.mk w h s n x y lo hi) = (0 : Int)) = true) ∧ (decide (M.W.chk (M.W.mk w h s n x y lo hi) = (0 : Int)) = true → decide (M.W.chk (M.W.mk w h s n x y lo hi) = (0 : Int)) = true) ∧ ((bif decide (M.W.chk (M.W.mk w h s n x y lo hi) = (0 : Int)) then !(decide ((0 : Int) ≤ c) && decide (c < w * h)) else false) = true → (4 : Int) = M.P.atE (M.P.mk (M.W.mk w h s n x y lo hi) dl dh ll lh c)) ∧ ((bif decide (M.W.chk (M.W.mk w h s n x y lo hi) = (0 : Int)) then !(decide ((0 : Int) ≤ c) && decide (c < w * h)) else false) = false → M.W.chk (M.W.mk w h s n x y lo hi) = M.P.atE (M.P.mk (M.W.mk w h s n x y lo hi) dl dh ll lh c)))
theorem r82 (w h s : Int) (n : Nat) (x y : Nat → Int) (lo hi dl dh ll lh c : Int) : V true [] [(90, pureE e90), (45, pureE e45), (73, pureE e73)] Try.f82 [0,1,2,3,4,5,6,8,9,14,24] [] [.agg [SI w, SI h, SI s, .sl 2 n (fun k => [SI (x k), SI (y k)])], .agg [SI lo, SI hi], .agg [SI dl, SI dh, SI ll, SI lh], SI c] (SI (M.P.atE (M.P.mk (M.W.mk w h s n x y lo hi) dl dh ll lh c))) = Rr82 w h s n x y lo hi dl dh ll lh c := by kernel_rfl
theorem br82 (w h s : Int) (n : Nat) (x y : Nat → Int) (lo hi dl dh ll lh c : Int) (hp : (R64 n) ∧ AllP []) : Rr82 w h s n x y lo hi dl dh ll lh c := by
  unfold Rr82
  have h0 := @M.W.chk_iff (M.W.mk w h s n x y lo hi)
  have hn := hp.1
  have ha : M.W.chk (M.W.mk w h s n x y lo hi) = 0 → R64 (w * h) ∧ R64 (w * h - 1) := fun e => by
    have := h0.1 e
    have h1 := M.area this.w1 this.w2 this.h1 this.h2
    simp only at h1
    unfold R64; omega
  have hh : M.W.hasE (M.W.mk w h s n x y lo hi) c = if decide (c < 0) || decide (w * h ≤ c) then 4 else 0 := rfl
  unfold M.P.atE M.modelE
  simp only
  rw [hh]
  clear h0 hh
  generalize M.W.chk (M.W.mk w h s n x y lo hi) = e at *
  have c1 : decide (c < 0) = !decide (0 ≤ c) := by rw [Bool.eq_iff_iff]; simp
  have c2 : decide (w * h ≤ c) = !decide (c < w * h) := by rw [Bool.eq_iff_iff]; simp
  rw [c1, c2]
  generalize decide (0 ≤ c) = b1
  generalize decide (c < w * h) = b2
  generalize M.within dl dh 1 10000 = b3
  generalize M.within ll lh 1 1024 = b4
  by_cases he : e = 0
  · have := ha he
    cases b1 <;> cases b2 <;> cases b3 <;> cases b4 <;> simp [he, hn, this]
  · cases b1 <;> cases b2 <;> cases b3 <;> cases b4 <;> simp [he, hn]
theorem s82 : PureOK PP 82 e82 := by
  intro xs ps res h hp
  unfold e82 at h
  split at h
  · rename_i w h s n g_1 lo hi dl dh ll lh c
    simp only [Option.some.injEq, Prod.mk.injEq] at h
    obtain ⟨rfl, rfl⟩ := h
    simp only [AllP.cons] at hp
    obtain ⟨Hg_1, hp⟩ := hp
    refine Spec.args (ys := [.agg [SI w, SI h, SI s, .sl 2 n (fun k => [SI ((cI g_1 0) k), SI ((cI g_1 1) k)])], .agg [SI lo, SI hi], .agg [SI dl, SI dh, SI ll, SI lh], SI c]) ?_ (.cons (.agg (.cons (.refl _) (.cons (.refl _) (.cons (.refl _) (.cons (.row Hg_1 fun _ => rfl) .nil))))) (.cons (.refl _) (.cons (.refl _) (.cons (.refl _) .nil))))
    refine enter (L := [0,1,2,3,4,5,6,8,9,14,24]) (LO := []) (E := []) (O := [(90, pureE e90), (45, pureE e45), (73, pureE e73)]) (ck := true) (.nil) (.cons (pureE_ok s90) (.cons (pureE_ok s45) (.cons (pureE_ok s73) (.nil)))) (k := 82) (f := Try.f82) (xs := [.agg [SI w, SI h, SI s, .sl 2 n (fun k => [SI ((cI g_1 0) k), SI ((cI g_1 1) k)])], .agg [SI lo, SI hi], .agg [SI dl, SI dh, SI ll, SI lh], SI c]) (r := (SI (M.P.atE (M.P.mk (M.W.mk w h s n (cI g_1 0) (cI g_1 1) lo hi) dl dh ll lh c)))) (by kernel_rfl) (by kernel_rfl) (fun _ => .nil) ?_
    exact Hold.of (r82 w h s n (cI g_1 0) (cI g_1 1) lo hi dl dh ll lh c) (br82 w h s n (cI g_1 0) (cI g_1 1) lo hi dl dh ll lh c hp)
  · cases h
def e112 : List SV → Option (List Prop × SV)
  | [.agg [.int .i64 w, .int .i64 h, .int .i64 s, .sl 2 n g_1], .agg [.int .i64 lo, .int .i64 hi], .int .i64 c] => some ([Row 2 n g_1, R64 (lo - (cI g_1 1) c.toNat), R64 (hi - (cI g_1 0) c.toNat), 0 ≤ c, c < n], .agg [SI (lo - (cI g_1 1) c.toNat), SI (hi - (cI g_1 0) c.toNat)])
  | _ => none
def Rr112 (w h s : Int) (n : Nat) (x y : Nat → Int) (lo hi : Int) (c : Int) : Prop := (0 : Int) ≤ c ∧ c < (↑n : Int) ∧ Int.toNat c < n ∧ R64 (lo - y (Int.toNat c)) ∧ (0 : Int) ≤ c ∧ c < (↑n : Int) ∧ Int.toNat c < n ∧ R64 (hi - x (Int.toNat c)) ∧ lo - y (Int.toNat c) = lo - y (Int.toNat c) ∧ hi - x (Int.toNat c) = hi - x (Int.toNat c)
theorem r112 (w h s : Int) (n : Nat) (x y : Nat → Int) (lo hi : Int) (c : Int) : V true [] [] Try.f112 [0,1,2,3,4,6] [] [.agg [SI w, SI h, SI s, .sl 2 n (fun k => [SI (x k), SI (y k)])], .agg [SI lo, SI hi], SI c] (.agg [SI (lo - y c.toNat), SI (hi - x c.toNat)]) = Rr112 w h s n x y lo hi c := by kernel_rfl
theorem br112 (w h s : Int) (n : Nat) (x y : Nat → Int) (lo hi : Int) (c : Int) (hp : (R64 (lo - y c.toNat)) ∧ (R64 (hi - x c.toNat)) ∧ (0 ≤ c) ∧ (c < n) ∧ AllP []) : Rr112 w h s n x y lo hi c := by
  unfold Rr112
  simp [hp]
theorem s112 : PureOK PP 112 e112 := by
  intro xs ps res h hp
  unfold e112 at h
  split at h
  · rename_i w h s n g_1 lo hi c
    simp only [Option.some.injEq, Prod.mk.injEq] at h
    obtain ⟨rfl, rfl⟩ := h
    simp only [AllP.cons] at hp
    obtain ⟨Hg_1, hp⟩ := hp
    refine Spec.args (ys := [.agg [SI w, SI h, SI s, .sl 2 n (fun k => [SI ((cI g_1 0) k), SI ((cI g_1 1) k)])], .agg [SI lo, SI hi], SI c]) ?_ (.cons (.agg (.cons (.refl _) (.cons (.refl _) (.cons (.refl _) (.cons (.row Hg_1 fun _ => rfl) .nil))))) (.cons (.refl _) (.cons (.refl _) .nil)))
    refine enter (L := [0,1,2,3,4,6]) (LO := []) (E := []) (O := []) (ck := true) (.nil) (.nil) (k := 112) (f := Try.f112) (xs := [.agg [SI w, SI h, SI s, .sl 2 n (fun k => [SI ((cI g_1 0) k), SI ((cI g_1 1) k)])], .agg [SI lo, SI hi], SI c]) (r := (.agg [SI (lo - (cI g_1 1) c.toNat), SI (hi - (cI g_1 0) c.toNat)])) (by kernel_rfl) (by kernel_rfl) (fun _ => .nil) ?_
    exact Hold.of (r112 w h s n (cI g_1 0) (cI g_1 1) lo hi c) (br112 w h s n (cI g_1 0) (cI g_1 1) lo hi c hp)
  · cases h


def lp111 (w h s : Int) (n : Nat) (x y : Nat → Int) (c d : Int) : LoopS where
  ι := Nat
  β := Unit
  pre k := (k ≤ M.rayN w h c d ∧ ∀ j, j < k → M.inn w h c d j = true) ∧ (0 ≤ d ∧ d ≤ 7 ∧ 1 ≤ w ∧ w ≤ 24 ∧ 1 ≤ h ∧ h ≤ 24 ∧ 0 ≤ c ∧ c < w * h)
  μ k := 24 - k
  next k _ _ _ := k + 1
  out _ := ()
  early _ := false
  SA k := [(2, SI d), (3, .ptr 0 0), (7, .vec 1 1 0 8), (8, .vec 2 1 0 8), (9, .vec 3 1 0 k), (10, SI (M.rx w c d k)), (11, SI (M.ry w c d k))]
  SH k := [(0, .cells [SI w, SI h, SI s, .sl 2 n (fun k => [SI (x k), SI (y k)])]), (1, .row 1 8 (fun k => [SI (M.dxs k)])), (2, .row 1 8 (fun k => [SI (M.dys k)])), (3, .row 1 k (fun k => [SI (M.rayC w c d k)]))]
  n0 := 4
  NA _ := [(9, .vec 0 1 0 (M.rayN w h c d))]
  NH _ := [(0, .row 1 (M.rayN w h c d) (fun k => [SI (M.rayC w c d k)]))]
  n1 := 1
  RA _ := []
  RH _ := []
def Rq111 (w h s : Int) (n : Nat) (x y : Nat → Int) (c d : Int) (k : Nat) : Prop := R64 (w - (1 : Int)) ∧ ((decide ((0 : Int) ≤ M.rx w c d k) && decide (M.rx w c d k ≤ w - (1 : Int))) = true → (decide ((0 : Int) ≤ M.rx w c d k) && decide (M.rx w c d k ≤ w - (1 : Int))) = true) ∧ ((decide ((0 : Int) ≤ M.rx w c d k) && decide (M.rx w c d k ≤ w - (1 : Int))) = true → (decide ((0 : Int) ≤ M.rx w c d k) && decide (M.rx w c d k ≤ w - (1 : Int))) = true) ∧ ((decide ((0 : Int) ≤ M.rx w c d k) && decide (M.rx w c d k ≤ w - (1 : Int))) = true → R64 (h - (1 : Int))) ∧ ((decide ((0 : Int) ≤ M.rx w c d k) && decide (M.rx w c d k ≤ w - (1 : Int))) = true → (decide ((0 : Int) ≤ M.rx w c d k) && decide (M.rx w c d k ≤ w - (1 : Int))) = true) ∧ ((decide ((0 : Int) ≤ M.rx w c d k) && decide (M.rx w c d k ≤ w - (1 : Int))) = true → (decide ((0 : Int) ≤ M.rx w c d k) && decide (M.rx w c d k ≤ w - (1 : Int))) = true) ∧ ((decide ((0 : Int) ≤ M.rx w c d k) && decide (M.rx w c d k ≤ w - (1 : Int))) = true → (decide ((0 : Int) ≤ M.rx w c d k) && decide (M.rx w c d k ≤ w - (1 : Int))) = true) ∧ ((bif decide ((0 : Int) ≤ M.rx w c d k) && decide (M.rx w c d k ≤ w - (1 : Int)) then decide ((0 : Int) ≤ M.ry w c d k) && decide (M.ry w c d k ≤ h - (1 : Int)) else false) = true → R64 (M.ry w c d k * w) ∧ R64 (M.ry w c d k * w + M.rx w c d k) ∧ (0 : Nat) + (1 : Nat) ≤ (1 : Nat) ∧ (∀ (k : Nat), k < (1 : Nat) → true = true) ∧ k ≤ k ∧ (k + (1 : Nat)) * (8 : Nat) ≤ (140737488355328 : Nat) ∧ (0 : Int) ≤ d ∧ d < (↑(8 : Nat) : Int) ∧ (0 : Nat) + Int.toNat d < (8 : Nat) ∧ R64 (M.rx w c d k + M.dxs ((0 : Nat) + Int.toNat d)) ∧ (0 : Int) ≤ d ∧ d < (↑(8 : Nat) : Int) ∧ (0 : Nat) + Int.toNat d < (8 : Nat) ∧ R64 (M.ry w c d k + M.dys ((0 : Nat) + Int.toNat d)) ∧ ((k + (1 : Nat) ≤ M.rayN w h c d ∧ ∀ (j : Nat), j < k + (1 : Nat) → M.inn w h c d j = true) ∧ (0 : Int) ≤ d ∧ d ≤ (7 : Int) ∧ (1 : Int) ≤ w ∧ w ≤ (24 : Int) ∧ (1 : Int) ≤ h ∧ h ≤ (24 : Int) ∧ (0 : Int) ≤ c ∧ c < w * h) ∧ (24 : Nat) - (k + (1 : Nat)) < (24 : Nat) - k ∧ () = () ∧ d = d ∧ (0 : Nat) = (0 : Nat) ∧ (8 : Nat) = (8 : Nat) ∧ (0 : Nat) = (0 : Nat) ∧ (8 : Nat) = (8 : Nat) ∧ (0 : Nat) = (0 : Nat) ∧ k + (1 : Nat) = k + (1 : Nat) ∧ M.rx w c d k + M.dxs ((0 : Nat) + Int.toNat d) = M.rx w c d (k + (1 : Nat)) ∧ M.ry w c d k + M.dys ((0 : Nat) + Int.toNat d) = M.ry w c d (k + (1 : Nat)) ∧ w = w ∧ h = h ∧ s = s ∧ (n = n ∧ ∀ (k : Nat), k < n → x k = x k ∧ y k = y k) ∧ (8 : Nat) = (8 : Nat) ∧ (∀ (k : Nat), k < (8 : Nat) → M.dxs k = M.dxs k) ∧ (8 : Nat) = (8 : Nat) ∧ (∀ (k : Nat), k < (8 : Nat) → M.dys k = M.dys k) ∧ k + (1 : Nat) = k + (1 : Nat) ∧ (∀ (k_1 : Nat), k_1 < k + (1 : Nat) → (bif decide (k_1 < k) then M.rayC w c d k_1 else M.ry w c d k * w + M.rx w c d k) = M.rayC w c d k_1) ∧ True) ∧ ((bif decide ((0 : Int) ≤ M.rx w c d k) && decide (M.rx w c d k ≤ w - (1 : Int)) then decide ((0 : Int) ≤ M.ry w c d k) && decide (M.ry w c d k ≤ h - (1 : Int)) else false) = false → false = false ∧ (0 : Nat) = (0 : Nat) ∧ k = M.rayN w h c d ∧ k = M.rayN w h c d ∧ (∀ (k_1 : Nat), k_1 < k → M.rayC w c d k_1 = M.rayC w c d k_1) ∧ True)
theorem q111 (w h s : Int) (n : Nat) (x y : Nat → Int) (c d : Int) (k : Nat) : VL true [] [(72, pureE e72)] YS.none Try.f111 0 [0,1,2,3,6,7,8,9,10,11,43] [] 0 (lp111 w h s n x y c d) (k) = Rq111 w h s n x y c d k := by kernel_rfl
theorem peq111 (w h s : Int) (n : Nat) (x y : Nat → Int) (c d : Int) (k : Nat) : (lp111 w h s n x y c d).pre (k) = ((k ≤ M.rayN w h c d ∧ ∀ (j : Nat), j < k → M.inn w h c d j = true) ∧
  (0 : Int) ≤ d ∧ d ≤ (7 : Int) ∧ (1 : Int) ≤ w ∧ w ≤ (24 : Int) ∧ (1 : Int) ≤ h ∧ h ≤ (24 : Int) ∧ (0 : Int) ≤ c ∧ c < w * h) := by kernel_rfl
theorem bq111 (w h s : Int) (n : Nat) (x y : Nat → Int) (c d : Int) (k : Nat) (hp : (k ≤ M.rayN w h c d ∧ ∀ (j : Nat), j < k → M.inn w h c d j = true) ∧
  (0 : Int) ≤ d ∧ d ≤ (7 : Int) ∧ (1 : Int) ≤ w ∧ w ≤ (24 : Int) ∧ (1 : Int) ≤ h ∧ h ≤ (24 : Int) ∧ (0 : Int) ≤ c ∧ c < w * h) : Rq111 w h s n x y c d k := by
  unfold Rq111
  obtain ⟨⟨hk, hj⟩, hd, hd', hw, hw2, hh, hh2, hc, hc'⟩ := hp
  have h1 := M.cell_at hw hc hc'
  have h2 := M.dxy hd hd'
  have h3 := M.area hw hw2 hh hh2
  have h4 := M.rayN_lt hw hw2 hh2 hc hc' hd hd'
  have hin := @M.inn_iff w h c d k
  have hlt : M.inn w h c d k = true → k < M.rayN w h c d := fun e => by
    rcases Nat.lt_or_ge k (M.rayN w h c d) with h5 | h5
    · exact h5
    · have : k = M.rayN w h c d := by omega
      rw [this, h4.2] at e; cases e
  have hnot : M.inn w h c d k = false → M.rayN w h c d = k := fun e => M.rayN_eq (by omega) hj e
  have hcl : M.inn w h c d k = true → _ := fun e => M.rayC_in (d := d) (k := k) hw e
  have hsx := M.rx_succ w c d k
  have hsy := M.ry_succ w c d k
  have hC : M.rayC w c d k = M.ry w c d k * w + M.rx w c d k := rfl
  have hj' : M.inn w h c d k = true → ∀ j, j < k + 1 → M.inn w h c d j = true := fun e => M.scan_next hj e
  have hcat : ∀ j, j < k + 1 → (bif decide (j < k) then M.rayC w c d j else M.ry w c d k * w + M.rx w c d k) = M.rayC w c d j := fun j hj => by
    by_cases e : j < k
    · simp [e]
    · have : j = k := by omega
      subst this; simp [hC]
  simp only [Nat.zero_add, M.dxs_of, M.dys_of]
  unfold R64
  by_cases hi : M.inn w h c d k = true
  · obtain ⟨r1, r2, r3, r4⟩ := hin.1 hi
    have e1 := hcl hi
    have e2 := hlt hi
    have e3 := hj' hi
    have r2' : M.rx w c d k ≤ w - 1 := by omega
    have r4' : M.ry w c d k ≤ h - 1 := by omega
    simp [r1, r2', r3, r4', hsx, hsy, hd, hd', hw, hw2, hh, hh2, hc, hc']
    simp only [hC] at e1
    have s1 := M.rx_succ w c d k; have s2 := M.ry_succ w c d k
    repeat' apply And.intro
    all_goals first | omega | exact e3 | exact hcat
  · have hi' : M.inn w h c d k = false := by simpa using hi
    have e1 := hnot hi'
    have e2 : ¬ (0 ≤ M.rx w c d k ∧ M.rx w c d k < w ∧ 0 ≤ M.ry w c d k ∧ M.ry w c d k < h) := fun e => hi (hin.2 e)
    clear hin hcl hlt hj' hC hsx hsy h4 hcat
    by_cases c1 : 0 ≤ M.rx w c d k <;> by_cases c2 : M.rx w c d k ≤ w - 1 <;> by_cases c3 : 0 ≤ M.ry w c d k <;> by_cases c4 : M.ry w c d k ≤ h - 1 <;> simp [c1, c2, c3, c4, e1] <;> omega
theorem t111 (w h s : Int) (n : Nat) (x y : Nat → Int) (c d : Int) {F : Fence} (hF : FOK F) (Y : YEnv PP YS.none) : ∀ Q A H nx, loopT false Try.f111.ntmps 0 (lp111 w h s n x y c d) (fun _ _ _ => (0 : Nat)) Q A H nx → WPS Y F Try.f111.ntmps 0 (.block 0 (blkAt 0 Try.f111)) Q A H nx :=
  loopW (E := []) (.nil) (O := [(72, pureE e72)]) (.cons (pureE_ok s72) (.nil)) (ck := true) (L := [0,1,2,3,6,7,8,9,10,11,43]) (f := Try.f111) (m := 0) (id := 0) (l := (lp111 w h s n x y c d)) (LI := fun i => []) Y hF (by kernel_rfl) (fun _ => .nil) (by
    rintro k hp
    exact Hold.of (q111 w h s n x y c d k) (bq111 w h s n x y c d k ((peq111 w h s n x y c d k).mp hp)))
def e111 : List SV → Option (List Prop × SV)
  | [.agg [.int .i64 w, .int .i64 h, .int .i64 s, .sl 2 n g_1], .int .i64 c, .int .i64 d] => some ([Row 2 n g_1, 0 ≤ d, d ≤ 7, 1 ≤ w, w ≤ 24, 1 ≤ h, h ≤ 24, 0 ≤ c, c < w * h], .sl 1 (M.rayN w h c d) (fun k => [SI (M.rayC w c d k)]))
  | _ => none
def Rr111 (w h s : Int) (n : Nat) (x y : Nat → Int) (c d : Int) : Prop := w ≠ (0 : Int) ∧ (0 : Int) ≤ d ∧ d < (↑(8 : Nat) : Int) ∧ (0 : Nat) + Int.toNat d < (8 : Nat) ∧ R64 (Int.tmod c w + bif decide ((0 : Nat) + Int.toNat d = (7 : Nat)) then (1 : Int) else bif decide ((0 : Nat) + Int.toNat d = (6 : Nat)) then (0 : Int) else bif decide ((0 : Nat) + Int.toNat d = (5 : Nat)) then (-1 : Int) else bif decide ((0 : Nat) + Int.toNat d = (4 : Nat)) then (-1 : Int) else bif decide ((0 : Nat) + Int.toNat d = (3 : Nat)) then (-1 : Int) else bif decide ((0 : Nat) + Int.toNat d = (2 : Nat)) then (0 : Int) else bif decide ((0 : Nat) + Int.toNat d = (1 : Nat)) then (1 : Int) else bif decide ((0 : Nat) + Int.toNat d = (0 : Nat)) then (1 : Int) else (0 : Int)) ∧ w ≠ (0 : Int) ∧ R64 (Int.tdiv c w) ∧ (0 : Int) ≤ d ∧ d < (↑(8 : Nat) : Int) ∧ (0 : Nat) + Int.toNat d < (8 : Nat) ∧ R64 (Int.tdiv c w + bif decide ((0 : Nat) + Int.toNat d = (7 : Nat)) then (-1 : Int) else bif decide ((0 : Nat) + Int.toNat d = (6 : Nat)) then (-1 : Int) else bif decide ((0 : Nat) + Int.toNat d = (5 : Nat)) then (-1 : Int) else bif decide ((0 : Nat) + Int.toNat d = (4 : Nat)) then (0 : Int) else bif decide ((0 : Nat) + Int.toNat d = (3 : Nat)) then (1 : Int) else bif decide ((0 : Nat) + Int.toNat d = (2 : Nat)) then (1 : Int) else bif decide ((0 : Nat) + Int.toNat d = (1 : Nat)) then (1 : Int) else bif decide ((0 : Nat) + Int.toNat d = (0 : Nat)) then (0 : Int) else (0 : Int)) ∧ (((0 : Nat) ≤ M.rayN w h c d ∧ ∀ (j : Nat), j < (0 : Nat) → M.inn w h c d j = true) ∧ (0 : Int) ≤ d ∧ d ≤ (7 : Int) ∧ (1 : Int) ≤ w ∧ w ≤ (24 : Int) ∧ (1 : Int) ≤ h ∧ h ≤ (24 : Int) ∧ (0 : Int) ≤ c ∧ c < w * h) ∧ (d = d ∧ (0 : Nat) = (0 : Nat) ∧ (8 : Nat) = (8 : Nat) ∧ (0 : Nat) = (0 : Nat) ∧ (8 : Nat) = (8 : Nat) ∧ (0 : Nat) = (0 : Nat) ∧ (Int.tmod c w + bif decide ((0 : Nat) + Int.toNat d = (7 : Nat)) then (1 : Int) else bif decide ((0 : Nat) + Int.toNat d = (6 : Nat)) then (0 : Int) else bif decide ((0 : Nat) + Int.toNat d = (5 : Nat)) then (-1 : Int) else bif decide ((0 : Nat) + Int.toNat d = (4 : Nat)) then (-1 : Int) else bif decide ((0 : Nat) + Int.toNat d = (3 : Nat)) then (-1 : Int) else bif decide ((0 : Nat) + Int.toNat d = (2 : Nat)) then (0 : Int) else bif decide ((0 : Nat) + Int.toNat d = (1 : Nat)) then (1 : Int) else bif decide ((0 : Nat) + Int.toNat d = (0 : Nat)) then (1 : Int) else (0 : Int)) = M.rx w c d (0 : Nat) ∧ (Int.tdiv c w + bif decide ((0 : Nat) + Int.toNat d = (7 : Nat)) then (-1 : Int) else bif decide ((0 : Nat) + Int.toNat d = (6 : Nat)) then (-1 : Int) else bif decide ((0 : Nat) + Int.toNat d = (5 : Nat)) then (-1 : Int) else bif decide ((0 : Nat) + Int.toNat d = (4 : Nat)) then (0 : Int) else bif decide ((0 : Nat) + Int.toNat d = (3 : Nat)) then (1 : Int) else bif decide ((0 : Nat) + Int.toNat d = (2 : Nat)) then (1 : Int) else bif decide ((0 : Nat) + Int.toNat d = (1 : Nat)) then (1 : Int) else bif decide ((0 : Nat) + Int.toNat d = (0 : Nat)) then (0 : Int) else (0 : Int)) = M.ry w c d (0 : Nat) ∧ w = w ∧ h = h ∧ s = s ∧ (n = n ∧ ∀ (k : Nat), k < n → x k = x k ∧ y k = y k) ∧ (8 : Nat) = (8 : Nat) ∧ (∀ (k : Nat), k < (8 : Nat) → (bif decide (k = (7 : Nat)) then (1 : Int) else bif decide (k = (6 : Nat)) then (0 : Int) else bif decide (k = (5 : Nat)) then (-1 : Int) else bif decide (k = (4 : Nat)) then (-1 : Int) else bif decide (k = (3 : Nat)) then (-1 : Int) else bif decide (k = (2 : Nat)) then (0 : Int) else bif decide (k = (1 : Nat)) then (1 : Int) else bif decide (k = (0 : Nat)) then (1 : Int) else (0 : Int)) = M.dxs k) ∧ (8 : Nat) = (8 : Nat) ∧ (∀ (k : Nat), k < (8 : Nat) → (bif decide (k = (7 : Nat)) then (-1 : Int) else bif decide (k = (6 : Nat)) then (-1 : Int) else bif decide (k = (5 : Nat)) then (-1 : Int) else bif decide (k = (4 : Nat)) then (0 : Int) else bif decide (k = (3 : Nat)) then (1 : Int) else bif decide (k = (2 : Nat)) then (1 : Int) else bif decide (k = (1 : Nat)) then (1 : Int) else bif decide (k = (0 : Nat)) then (0 : Int) else (0 : Int)) = M.dys k) ∧ (0 : Nat) = (0 : Nat) ∧ True) ∧ (false = false → (0 : Nat) + M.rayN w h c d ≤ M.rayN w h c d ∧ M.rayN w h c d = M.rayN w h c d ∧ ∀ (k : Nat), k < M.rayN w h c d → M.rayC w c d ((0 : Nat) + k) = M.rayC w c d k) ∧ (false = true → False)
theorem r111 (w h s : Int) (n : Nat) (x y : Nat → Int) (c d : Int) : V true [] [] Try.f111 [0,1,2,3,6,7,8,9,10,11,43] [(0, loopT false Try.f111.ntmps 0 (lp111 w h s n x y c d) (fun _ _ _ => (0 : Nat)))] [.agg [SI w, SI h, SI s, .sl 2 n (fun k => [SI (x k), SI (y k)])], SI c, SI d] (.sl 1 (M.rayN w h c d) (fun k => [SI (M.rayC w c d k)])) = Rr111 w h s n x y c d := by kernel_rfl
theorem br111 (w h s : Int) (n : Nat) (x y : Nat → Int) (c d : Int) (hp : (0 ≤ d) ∧ (d ≤ 7) ∧ (1 ≤ w) ∧ (w ≤ 24) ∧ (1 ≤ h) ∧ (h ≤ 24) ∧ (0 ≤ c) ∧ (c < w * h) ∧ AllP []) : Rr111 w h s n x y c d := by
  unfold Rr111
  obtain ⟨hd, hd', hw, hw2, hh, hh2, hc, hc', -⟩ := hp
  have h1 := M.cell_at hw hc hc'
  have h2 := M.dxy hd hd'
  have h3 := M.area hw hw2 hh hh2
  simp only [Nat.zero_add, M.dxs_sel, M.dys_sel, M.dxs_of, M.dys_of, M.rx_0, M.ry_0]
  unfold R64
  simp [hd, hd', hw, hw2, hh, hh2, hc, hc']
  omega
theorem s111 : PureOK PP 111 e111 := by
  intro xs ps res h hp
  unfold e111 at h
  split at h
  · rename_i w h s n g_1 c d
    simp only [Option.some.injEq, Prod.mk.injEq] at h
    obtain ⟨rfl, rfl⟩ := h
    simp only [AllP.cons] at hp
    obtain ⟨Hg_1, hp⟩ := hp
    refine Spec.args (ys := [.agg [SI w, SI h, SI s, .sl 2 n (fun k => [SI ((cI g_1 0) k), SI ((cI g_1 1) k)])], SI c, SI d]) ?_ (.cons (.agg (.cons (.refl _) (.cons (.refl _) (.cons (.refl _) (.cons (.row Hg_1 fun _ => rfl) .nil))))) (.cons (.refl _) (.cons (.refl _) .nil)))
    refine enter (L := [0,1,2,3,6,7,8,9,10,11,43]) (LO := [(0, loopT false Try.f111.ntmps 0 (lp111 w h s n (cI g_1 0) (cI g_1 1) c d) (fun _ _ _ => (0 : Nat)))]) (E := []) (O := []) (ck := true) (.nil) (.nil) (k := 111) (f := Try.f111) (xs := [.agg [SI w, SI h, SI s, .sl 2 n (fun k => [SI ((cI g_1 0) k), SI ((cI g_1 1) k)])], SI c, SI d]) (r := (.sl 1 (M.rayN w h c d) (fun k => [SI (M.rayC w c d k)]))) (by kernel_rfl) (by kernel_rfl) (fun Y => .cons (by kernel_rfl) (t111 w h s n (cI g_1 0) (cI g_1 1) c d FOK.wide Y) (.nil)) ?_
    exact Hold.of (r111 w h s n (cI g_1 0) (cI g_1 1) c d) (br111 w h s n (cI g_1 0) (cI g_1 1) c d hp)
  · cases h
end Go.Proofs.Ytkklmkogdogbkaa.Sep
