/-
  Contracts of fetches of the reference of the stage 'surge'. No condition. (This text proves no statement by itself.)
-/
import Derived.Test.YtkklmkogdogbkaaKS6

namespace Go.Proofs.Ytkklmkogdogbkaa.Sep
open Go
set_option linter.unusedVariables false
set_option linter.unusedSimpArgs false
--#def FN(b) x
def lp91a (w h s : Int) (n : Nat) (x y : Nat → Int) (lo hi : Int) (c d : Int) : LoopS where
  ι := Nat
  β := Unit
  pre k := (k ≤ M.W.fetchN (M.W.mk w h s n x y lo hi) c d true ∧ ∀ j, j < k → M.W.sea (M.W.mk w h s n x y lo hi) c d true j = true) ∧ M.W.ok (M.W.mk w h s n x y lo hi) ∧ 0 ≤ d ∧ d ≤ 7 ∧ 0 ≤ c ∧ c < w * h
  μ k := M.W.fetchN (M.W.mk w h s n x y lo hi) c d true - k
  next k _ _ _ := k + 1
  out _ := ()
  early _ := false
  SA k := [(4, .ptr 0 0), (5, .ptr 1 0), (10, .sl 1 (M.rayN w h c d) (fun k => [SI (M.rayC w c d k)])), (11, SI k), (12, SI 0)]
  SH _ := [(0, .cells [SI w, SI h, SI s, .sl 2 n (fun k => [SI (x k), SI (y k)])]), (1, .cells [SI lo, SI hi])]
  n0 := 2
  NA _ := [(4, .ptr 0 0), (5, .ptr 1 0), (10, .sl 1 (M.rayN w h c d) (fun k => [SI (M.rayC w c d k)])), (11, SI (M.W.fetchN (M.W.mk w h s n x y lo hi) c d true)), (12, SI 0)]
  NH _ := [(0, .cells [SI w, SI h, SI s, .sl 2 n (fun k => [SI (x k), SI (y k)])]), (1, .cells [SI lo, SI hi])]
  n1 := 2
  RA _ := []
  RH _ := []
def Rq91a (w h s : Int) (n : Nat) (x y : Nat → Int) (lo hi : Int) (c d : Int) (k : Nat) : Prop := (decide ((↑k : Int) < (↑(M.rayN w h c d) : Int)) = true → decide ((↑k : Int) < (↑(M.rayN w h c d) : Int)) = true) ∧ (decide ((↑k : Int) < (↑(M.rayN w h c d) : Int)) = true → decide ((↑k : Int) < (↑(M.rayN w h c d) : Int)) = true) ∧ (decide ((↑k : Int) < (↑(M.rayN w h c d) : Int)) = true → (0 : Int) ≤ (↑k : Int)) ∧ (decide ((↑k : Int) < (↑(M.rayN w h c d) : Int)) = true → (↑k : Int) < (↑(M.rayN w h c d) : Int)) ∧ (decide ((↑k : Int) < (↑(M.rayN w h c d) : Int)) = true → decide ((↑k : Int) < (↑(M.rayN w h c d) : Int)) = true) ∧ (decide ((↑k : Int) < (↑(M.rayN w h c d) : Int)) = true → Int.toNat (↑k : Int) < M.rayN w h c d) ∧ (decide ((↑k : Int) < (↑(M.rayN w h c d) : Int)) = true → decide ((↑k : Int) < (↑(M.rayN w h c d) : Int)) = true) ∧ (decide ((↑k : Int) < (↑(M.rayN w h c d) : Int)) = true → decide ((↑k : Int) < (↑(M.rayN w h c d) : Int)) = true) ∧ (decide ((↑k : Int) < (↑(M.rayN w h c d) : Int)) = true → decide ((↑k : Int) < (↑(M.rayN w h c d) : Int)) = true) ∧ (decide ((↑k : Int) < (↑(M.rayN w h c d) : Int)) = true → ∀ (k : Nat), k < n → x k = x k ∧ y k = y k) ∧ (decide ((↑k : Int) < (↑(M.rayN w h c d) : Int)) = true → R64 (lo - y (Int.toNat (M.rayC w c d (Int.toNat (↑k : Int)))))) ∧ (decide ((↑k : Int) < (↑(M.rayN w h c d) : Int)) = true → R64 (hi - x (Int.toNat (M.rayC w c d (Int.toNat (↑k : Int)))))) ∧ (decide ((↑k : Int) < (↑(M.rayN w h c d) : Int)) = true → (0 : Int) ≤ M.rayC w c d (Int.toNat (↑k : Int))) ∧ (decide ((↑k : Int) < (↑(M.rayN w h c d) : Int)) = true → M.rayC w c d (Int.toNat (↑k : Int)) < (↑n : Int)) ∧ (decide ((↑k : Int) < (↑(M.rayN w h c d) : Int)) = true → decide ((↑k : Int) < (↑(M.rayN w h c d) : Int)) = true) ∧ (decide ((↑k : Int) < (↑(M.rayN w h c d) : Int)) = true → decide ((↑k : Int) < (↑(M.rayN w h c d) : Int)) = true) ∧ (decide ((↑k : Int) < (↑(M.rayN w h c d) : Int)) = true → decide ((↑k : Int) < (↑(M.rayN w h c d) : Int)) = true) ∧ ((bif decide ((↑k : Int) < (↑(M.rayN w h c d) : Int)) then decide ((1 : Int) ≤ lo - y (Int.toNat (M.rayC w c d (Int.toNat (↑k : Int))))) else false) = true → R64 ((↑k : Int) + (1 : Int)) ∧ ((k + (1 : Nat) ≤ M.W.fetchN (M.W.mk w h s n x y lo hi) c d true ∧ ∀ (j : Nat), j < k + (1 : Nat) → M.W.sea (M.W.mk w h s n x y lo hi) c d true j = true) ∧ M.W.ok (M.W.mk w h s n x y lo hi) ∧ (0 : Int) ≤ d ∧ d ≤ (7 : Int) ∧ (0 : Int) ≤ c ∧ c < w * h) ∧ M.W.fetchN (M.W.mk w h s n x y lo hi) c d true - (k + (1 : Nat)) < M.W.fetchN (M.W.mk w h s n x y lo hi) c d true - k ∧ () = () ∧ (M.rayN w h c d = M.rayN w h c d ∧ ∀ (k : Nat), k < M.rayN w h c d → M.rayC w c d k = M.rayC w c d k) ∧ (↑k : Int) + (1 : Int) = (↑(k + (1 : Nat)) : Int) ∧ (0 : Int) = (0 : Int) ∧ w = w ∧ h = h ∧ s = s ∧ (n = n ∧ ∀ (k : Nat), k < n → x k = x k ∧ y k = y k) ∧ lo = lo ∧ hi = hi ∧ True) ∧ ((bif decide ((↑k : Int) < (↑(M.rayN w h c d) : Int)) then decide ((1 : Int) ≤ lo - y (Int.toNat (M.rayC w c d (Int.toNat (↑k : Int))))) else false) = false → false = false ∧ (M.rayN w h c d = M.rayN w h c d ∧ ∀ (k : Nat), k < M.rayN w h c d → M.rayC w c d k = M.rayC w c d k) ∧ (↑k : Int) = (↑(M.W.fetchN (M.W.mk w h s n x y lo hi) c d true) : Int) ∧ (0 : Int) = (0 : Int) ∧ w = w ∧ h = h ∧ s = s ∧ (n = n ∧ ∀ (k : Nat), k < n → x k = x k ∧ y k = y k) ∧ lo = lo ∧ hi = hi ∧ True)
theorem q91a (w h s : Int) (n : Nat) (x y : Nat → Int) (lo hi : Int) (c d : Int) (k : Nat) : VL true [] [(112, pureE e112)] YS.none Try.f91 0 [0,1,2,3,4,5,8,9,10,11,12,31,48] [] 0 (lp91a w h s n x y lo hi c d) (k) = Rq91a w h s n x y lo hi c d k := by kernel_rfl
theorem peq91a (w h s : Int) (n : Nat) (x y : Nat → Int) (lo hi : Int) (c d : Int) (k : Nat) : (lp91a w h s n x y lo hi c d).pre (k) = ((k ≤ M.W.fetchN (M.W.mk w h s n x y lo hi) c d true ∧ ∀ (j : Nat), j < k → M.W.sea (M.W.mk w h s n x y lo hi) c d true j = true) ∧
  M.W.ok (M.W.mk w h s n x y lo hi) ∧ (0 : Int) ≤ d ∧ d ≤ (7 : Int) ∧ (0 : Int) ≤ c ∧ c < w * h) := by kernel_rfl
theorem bq91a (w h s : Int) (n : Nat) (x y : Nat → Int) (lo hi : Int) (c d : Int) (k : Nat) (hp : (k ≤ M.W.fetchN (M.W.mk w h s n x y lo hi) c d true ∧ ∀ (j : Nat), j < k → M.W.sea (M.W.mk w h s n x y lo hi) c d true j = true) ∧
  M.W.ok (M.W.mk w h s n x y lo hi) ∧ (0 : Int) ≤ d ∧ d ≤ (7 : Int) ∧ (0 : Int) ≤ c ∧ c < w * h) : Rq91a w h s n x y lo hi c d k := by
  unfold Rq91a
  obtain ⟨⟨hk, hs⟩, hok, hd, hd', hc, hc'⟩ := hp
  have hr := (M.W.mk w h s n x y lo hi).fetchN_le c d true
  have h23 := hok.fetch23 hd hd' hc hc' true
  have hm := @M.W.fetch_more (M.W.mk w h s n x y lo hi) c d true k hs
  have hst := @M.W.fetch_stop (M.W.mk w h s n x y lo hi) c d true k hs
  have hray := @M.W.ok.ray (M.W.mk w h s n x y lo hi) hok c d k
  have hsea := @M.W.ok.sea_sure (M.W.mk w h s n x y lo hi) hok c d k
  have hnx := @M.scan_next (M.W.sea (M.W.mk w h s n x y lo hi) c d true) k hs
  unfold M.W.dlo M.W.dhi at *
  simp only [Int.toNat_natCast] at *
  unfold R64
  by_cases hlt : k < M.rayN w h c d
  · have hray := hray hlt
    have hsea := hsea hlt
    have hm := hm hlt
    have hst := hst (by omega) 
    generalize M.W.sea (M.W.mk w h s n x y lo hi) c d true k = b at *
    clear hs hr
    cases b
    · have := hst (fun _ => rfl)
      have e2 := of_decide_eq_false hsea.symm
      simp [hlt, e2, this]
      repeat' apply And.intro
      all_goals omega
    · have := hm rfl
      have e2 := of_decide_eq_true hsea.symm
      have hnx := hnx rfl
      simp [hlt, e2, hok, hd, hd', hc, hc']
      repeat' apply And.intro
      all_goals first | omega | exact hnx | exact fun j hj => hnx j hj
  · have := hst (by omega) (fun e => absurd e hlt)
    simp [hlt, this]
theorem t91a (w h s : Int) (n : Nat) (x y : Nat → Int) (lo hi : Int) (c d : Int) {F : Fence} (hF : FOK F) (Y : YEnv PP YS.none) : ∀ Q A H nx, loopT false Try.f91.ntmps 0 (lp91a w h s n x y lo hi c d) (fun _ _ _ => (0 : Nat)) Q A H nx → WPS Y F Try.f91.ntmps 0 (.block 0 (blkAt 0 Try.f91)) Q A H nx :=
  loopW (E := []) (.nil) (O := [(112, pureE e112)]) (.cons (pureE_ok s112) (.nil)) (ck := true) (L := [0,1,2,3,4,5,8,9,10,11,12,31,48]) (f := Try.f91) (m := 0) (id := 0) (l := (lp91a w h s n x y lo hi c d)) (LI := fun i => []) Y hF (by kernel_rfl) (fun _ => .nil) (by
    rintro k hp
    exact Hold.of (q91a w h s n x y lo hi c d k) (bq91a w h s n x y lo hi c d k ((peq91a w h s n x y lo hi c d k).mp hp)))
def lp91b (w h s : Int) (n : Nat) (x y : Nat → Int) (lo hi : Int) (c d : Int) : LoopS where
  ι := Nat
  β := Unit
  pre k := (k ≤ M.W.fetchN (M.W.mk w h s n x y lo hi) c d false ∧ ∀ j, j < k → M.W.sea (M.W.mk w h s n x y lo hi) c d false j = true) ∧ M.W.ok (M.W.mk w h s n x y lo hi) ∧ 0 ≤ d ∧ d ≤ 7 ∧ 0 ≤ c ∧ c < w * h
  μ k := M.W.fetchN (M.W.mk w h s n x y lo hi) c d false - k
  next k _ _ _ := k + 1
  out _ := ()
  early _ := false
  SA k := [(4, .ptr 0 0), (5, .ptr 1 0), (10, .sl 1 (M.rayN w h c d) (fun k => [SI (M.rayC w c d k)])), (11, SI (M.W.fetchN (M.W.mk w h s n x y lo hi) c d true)), (12, SI k)]
  SH _ := [(0, .cells [SI w, SI h, SI s, .sl 2 n (fun k => [SI (x k), SI (y k)])]), (1, .cells [SI lo, SI hi])]
  n0 := 2
  NA _ := [(10, .sl 1 (M.rayN w h c d) (fun k => [SI (M.rayC w c d k)])), (11, SI (M.W.fetchN (M.W.mk w h s n x y lo hi) c d true)), (12, SI (M.W.fetchN (M.W.mk w h s n x y lo hi) c d false))]
  NH _ := []
  n1 := 0
  RA _ := []
  RH _ := []
def Rq91b (w h s : Int) (n : Nat) (x y : Nat → Int) (lo hi : Int) (c d : Int) (k : Nat) : Prop := (decide ((↑k : Int) < (↑(M.rayN w h c d) : Int)) = true → decide ((↑k : Int) < (↑(M.rayN w h c d) : Int)) = true) ∧ (decide ((↑k : Int) < (↑(M.rayN w h c d) : Int)) = true → decide ((↑k : Int) < (↑(M.rayN w h c d) : Int)) = true) ∧ (decide ((↑k : Int) < (↑(M.rayN w h c d) : Int)) = true → (0 : Int) ≤ (↑k : Int)) ∧ (decide ((↑k : Int) < (↑(M.rayN w h c d) : Int)) = true → (↑k : Int) < (↑(M.rayN w h c d) : Int)) ∧ (decide ((↑k : Int) < (↑(M.rayN w h c d) : Int)) = true → decide ((↑k : Int) < (↑(M.rayN w h c d) : Int)) = true) ∧ (decide ((↑k : Int) < (↑(M.rayN w h c d) : Int)) = true → Int.toNat (↑k : Int) < M.rayN w h c d) ∧ (decide ((↑k : Int) < (↑(M.rayN w h c d) : Int)) = true → decide ((↑k : Int) < (↑(M.rayN w h c d) : Int)) = true) ∧ (decide ((↑k : Int) < (↑(M.rayN w h c d) : Int)) = true → decide ((↑k : Int) < (↑(M.rayN w h c d) : Int)) = true) ∧ (decide ((↑k : Int) < (↑(M.rayN w h c d) : Int)) = true → decide ((↑k : Int) < (↑(M.rayN w h c d) : Int)) = true) ∧ (decide ((↑k : Int) < (↑(M.rayN w h c d) : Int)) = true → ∀ (k : Nat), k < n → x k = x k ∧ y k = y k) ∧ (decide ((↑k : Int) < (↑(M.rayN w h c d) : Int)) = true → R64 (lo - y (Int.toNat (M.rayC w c d (Int.toNat (↑k : Int)))))) ∧ (decide ((↑k : Int) < (↑(M.rayN w h c d) : Int)) = true → R64 (hi - x (Int.toNat (M.rayC w c d (Int.toNat (↑k : Int)))))) ∧ (decide ((↑k : Int) < (↑(M.rayN w h c d) : Int)) = true → (0 : Int) ≤ M.rayC w c d (Int.toNat (↑k : Int))) ∧ (decide ((↑k : Int) < (↑(M.rayN w h c d) : Int)) = true → M.rayC w c d (Int.toNat (↑k : Int)) < (↑n : Int)) ∧ (decide ((↑k : Int) < (↑(M.rayN w h c d) : Int)) = true → decide ((↑k : Int) < (↑(M.rayN w h c d) : Int)) = true) ∧ (decide ((↑k : Int) < (↑(M.rayN w h c d) : Int)) = true → decide ((↑k : Int) < (↑(M.rayN w h c d) : Int)) = true) ∧ (decide ((↑k : Int) < (↑(M.rayN w h c d) : Int)) = true → decide ((↑k : Int) < (↑(M.rayN w h c d) : Int)) = true) ∧ ((bif decide ((↑k : Int) < (↑(M.rayN w h c d) : Int)) then decide ((1 : Int) ≤ hi - x (Int.toNat (M.rayC w c d (Int.toNat (↑k : Int))))) else false) = true → R64 ((↑k : Int) + (1 : Int)) ∧ ((k + (1 : Nat) ≤ M.W.fetchN (M.W.mk w h s n x y lo hi) c d false ∧ ∀ (j : Nat), j < k + (1 : Nat) → M.W.sea (M.W.mk w h s n x y lo hi) c d false j = true) ∧ M.W.ok (M.W.mk w h s n x y lo hi) ∧ (0 : Int) ≤ d ∧ d ≤ (7 : Int) ∧ (0 : Int) ≤ c ∧ c < w * h) ∧ M.W.fetchN (M.W.mk w h s n x y lo hi) c d false - (k + (1 : Nat)) < M.W.fetchN (M.W.mk w h s n x y lo hi) c d false - k ∧ () = () ∧ (M.rayN w h c d = M.rayN w h c d ∧ ∀ (k : Nat), k < M.rayN w h c d → M.rayC w c d k = M.rayC w c d k) ∧ (↑(M.W.fetchN (M.W.mk w h s n x y lo hi) c d true) : Int) = (↑(M.W.fetchN (M.W.mk w h s n x y lo hi) c d true) : Int) ∧ (↑k : Int) + (1 : Int) = (↑(k + (1 : Nat)) : Int) ∧ w = w ∧ h = h ∧ s = s ∧ (n = n ∧ ∀ (k : Nat), k < n → x k = x k ∧ y k = y k) ∧ lo = lo ∧ hi = hi ∧ True) ∧ ((bif decide ((↑k : Int) < (↑(M.rayN w h c d) : Int)) then decide ((1 : Int) ≤ hi - x (Int.toNat (M.rayC w c d (Int.toNat (↑k : Int))))) else false) = false → false = false ∧ (M.rayN w h c d = M.rayN w h c d ∧ ∀ (k : Nat), k < M.rayN w h c d → M.rayC w c d k = M.rayC w c d k) ∧ (↑(M.W.fetchN (M.W.mk w h s n x y lo hi) c d true) : Int) = (↑(M.W.fetchN (M.W.mk w h s n x y lo hi) c d true) : Int) ∧ (↑k : Int) = (↑(M.W.fetchN (M.W.mk w h s n x y lo hi) c d false) : Int) ∧ True)
theorem q91b (w h s : Int) (n : Nat) (x y : Nat → Int) (lo hi : Int) (c d : Int) (k : Nat) : VL true [] [(112, pureE e112)] YS.none Try.f91 0 [0,1,2,3,4,5,8,9,10,11,12,31,48] [] 2 (lp91b w h s n x y lo hi c d) (k) = Rq91b w h s n x y lo hi c d k := by kernel_rfl
theorem peq91b (w h s : Int) (n : Nat) (x y : Nat → Int) (lo hi : Int) (c d : Int) (k : Nat) : (lp91b w h s n x y lo hi c d).pre (k) = ((k ≤ M.W.fetchN (M.W.mk w h s n x y lo hi) c d false ∧ ∀ (j : Nat), j < k → M.W.sea (M.W.mk w h s n x y lo hi) c d false j = true) ∧
  M.W.ok (M.W.mk w h s n x y lo hi) ∧ (0 : Int) ≤ d ∧ d ≤ (7 : Int) ∧ (0 : Int) ≤ c ∧ c < w * h) := by kernel_rfl
theorem bq91b (w h s : Int) (n : Nat) (x y : Nat → Int) (lo hi : Int) (c d : Int) (k : Nat) (hp : (k ≤ M.W.fetchN (M.W.mk w h s n x y lo hi) c d false ∧ ∀ (j : Nat), j < k → M.W.sea (M.W.mk w h s n x y lo hi) c d false j = true) ∧
  M.W.ok (M.W.mk w h s n x y lo hi) ∧ (0 : Int) ≤ d ∧ d ≤ (7 : Int) ∧ (0 : Int) ≤ c ∧ c < w * h) : Rq91b w h s n x y lo hi c d k := by
  unfold Rq91b
  obtain ⟨⟨hk, hs⟩, hok, hd, hd', hc, hc'⟩ := hp
  have hr := (M.W.mk w h s n x y lo hi).fetchN_le c d false
  have h23 := hok.fetch23 hd hd' hc hc' false
  have hm := @M.W.fetch_more (M.W.mk w h s n x y lo hi) c d false k hs
  have hst := @M.W.fetch_stop (M.W.mk w h s n x y lo hi) c d false k hs
  have hray := @M.W.ok.ray (M.W.mk w h s n x y lo hi) hok c d k
  have hsea := fun (_ : k < M.rayN w h c d) => @M.W.sea_may (M.W.mk w h s n x y lo hi) c d k
  have hnx := @M.scan_next (M.W.sea (M.W.mk w h s n x y lo hi) c d false) k hs
  unfold M.W.dlo M.W.dhi at *
  simp only [Int.toNat_natCast] at *
  unfold R64
  by_cases hlt : k < M.rayN w h c d
  · have hray := hray hlt
    have hsea := hsea hlt
    have hm := hm hlt
    have hst := hst (by omega) 
    generalize M.W.sea (M.W.mk w h s n x y lo hi) c d false k = b at *
    clear hs hr
    cases b
    · have := hst (fun _ => rfl)
      have e2 := of_decide_eq_false hsea.symm
      simp [hlt, e2, this]
      repeat' apply And.intro
      all_goals omega
    · have := hm rfl
      have e2 := of_decide_eq_true hsea.symm
      have hnx := hnx rfl
      simp [hlt, e2, hok, hd, hd', hc, hc']
      repeat' apply And.intro
      all_goals first | omega | exact hnx | exact fun j hj => hnx j hj
  · have := hst (by omega) (fun e => absurd e hlt)
    simp [hlt, this]
theorem t91b (w h s : Int) (n : Nat) (x y : Nat → Int) (lo hi : Int) (c d : Int) {F : Fence} (hF : FOK F) (Y : YEnv PP YS.none) : ∀ Q A H nx, loopT false Try.f91.ntmps 0 (lp91b w h s n x y lo hi c d) (fun _ _ _ => (0 : Nat)) Q A H nx → WPS Y F Try.f91.ntmps 0 (.block 2 (blkAt 2 Try.f91)) Q A H nx :=
  loopW (E := []) (.nil) (O := [(112, pureE e112)]) (.cons (pureE_ok s112) (.nil)) (ck := true) (L := [0,1,2,3,4,5,8,9,10,11,12,31,48]) (f := Try.f91) (m := 0) (id := 2) (l := (lp91b w h s n x y lo hi c d)) (LI := fun i => []) Y hF (by kernel_rfl) (fun _ => .nil) (by
    rintro k hp
    exact Hold.of (q91b w h s n x y lo hi c d k) (bq91b w h s n x y lo hi c d k ((peq91b w h s n x y lo hi c d k).mp hp)))
def e91 : List SV → Option (List Prop × SV)
  | [.agg [.int .i64 w, .int .i64 h, .int .i64 s, .sl 2 n g_1], .agg [.int .i64 lo, .int .i64 hi], .int .i64 c, .int .i64 d] => some ([Row 2 n g_1, M.W.ok (M.W.mk w h s n (cI g_1 0) (cI g_1 1) lo hi), 0 ≤ d, d ≤ 7, 0 ≤ c, c < w * h], .tup [.sl 1 (M.W.fetchN (M.W.mk w h s n (cI g_1 0) (cI g_1 1) lo hi) c d true) (fun k => [SI (M.rayC w c d k)]), .sl 1 (M.W.fetchN (M.W.mk w h s n (cI g_1 0) (cI g_1 1) lo hi) c d false) (fun k => [SI (M.rayC w c d k)])])
  | _ => none
def Rr91 (w h s : Int) (n : Nat) (x y : Nat → Int) (lo hi : Int) (c d : Int) : Prop := (∀ (k : Nat), k < n → x k = x k ∧ y k = y k) ∧ (0 : Int) ≤ d ∧ d ≤ (7 : Int) ∧ (1 : Int) ≤ w ∧ w ≤ (24 : Int) ∧ (1 : Int) ≤ h ∧ h ≤ (24 : Int) ∧ (0 : Int) ≤ c ∧ c < w * h ∧ (((0 : Nat) ≤ M.W.fetchN (M.W.mk w h s n x y lo hi) c d true ∧ ∀ (j : Nat), j < (0 : Nat) → M.W.sea (M.W.mk w h s n x y lo hi) c d true j = true) ∧ M.W.ok (M.W.mk w h s n x y lo hi) ∧ (0 : Int) ≤ d ∧ d ≤ (7 : Int) ∧ (0 : Int) ≤ c ∧ c < w * h) ∧ ((M.rayN w h c d = M.rayN w h c d ∧ ∀ (k : Nat), k < M.rayN w h c d → M.rayC w c d k = M.rayC w c d k) ∧ (0 : Int) = (↑(0 : Nat) : Int) ∧ (0 : Int) = (0 : Int) ∧ w = w ∧ h = h ∧ s = s ∧ (n = n ∧ ∀ (k : Nat), k < n → x k = x k ∧ y k = y k) ∧ lo = lo ∧ hi = hi ∧ True) ∧ (false = false → (((0 : Nat) ≤ M.W.fetchN (M.W.mk w h s n x y lo hi) c d false ∧ ∀ (j : Nat), j < (0 : Nat) → M.W.sea (M.W.mk w h s n x y lo hi) c d false j = true) ∧ M.W.ok (M.W.mk w h s n x y lo hi) ∧ (0 : Int) ≤ d ∧ d ≤ (7 : Int) ∧ (0 : Int) ≤ c ∧ c < w * h) ∧ ((M.rayN w h c d = M.rayN w h c d ∧ ∀ (k : Nat), k < M.rayN w h c d → M.rayC w c d k = M.rayC w c d k) ∧ (↑(M.W.fetchN (M.W.mk w h s n x y lo hi) c d true) : Int) = (↑(M.W.fetchN (M.W.mk w h s n x y lo hi) c d true) : Int) ∧ (0 : Int) = (↑(0 : Nat) : Int) ∧ w = w ∧ h = h ∧ s = s ∧ (n = n ∧ ∀ (k : Nat), k < n → x k = x k ∧ y k = y k) ∧ lo = lo ∧ hi = hi ∧ True) ∧ (false = false → (0 : Int) ≤ (↑(M.W.fetchN (M.W.mk w h s n x y lo hi) c d true) : Int) ∧ (↑(M.W.fetchN (M.W.mk w h s n x y lo hi) c d true) : Int) ≤ (↑(M.rayN w h c d) : Int) ∧ (0 : Int) ≤ (↑(M.W.fetchN (M.W.mk w h s n x y lo hi) c d false) : Int) ∧ (↑(M.W.fetchN (M.W.mk w h s n x y lo hi) c d false) : Int) ≤ (↑(M.rayN w h c d) : Int) ∧ (Int.toNat (↑(M.W.fetchN (M.W.mk w h s n x y lo hi) c d true) : Int) - (0 : Nat) = M.W.fetchN (M.W.mk w h s n x y lo hi) c d true ∧ ∀ (k : Nat), k < Int.toNat (↑(M.W.fetchN (M.W.mk w h s n x y lo hi) c d true) : Int) - (0 : Nat) → M.rayC w c d ((0 : Nat) + k) = M.rayC w c d k) ∧ Int.toNat (↑(M.W.fetchN (M.W.mk w h s n x y lo hi) c d false) : Int) - (0 : Nat) = M.W.fetchN (M.W.mk w h s n x y lo hi) c d false ∧ ∀ (k : Nat), k < Int.toNat (↑(M.W.fetchN (M.W.mk w h s n x y lo hi) c d false) : Int) - (0 : Nat) → M.rayC w c d ((0 : Nat) + k) = M.rayC w c d k) ∧ (false = true → False)) ∧ (false = true → False)
theorem r91 (w h s : Int) (n : Nat) (x y : Nat → Int) (lo hi : Int) (c d : Int) : V true [] [(111, pureE e111)] Try.f91 [0,1,2,3,4,5,8,9,10,11,12,31,48] [(0, loopT false Try.f91.ntmps 0 (lp91a w h s n x y lo hi c d) (fun _ _ _ => (0 : Nat))), (2, loopT false Try.f91.ntmps 0 (lp91b w h s n x y lo hi c d) (fun _ _ _ => (0 : Nat)))] [.agg [SI w, SI h, SI s, .sl 2 n (fun k => [SI (x k), SI (y k)])], .agg [SI lo, SI hi], SI c, SI d] (.tup [.sl 1 (M.W.fetchN (M.W.mk w h s n x y lo hi) c d true) (fun k => [SI (M.rayC w c d k)]), .sl 1 (M.W.fetchN (M.W.mk w h s n x y lo hi) c d false) (fun k => [SI (M.rayC w c d k)])]) = Rr91 w h s n x y lo hi c d := by kernel_rfl
theorem br91 (w h s : Int) (n : Nat) (x y : Nat → Int) (lo hi : Int) (c d : Int) (hp : (M.W.ok (M.W.mk w h s n x y lo hi)) ∧ (0 ≤ d) ∧ (d ≤ 7) ∧ (0 ≤ c) ∧ (c < w * h) ∧ AllP []) : Rr91 w h s n x y lo hi c d := by
  unfold Rr91
  obtain ⟨hok, hd, hd', hc, hc', -⟩ := hp
  have hr := (M.W.mk w h s n x y lo hi).fetchN_le c d true
  have hr' := (M.W.mk w h s n x y lo hi).fetchN_le c d false
  have w1 := hok.w1; have w2 := hok.w2; have g1 := hok.h1; have g2 := hok.h2
  simp only at w1 w2 g1 g2 hr hr'
  simp [hok, hd, hd', hc, hc', w1, w2, g1, g2, hr, hr']
theorem s91 : PureOK PP 91 e91 := by
  intro xs ps res h hp
  unfold e91 at h
  split at h
  · rename_i w h s n g_1 lo hi c d
    simp only [Option.some.injEq, Prod.mk.injEq] at h
    obtain ⟨rfl, rfl⟩ := h
    simp only [AllP.cons] at hp
    obtain ⟨Hg_1, hp⟩ := hp
    refine Spec.args (ys := [.agg [SI w, SI h, SI s, .sl 2 n (fun k => [SI ((cI g_1 0) k), SI ((cI g_1 1) k)])], .agg [SI lo, SI hi], SI c, SI d]) ?_ (.cons (.agg (.cons (.refl _) (.cons (.refl _) (.cons (.refl _) (.cons (.row Hg_1 fun _ => rfl) .nil))))) (.cons (.refl _) (.cons (.refl _) (.cons (.refl _) .nil))))
    refine enter (L := [0,1,2,3,4,5,8,9,10,11,12,31,48]) (LO := [(0, loopT false Try.f91.ntmps 0 (lp91a w h s n (cI g_1 0) (cI g_1 1) lo hi c d) (fun _ _ _ => (0 : Nat))), (2, loopT false Try.f91.ntmps 0 (lp91b w h s n (cI g_1 0) (cI g_1 1) lo hi c d) (fun _ _ _ => (0 : Nat)))]) (E := []) (O := [(111, pureE e111)]) (ck := true) (.nil) (.cons (pureE_ok s111) (.nil)) (k := 91) (f := Try.f91) (xs := [.agg [SI w, SI h, SI s, .sl 2 n (fun k => [SI ((cI g_1 0) k), SI ((cI g_1 1) k)])], .agg [SI lo, SI hi], SI c, SI d]) (r := (.tup [.sl 1 (M.W.fetchN (M.W.mk w h s n (cI g_1 0) (cI g_1 1) lo hi) c d true) (fun k => [SI (M.rayC w c d k)]), .sl 1 (M.W.fetchN (M.W.mk w h s n (cI g_1 0) (cI g_1 1) lo hi) c d false) (fun k => [SI (M.rayC w c d k)])])) (by kernel_rfl) (by kernel_rfl) (fun Y => .cons (by kernel_rfl) (t91a w h s n (cI g_1 0) (cI g_1 1) lo hi c d FOK.wide Y) (.cons (by kernel_rfl) (t91b w h s n (cI g_1 0) (cI g_1 1) lo hi c d FOK.wide Y) (.nil))) ?_
    exact Hold.of (r91 w h s n (cI g_1 0) (cI g_1 1) lo hi c d) (br91 w h s n (cI g_1 0) (cI g_1 1) lo hi c d hp)
  · cases h
def e26 : List SV → Option (List Prop × SV)
  | [.agg [.int .i64 w, .int .i64 h, .int .i64 s, .sl 2 n g_1, .int .i64 lo, .int .i64 hi, .int .i64 dl, .int .i64 dh, .int .i64 ll, .int .i64 lh, .int .i64 c, .int .i64 d]] => some ([Row 2 n g_1, R64 n], .bool (decide ((n : Int) ≤ 600)))
  | _ => none
def Rr26 (w h s : Int) (n : Nat) (x y : Nat → Int) (lo hi dl dh ll lh c : Int) (d : Int) : Prop := decide ((↑n : Int) ≤ (600 : Int)) = decide ((↑n : Int) ≤ (600 : Int))
theorem r26 (w h s : Int) (n : Nat) (x y : Nat → Int) (lo hi dl dh ll lh c : Int) (d : Int) : V true [] [] Try.f26 [0,1,2] [] [.agg [SI w, SI h, SI s, .sl 2 n (fun k => [SI (x k), SI (y k)]), SI lo, SI hi, SI dl, SI dh, SI ll, SI lh, SI c, SI d]] (.bool (decide ((n : Int) ≤ 600))) = Rr26 w h s n x y lo hi dl dh ll lh c d := by kernel_rfl
theorem br26 (w h s : Int) (n : Nat) (x y : Nat → Int) (lo hi dl dh ll lh c : Int) (d : Int) (hp : (R64 n) ∧ AllP []) : Rr26 w h s n x y lo hi dl dh ll lh c d := by
  unfold Rr26
  simp
theorem s26 : PureOK PP 26 e26 := by
  intro xs ps res h hp
  unfold e26 at h
  split at h
  · rename_i w h s n g_1 lo hi dl dh ll lh c d
    simp only [Option.some.injEq, Prod.mk.injEq] at h
    obtain ⟨rfl, rfl⟩ := h
    simp only [AllP.cons] at hp
    obtain ⟨Hg_1, hp⟩ := hp
    refine Spec.args (ys := [.agg [SI w, SI h, SI s, .sl 2 n (fun k => [SI ((cI g_1 0) k), SI ((cI g_1 1) k)]), SI lo, SI hi, SI dl, SI dh, SI ll, SI lh, SI c, SI d]]) ?_ (.cons (.agg (.cons (.refl _) (.cons (.refl _) (.cons (.refl _) (.cons (.row Hg_1 fun _ => rfl) (.cons (.refl _) (.cons (.refl _) (.cons (.refl _) (.cons (.refl _) (.cons (.refl _) (.cons (.refl _) (.cons (.refl _) (.cons (.refl _) .nil))))))))))))) .nil)
    refine enter (L := [0,1,2]) (LO := []) (E := []) (O := []) (ck := true) (.nil) (.nil) (k := 26) (f := Try.f26) (xs := [.agg [SI w, SI h, SI s, .sl 2 n (fun k => [SI ((cI g_1 0) k), SI ((cI g_1 1) k)]), SI lo, SI hi, SI dl, SI dh, SI ll, SI lh, SI c, SI d]]) (r := (.bool (decide ((n : Int) ≤ 600)))) (by kernel_rfl) (by kernel_rfl) (fun _ => .nil) ?_
    exact Hold.of (r26 w h s n (cI g_1 0) (cI g_1 1) lo hi dl dh ll lh c d) (br26 w h s n (cI g_1 0) (cI g_1 1) lo hi dl dh ll lh c d hp)
  · cases h
def e29 : List SV → Option (List Prop × SV)
  | [.agg [.int .i64 w, .int .i64 h, .int .i64 s, .sl 2 n g_1, .int .i64 lo, .int .i64 hi, .int .i64 dl, .int .i64 dh, .int .i64 ll, .int .i64 lh, .int .i64 c, .int .i64 d]] => some ([Row 2 n g_1], .agg [SI dl, SI dh, SI ll, SI lh])
  | _ => none
def Rr29 (w h s : Int) (n : Nat) (x y : Nat → Int) (lo hi dl dh ll lh c : Int) (d : Int) : Prop := dl = dl ∧ dh = dh ∧ ll = ll ∧ lh = lh
theorem r29 (w h s : Int) (n : Nat) (x y : Nat → Int) (lo hi dl dh ll lh c : Int) (d : Int) : V true [] [] Try.f29 [0,1,2] [] [.agg [SI w, SI h, SI s, .sl 2 n (fun k => [SI (x k), SI (y k)]), SI lo, SI hi, SI dl, SI dh, SI ll, SI lh, SI c, SI d]] (.agg [SI dl, SI dh, SI ll, SI lh]) = Rr29 w h s n x y lo hi dl dh ll lh c d := by kernel_rfl
theorem br29 (w h s : Int) (n : Nat) (x y : Nat → Int) (lo hi dl dh ll lh c : Int) (d : Int)  : Rr29 w h s n x y lo hi dl dh ll lh c d := by
  unfold Rr29
  simp
theorem s29 : PureOK PP 29 e29 := by
  intro xs ps res h hp
  unfold e29 at h
  split at h
  · rename_i w h s n g_1 lo hi dl dh ll lh c d
    simp only [Option.some.injEq, Prod.mk.injEq] at h
    obtain ⟨rfl, rfl⟩ := h
    simp only [AllP.cons] at hp
    obtain ⟨Hg_1, hp⟩ := hp
    refine Spec.args (ys := [.agg [SI w, SI h, SI s, .sl 2 n (fun k => [SI ((cI g_1 0) k), SI ((cI g_1 1) k)]), SI lo, SI hi, SI dl, SI dh, SI ll, SI lh, SI c, SI d]]) ?_ (.cons (.agg (.cons (.refl _) (.cons (.refl _) (.cons (.refl _) (.cons (.row Hg_1 fun _ => rfl) (.cons (.refl _) (.cons (.refl _) (.cons (.refl _) (.cons (.refl _) (.cons (.refl _) (.cons (.refl _) (.cons (.refl _) (.cons (.refl _) .nil))))))))))))) .nil)
    refine enter (L := [0,1,2]) (LO := []) (E := []) (O := []) (ck := true) (.nil) (.nil) (k := 29) (f := Try.f29) (xs := [.agg [SI w, SI h, SI s, .sl 2 n (fun k => [SI ((cI g_1 0) k), SI ((cI g_1 1) k)]), SI lo, SI hi, SI dl, SI dh, SI ll, SI lh, SI c, SI d]]) (r := (.agg [SI dl, SI dh, SI ll, SI lh])) (by kernel_rfl) (by kernel_rfl) (fun _ => .nil) ?_
    exact Hold.of (r29 w h s n (cI g_1 0) (cI g_1 1) lo hi dl dh ll lh c d) (br29 w h s n (cI g_1 0) (cI g_1 1) lo hi dl dh ll lh c d )
  · cases h
end Go.Proofs.Ytkklmkogdogbkaa.Sep
