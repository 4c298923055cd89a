/-
  Levels of the tide: angles of a part, sums over the parts, bounds. Plain arithmetic. No condition. (This text proves no statement by itself.)
-/
import Derived.Test.YtpbgkohljjmbhaaKT1

namespace Go.Proofs.Ytpbgkohljjmbhaa.M
open Go
def aLo (p h x : Int) : Int := 3600 * x / p - h
def aHi (p h y : Int) : Int := -(-(3600 * y) / p) - h
theorem ediv_pos_bd {a p : Int} (hp : 1 ≤ p) (ha : 0 ≤ a) : 0 ≤ a / p ∧ a / p ≤ a :=
  ⟨Int.ediv_nonneg ha (by omega), Int.ediv_le_self p ha⟩
theorem cdiv_pos_bd {a p : Int} (hp : 1 ≤ p) (ha : 0 ≤ a) : 0 ≤ -(-a / p) ∧ -(-a / p) ≤ a := by
  have h1 : -a / p ≤ 0 := by
    have := Int.ediv_le_ediv (c := p) (by omega) (show -a ≤ 0 by omega)
    simpa using this
  have h2 : -a ≤ -a / p := by
    rw [Int.le_ediv_iff_mul_le (by omega)]
    have := Int.mul_le_mul_of_nonneg_left hp ha
    rw [Int.mul_one] at this
    rw [Int.neg_mul]; omega
  omega
theorem a_bd {p h x y : Int} (hp : 1 ≤ p) (hh : 0 ≤ h) (hh' : h < 3600) (hx : 0 ≤ x) (hx' : x ≤ 1000000000) (hy : 0 ≤ y) (hy' : y ≤ 1000000000) :
    -3600 ≤ aLo p h x ∧ aLo p h x ≤ 3600000000000 ∧ -3600 ≤ aHi p h y ∧ aHi p h y ≤ 3600000000000 := by
  have h1 := ediv_pos_bd (a := 3600 * x) hp (by omega)
  have h2 := cdiv_pos_bd (a := 3600 * y) hp (by omega)
  unfold aLo aHi
  omega
theorem b_bd (lo hi : Int) : -262145 ≤ bLo lo hi ∧ bLo lo hi ≤ 262144 ∧ -262144 ≤ bHi lo hi ∧ bHi lo hi ≤ 262145 := by
  have h1 := c_bd lo; have h2 := c_bd hi
  unfold bLo bHi
  cases meets lo hi 1800 <;> cases meets lo hi 0 <;> simp <;> omega
/-- The least sum of the first parts' shares, times 65536. -/
def lvLo (am pe ph : Nat → Int) (x y : Int) : Nat → Int
  | 0 => 0
  | k + 1 => lvLo am pe ph x y k + am k * bLo (aLo (pe k) (ph k) x) (aHi (pe k) (ph k) y)
def lvHi (am pe ph : Nat → Int) (x y : Int) : Nat → Int
  | 0 => 0
  | k + 1 => lvHi am pe ph x y k + am k * bHi (aLo (pe k) (ph k) x) (aHi (pe k) (ph k) y)
theorem part_bd {a b : Int} (h1 : 0 ≤ a) (h2 : a ≤ 1000) (h3 : -262145 ≤ b) (h4 : b ≤ 262145) : -262145000 ≤ a * b ∧ a * b ≤ 262145000 := by
  have e1 := Int.mul_le_mul_of_nonneg_left h3 h1
  have e2 := Int.mul_le_mul_of_nonneg_left h4 h1
  omega
theorem lv_bd {am pe ph : Nat → Int} {x y : Int} : ∀ {k : Nat}, (∀ j, j < k → okP am pe ph j = true) → -262145000 * k ≤ lvLo am pe ph x y k ∧ lvLo am pe ph x y k ≤ 262145000 * k ∧ -262145000 * k ≤ lvHi am pe ph x y k ∧ lvHi am pe ph x y k ≤ 262145000 * k
  | 0, _ => by simp [lvLo, lvHi]
  | k + 1, h => by
    obtain ⟨h1, h2, h3, h4⟩ := lv_bd (k := k) (x := x) (y := y) (fun j hj => h j (by omega))
    obtain ⟨f1, f2, -⟩ := okP_iff.1 (h k (by omega))
    obtain ⟨b1, b2, b3, b4⟩ := b_bd (aLo (pe k) (ph k) x) (aHi (pe k) (ph k) y)
    have p1 := part_bd f1 f2 b1 (by omega)
    have p2 := part_bd f1 f2 (by omega) b4
    simp only [lvLo, lvHi]
    omega
/-- The level's bounds. -/
def gLo (mn : Int) (n : Nat) (am pe ph : Nat → Int) (x y : Int) : Int := mn + lvLo am pe ph x y n / 65536
def gHi (mn : Int) (n : Nat) (am pe ph : Nat → Int) (x y : Int) : Int := mn + -(-(lvHi am pe ph x y n) / 65536)
theorem g_bd {mn : Int} {n : Nat} {am pe ph : Nat → Int} {x y : Int} (hm : modE mn n am pe ph = 0) : -80000 ≤ gLo mn n am pe ph x y ∧ gLo mn n am pe ph x y ≤ 80000 ∧ -80000 ≤ gHi mn n am pe ph x y ∧ gHi mn n am pe ph x y ≤ 80000 := by
  obtain ⟨h1, h2, h3, h4⟩ := modE_iff.1 hm
  have := lv_bd (x := x) (y := y) h4
  unfold gLo gHi
  omega
/-- The error of a model and times. -/
def timE (mn : Int) (n : Nat) (am pe ph : Nat → Int) (x y : Int) : Int := if modE mn n am pe ph = 0 then if within x y 0 1000000000 then 0 else 3 else modE mn n am pe ph
theorem timE_iff {mn : Int} {n : Nat} {am pe ph : Nat → Int} {x y : Int} : timE mn n am pe ph x y = 0 ↔ modE mn n am pe ph = 0 ∧ x ≤ y ∧ 0 ≤ x ∧ y ≤ 1000000000 := by
  unfold timE within
  simp only [Bool.and_eq_true, decide_eq_true_eq]
  grind
/-- Sum of the amplitudes. -/
def amS (am : Nat → Int) : Nat → Int
  | 0 => 0
  | k + 1 => amS am k + am k
theorem amS_bd {am pe ph : Nat → Int} : ∀ {k : Nat}, (∀ j, j < k → okP am pe ph j = true) → 0 ≤ amS am k ∧ amS am k ≤ 1000 * k
  | 0, _ => by simp [amS]
  | k + 1, h => by
    have h1 := amS_bd (k := k) (fun j hj => h j (by omega))
    obtain ⟨f1, f2, -⟩ := okP_iff.1 (h k (by omega))
    simp only [amS]
    omega
end Go.Proofs.Ytpbgkohljjmbhaa.M
/-
  Contracts of the levels of the tide. No condition. (This text proves no statement by itself.)
-/
namespace Go.Proofs.Ytpbgkohljjmbhaa.Sep
open Go
set_option linter.unusedVariables false
set_option linter.unusedSimpArgs false
def e60 : List SV → Option (List Prop × SV)
  | [.agg [.int .i64 a, .int .i64 p, .int .i64 h], .agg [.int .i64 x, .int .i64 y]] => some ([1 ≤ p, p ≤ 1000000000, 0 ≤ h, h < 3600, 0 ≤ x, x ≤ 1000000000, 0 ≤ y, y ≤ 1000000000], .agg [SI (M.aLo p h x), SI (M.aHi p h y)])
  | _ => none
def Rr60 (a p h x y : Int) : Prop := R64 ((3600 : Int) * x) ∧ (0 : Int) < p ∧ (-9000000000000000000 : Int) ≤ (3600 : Int) * x ∧ (3600 : Int) * x ≤ (9000000000000000000 : Int) ∧ R64 ((3600 : Int) * x / p - h) ∧ R64 ((3600 : Int) * y) ∧ (0 : Int) < p ∧ (-9000000000000000000 : Int) ≤ (3600 : Int) * y ∧ (3600 : Int) * y ≤ (9000000000000000000 : Int) ∧ R64 (-(-((3600 : Int) * y) / p) - h) ∧ (3600 : Int) * x / p - h = M.aLo p h x ∧ -(-((3600 : Int) * y) / p) - h = M.aHi p h y
theorem r60 (a p h x y : Int) : V true [] [(56, pureE e56), (61, pureE e61), (47, pureE e47)] Try.f60 [0,1,2,3,4] [] [.agg [SI a, SI p, SI h], .agg [SI x, SI y]] (.agg [SI (M.aLo p h x), SI (M.aHi p h y)]) = Rr60 a p h x y := by kernel_rfl
theorem br60 (a p h x y : Int) (hp : (1 ≤ p) ∧ (p ≤ 1000000000) ∧ (0 ≤ h) ∧ (h < 3600) ∧ (0 ≤ x) ∧ (x ≤ 1000000000) ∧ (0 ≤ y) ∧ (y ≤ 1000000000) ∧ AllP []) : Rr60 a p h x y := by
  unfold Rr60
  obtain ⟨p1, p2, h1, h2, x1, x2, y1, y2, -⟩ := hp
  have hb := M.a_bd p1 h1 h2 x1 x2 y1 y2
  unfold M.aLo M.aHi at hb
  unfold M.aLo M.aHi R64
  repeat' apply And.intro
  all_goals first | omega | rfl | trivial
theorem s60 : PureOK PP 60 e60 := by
  intro xs ps res h hp
  unfold e60 at h
  split at h
  · rename_i a p h x y
    simp only [Option.some.injEq, Prod.mk.injEq] at h
    obtain ⟨rfl, rfl⟩ := h
    simp only [AllP.cons] at hp
    refine enter (L := [0,1,2,3,4]) (LO := []) (E := []) (O := [(56, pureE e56), (61, pureE e61), (47, pureE e47)]) (ck := true) (.nil) (.cons (pureE_ok s56) (.cons (pureE_ok s61) (.cons (pureE_ok s47) (.nil)))) (k := 60) (f := Try.f60) (xs := [.agg [SI a, SI p, SI h], .agg [SI x, SI y]]) (r := (.agg [SI (M.aLo p h x), SI (M.aHi p h y)])) (by kernel_rfl) (by kernel_rfl) (fun _ => .nil) ?_
    exact Hold.of (r60 a p h x y) (br60 a p h x y hp)
  · cases h
def e48 : List SV → Option (List Prop × SV)
  | [.agg [.int .i64 a, .int .i64 b], .int .i64 f, .agg [.int .i64 c, .int .i64 d]] => some ([R64 (f * c), R64 (f * d), R64 (a + f * c), R64 (b + f * d)], .agg [SI (a + f * c), SI (b + f * d)])
  | _ => none
def Rr48 (a b f c d : Int) : Prop := R64 (f * c) ∧ R64 (a + f * c) ∧ R64 (f * d) ∧ R64 (b + f * d) ∧ a + f * c = a + f * c ∧ b + f * d = b + f * d
theorem r48 (a b f c d : Int) : V true [] [(47, pureE e47)] Try.f48 [0,1,2,3,5,6] [] [.agg [SI a, SI b], SI f, .agg [SI c, SI d]] (.agg [SI (a + f * c), SI (b + f * d)]) = Rr48 a b f c d := by kernel_rfl
theorem br48 (a b f c d : Int) (hp : (R64 (f * c)) ∧ (R64 (f * d)) ∧ (R64 (a + f * c)) ∧ (R64 (b + f * d)) ∧ AllP []) : Rr48 a b f c d := by
  unfold Rr48
  simp [hp.1, hp.2.1, hp.2.2.1, hp.2.2.2.1]
theorem s48 : PureOK PP 48 e48 := by
  intro xs ps res h hp
  unfold e48 at h
  split at h
  · rename_i a b f c d
    simp only [Option.some.injEq, Prod.mk.injEq] at h
    obtain ⟨rfl, rfl⟩ := h
    simp only [AllP.cons] at hp
    refine enter (L := [0,1,2,3,5,6]) (LO := []) (E := []) (O := [(47, pureE e47)]) (ck := true) (.nil) (.cons (pureE_ok s47) (.nil)) (k := 48) (f := Try.f48) (xs := [.agg [SI a, SI b], SI f, .agg [SI c, SI d]]) (r := (.agg [SI (a + f * c), SI (b + f * d)])) (by kernel_rfl) (by kernel_rfl) (fun _ => .nil) ?_
    exact Hold.of (r48 a b f c d) (br48 a b f c d hp)
  · cases h
def lp45 (mn : Int) (n : Nat) (am pe ph : Nat → Int) (x y : Int) : LoopS where
  ι := Nat
  β := Unit
  pre k := k ≤ n ∧ M.timE mn n am pe ph x y = 0
  μ k := n - k
  next k _ _ _ := k + 1
  out _ := ()
  early _ := false
  SA k := [(2, .ptr 0 0), (3, .ptr 1 0), (4, .ptr 2 0), (5, .ptr 3 0), (9, .sl 3 n (fun k => [SI (am k), SI (pe k), SI (ph k)])), (10, SI n), (11, SI k)]
  SH k := [(0, .cells [SI mn, .sl 3 n (fun k => [SI (am k), SI (pe k), SI (ph k)])]), (1, .cells [SI x, SI y]), (2, .cells [.top, .top]), (3, .cells [SI (M.lvLo am pe ph x y k), SI (M.lvHi am pe ph x y k)])]
  n0 := 4
  NA _ := [(2, .ptr 0 0), (4, .ptr 1 0), (5, .ptr 2 0)]
  NH _ := [(0, .cells [SI mn, .sl 3 n (fun k => [SI (am k), SI (pe k), SI (ph k)])]), (1, .cells [.top, .top]), (2, .cells [SI (M.lvLo am pe ph x y n), SI (M.lvHi am pe ph x y n)])]
  n1 := 3
  RA _ := []
  RH _ := []
def Rq45 (mn : Int) (n : Nat) (am pe ph : Nat → Int) (x y : Int) (k : Nat) : Prop := (decide ((↑k : Int) < (↑n : Int)) = true → (0 : Int) ≤ (↑k : Int) ∧ (↑k : Int) < (↑n : Int) ∧ Int.toNat (↑k : Int) < n ∧ (1 : Int) ≤ pe (Int.toNat (↑k : Int)) ∧ pe (Int.toNat (↑k : Int)) ≤ (1000000000 : Int) ∧ (0 : Int) ≤ ph (Int.toNat (↑k : Int)) ∧ ph (Int.toNat (↑k : Int)) < (3600 : Int) ∧ (0 : Int) ≤ x ∧ x ≤ (1000000000 : Int) ∧ (0 : Int) ≤ y ∧ y ≤ (1000000000 : Int) ∧ (-4000000000000000000 : Int) ≤ M.aLo (pe (Int.toNat (↑k : Int))) (ph (Int.toNat (↑k : Int))) x ∧ M.aLo (pe (Int.toNat (↑k : Int))) (ph (Int.toNat (↑k : Int))) x ≤ (4000000000000000000 : Int) ∧ (-4000000000000000000 : Int) ≤ M.aHi (pe (Int.toNat (↑k : Int))) (ph (Int.toNat (↑k : Int))) y ∧ M.aHi (pe (Int.toNat (↑k : Int))) (ph (Int.toNat (↑k : Int))) y ≤ (4000000000000000000 : Int) ∧ R64 (am (Int.toNat (↑k : Int)) * M.bLo (M.aLo (pe (Int.toNat (↑k : Int))) (ph (Int.toNat (↑k : Int))) x) (M.aHi (pe (Int.toNat (↑k : Int))) (ph (Int.toNat (↑k : Int))) y)) ∧ R64 (am (Int.toNat (↑k : Int)) * M.bHi (M.aLo (pe (Int.toNat (↑k : Int))) (ph (Int.toNat (↑k : Int))) x) (M.aHi (pe (Int.toNat (↑k : Int))) (ph (Int.toNat (↑k : Int))) y)) ∧ R64 (M.lvLo am pe ph x y k + am (Int.toNat (↑k : Int)) * M.bLo (M.aLo (pe (Int.toNat (↑k : Int))) (ph (Int.toNat (↑k : Int))) x) (M.aHi (pe (Int.toNat (↑k : Int))) (ph (Int.toNat (↑k : Int))) y)) ∧ R64 (M.lvHi am pe ph x y k + am (Int.toNat (↑k : Int)) * M.bHi (M.aLo (pe (Int.toNat (↑k : Int))) (ph (Int.toNat (↑k : Int))) x) (M.aHi (pe (Int.toNat (↑k : Int))) (ph (Int.toNat (↑k : Int))) y)) ∧ R64 ((↑k : Int) + (1 : Int)) ∧ (k + (1 : Nat) ≤ n ∧ M.timE mn n am pe ph x y = (0 : Int)) ∧ n - (k + (1 : Nat)) < n - k ∧ () = () ∧ (n = n ∧ ∀ (k : Nat), k < n → am k = am k ∧ pe k = pe k ∧ ph k = ph k) ∧ (↑n : Int) = (↑n : Int) ∧ (↑k : Int) + (1 : Int) = (↑(k + (1 : Nat)) : Int) ∧ mn = mn ∧ (n = n ∧ ∀ (k : Nat), k < n → am k = am k ∧ pe k = pe k ∧ ph k = ph k) ∧ x = x ∧ y = y ∧ M.lvLo am pe ph x y k + am (Int.toNat (↑k : Int)) * M.bLo (M.aLo (pe (Int.toNat (↑k : Int))) (ph (Int.toNat (↑k : Int))) x) (M.aHi (pe (Int.toNat (↑k : Int))) (ph (Int.toNat (↑k : Int))) y) = M.lvLo am pe ph x y (k + (1 : Nat)) ∧ M.lvHi am pe ph x y k + am (Int.toNat (↑k : Int)) * M.bHi (M.aLo (pe (Int.toNat (↑k : Int))) (ph (Int.toNat (↑k : Int))) x) (M.aHi (pe (Int.toNat (↑k : Int))) (ph (Int.toNat (↑k : Int))) y) = M.lvHi am pe ph x y (k + (1 : Nat)) ∧ True) ∧ (decide ((↑k : Int) < (↑n : Int)) = false → false = false ∧ mn = mn ∧ (n = n ∧ ∀ (k : Nat), k < n → am k = am k ∧ pe k = pe k ∧ ph k = ph k) ∧ M.lvLo am pe ph x y k = M.lvLo am pe ph x y n ∧ M.lvHi am pe ph x y k = M.lvHi am pe ph x y n ∧ True)
theorem q45 (mn : Int) (n : Nat) (am pe ph : Nat → Int) (x y : Int) (k : Nat) : VL true [] [(60, pureE e60), (37, pureE e37), (48, pureE e48)] YS.none Try.f45 0 [0,1,2,3,4,5,7,9,10,11,12] [] 0 (lp45 mn n am pe ph x y) (k) = Rq45 mn n am pe ph x y k := by kernel_rfl
theorem peq45 (mn : Int) (n : Nat) (am pe ph : Nat → Int) (x y : Int) (k : Nat) : (lp45 mn n am pe ph x y).pre (k) = (k ≤ n ∧ M.timE mn n am pe ph x y = (0 : Int)) := by kernel_rfl
theorem bq45 (mn : Int) (n : Nat) (am pe ph : Nat → Int) (x y : Int) (k : Nat) (hp : k ≤ n ∧ M.timE mn n am pe ph x y = (0 : Int)) : Rq45 mn n am pe ph x y k := by
  unfold Rq45
  obtain ⟨hk, ht⟩ := id hp
  obtain ⟨hm, t1, t2, t3⟩ := M.timE_iff.1 ht
  obtain ⟨m1, m2, m3, m4⟩ := M.modE_iff.1 hm
  simp only [Int.toNat_natCast, decide_eq_true_eq, decide_eq_false_iff_not]
  refine ⟨fun hlt => ?_, fun hlt => ?_⟩
  · obtain ⟨f1, f2, f3, f4, f5, f6⟩ := M.okP_iff.1 (m4 k (by omega))
    have hb := M.a_bd f3 f5 f6 (show 0 ≤ x by omega) (by omega) (show 0 ≤ y by omega) (by omega)
    have e1 : 3600 * x / pe k - ph k = M.aLo (pe k) (ph k) x := rfl
    have e2 : -(-(3600 * y) / pe k) - ph k = M.aHi (pe k) (ph k) y := rfl
    try simp only [e1, e2]
    obtain ⟨b1, b2, b3, b4⟩ := M.b_bd (M.aLo (pe k) (ph k) x) (M.aHi (pe k) (ph k) y)
    have p1 := M.part_bd f1 f2 b1 (by omega)
    have p2 := M.part_bd f1 f2 (by omega) b4
    have l := M.lv_bd (k := k) (x := x) (y := y) (fun j hj => m4 j (by omega))
    unfold R64
    repeat' apply And.intro
    all_goals first | omega | rfl | exact ht | trivial | (intro j hj; simp)
  · have e : k = n := by omega
    subst e; simp
theorem t45 (mn : Int) (n : Nat) (am pe ph : Nat → Int) (x y : Int) {F : Fence} (hF : FOK F) (Y : YEnv PP YS.none) : ∀ Q A H nx, loopT false Try.f45.ntmps 0 (lp45 mn n am pe ph x y) (fun _ _ _ => (0 : Nat)) Q A H nx → WPS Y F Try.f45.ntmps 0 (.block 0 (blkAt 0 Try.f45)) Q A H nx :=
  loopW (E := []) (.nil) (O := [(60, pureE e60), (37, pureE e37), (48, pureE e48)]) (.cons (pureE_ok s60) (.cons (pureE_ok s37) (.cons (pureE_ok s48) (.nil)))) (ck := true) (L := [0,1,2,3,4,5,7,9,10,11,12]) (f := Try.f45) (m := 0) (id := 0) (l := (lp45 mn n am pe ph x y)) (LI := fun i => []) Y hF (by kernel_rfl) (fun _ => .nil) (by
    rintro k hp
    exact Hold.of (q45 mn n am pe ph x y k) (bq45 mn n am pe ph x y k ((peq45 mn n am pe ph x y k).mp hp)))
def e45 : List SV → Option (List Prop × SV)
  | [.agg [.int .i64 mn, .sl 3 n g_1], .agg [.int .i64 x, .int .i64 y]] => some ([Row 3 n g_1, M.timE mn n (cI g_1 0) (cI g_1 1) (cI g_1 2) x y = 0], .agg [SI (M.gLo mn n (cI g_1 0) (cI g_1 1) (cI g_1 2) x y), SI (M.gHi mn n (cI g_1 0) (cI g_1 1) (cI g_1 2) x y)])
  | _ => none
def Rr45 (mn : Int) (n : Nat) (am pe ph : Nat → Int) (x y : Int) : Prop := ((0 : Nat) ≤ n ∧ M.timE mn n am pe ph x y = (0 : Int)) ∧ ((n = n ∧ ∀ (k : Nat), k < n → am k = am k ∧ pe k = pe k ∧ ph k = ph k) ∧ (↑n : Int) = (↑n : Int) ∧ (0 : Int) = (↑(0 : Nat) : Int) ∧ mn = mn ∧ (n = n ∧ ∀ (k : Nat), k < n → am k = am k ∧ pe k = pe k ∧ ph k = ph k) ∧ x = x ∧ y = y ∧ (0 : Int) = M.lvLo am pe ph x y (0 : Nat) ∧ (0 : Int) = M.lvHi am pe ph x y (0 : Nat) ∧ True) ∧ (false = false → (0 : Int) < (65536 : Int) ∧ (-9000000000000000000 : Int) ≤ M.lvLo am pe ph x y n ∧ M.lvLo am pe ph x y n ≤ (9000000000000000000 : Int) ∧ R64 (mn + M.lvLo am pe ph x y n / (65536 : Int)) ∧ (0 : Int) < (65536 : Int) ∧ (-9000000000000000000 : Int) ≤ M.lvHi am pe ph x y n ∧ M.lvHi am pe ph x y n ≤ (9000000000000000000 : Int) ∧ R64 (mn + -(-M.lvHi am pe ph x y n / (65536 : Int))) ∧ mn + M.lvLo am pe ph x y n / (65536 : Int) = M.gLo mn n am pe ph x y ∧ mn + -(-M.lvHi am pe ph x y n / (65536 : Int)) = M.gHi mn n am pe ph x y) ∧ (false = true → False)
theorem r45 (mn : Int) (n : Nat) (am pe ph : Nat → Int) (x y : Int) : V true [] [(56, pureE e56), (61, pureE e61), (47, pureE e47)] Try.f45 [0,1,2,3,4,5,7,9,10,11,12] [(0, loopT false Try.f45.ntmps 0 (lp45 mn n am pe ph x y) (fun _ _ _ => (0 : Nat)))] [.agg [SI mn, .sl 3 n (fun k => [SI (am k), SI (pe k), SI (ph k)])], .agg [SI x, SI y]] (.agg [SI (M.gLo mn n am pe ph x y), SI (M.gHi mn n am pe ph x y)]) = Rr45 mn n am pe ph x y := by kernel_rfl
theorem br45 (mn : Int) (n : Nat) (am pe ph : Nat → Int) (x y : Int) (hp : (M.timE mn n am pe ph x y = 0) ∧ AllP []) : Rr45 mn n am pe ph x y := by
  unfold Rr45
  obtain ⟨ht, -⟩ := id hp
  obtain ⟨hm, -⟩ := M.timE_iff.1 ht
  obtain ⟨m1, m2, m3, m4⟩ := M.modE_iff.1 hm
  have l := M.lv_bd (k := n) (x := x) (y := y) m4
  have g := M.g_bd (x := x) (y := y) hm
  unfold M.gLo M.gHi at *
  unfold R64
  refine ⟨⟨by omega, ht⟩, by simp [M.lvLo, M.lvHi], fun _ => ?_, fun h => by cases h⟩
  repeat' apply And.intro
  all_goals first | omega | rfl
theorem s45 : PureOK PP 45 e45 := by
  intro xs ps res h hp
  unfold e45 at h
  split at h
  · rename_i mn n g_1 x y
    simp only [Option.some.injEq, Prod.mk.injEq] at h
    obtain ⟨rfl, rfl⟩ := h
    simp only [AllP.cons] at hp
    obtain ⟨Hg_1, hp⟩ := hp
    refine Spec.args (ys := [.agg [SI mn, .sl 3 n (fun k => [SI ((cI g_1 0) k), SI ((cI g_1 1) k), SI ((cI g_1 2) k)])], .agg [SI x, SI y]]) ?_ (.cons (.agg (.cons (.refl _) (.cons (.row Hg_1 fun _ => rfl) .nil))) (.cons (.refl _) .nil))
    refine enter (L := [0,1,2,3,4,5,7,9,10,11,12]) (LO := [(0, loopT false Try.f45.ntmps 0 (lp45 mn n (cI g_1 0) (cI g_1 1) (cI g_1 2) x y) (fun _ _ _ => (0 : Nat)))]) (E := []) (O := [(56, pureE e56), (61, pureE e61), (47, pureE e47)]) (ck := true) (.nil) (.cons (pureE_ok s56) (.cons (pureE_ok s61) (.cons (pureE_ok s47) (.nil)))) (k := 45) (f := Try.f45) (xs := [.agg [SI mn, .sl 3 n (fun k => [SI ((cI g_1 0) k), SI ((cI g_1 1) k), SI ((cI g_1 2) k)])], .agg [SI x, SI y]]) (r := (.agg [SI (M.gLo mn n (cI g_1 0) (cI g_1 1) (cI g_1 2) x y), SI (M.gHi mn n (cI g_1 0) (cI g_1 1) (cI g_1 2) x y)])) (by kernel_rfl) (by kernel_rfl) (fun Y => .cons (by kernel_rfl) (t45 mn n (cI g_1 0) (cI g_1 1) (cI g_1 2) x y FOK.wide Y) (.nil)) ?_
    exact Hold.of (r45 mn n (cI g_1 0) (cI g_1 1) (cI g_1 2) x y) (br45 mn n (cI g_1 0) (cI g_1 1) (cI g_1 2) x y hp)
  · cases h
def lp46 (mn : Int) (n : Nat) (am pe ph : Nat → Int) (x y : Int) : LoopS where
  ι := Nat
  β := Unit
  pre k := k ≤ n ∧ M.timE mn n am pe ph x y = 0
  μ k := n - k
  next k _ _ _ := k + 1
  out _ := ()
  early _ := false
  SA k := [(2, .ptr 0 0), (3, .ptr 1 0), (4, .ptr 2 0), (5, .ptr 3 0), (6, SI k)]
  SH k := [(0, .cells [SI mn, .sl 3 n (fun k => [SI (am k), SI (pe k), SI (ph k)])]), (1, .cells [SI x, SI y]), (2, .cells [.top, .top]), (3, .cells [SI (M.lvLo am pe ph x y k), SI (M.lvHi am pe ph x y k)])]
  n0 := 4
  NA _ := [(2, .ptr 0 0), (4, .ptr 1 0), (5, .ptr 2 0)]
  NH _ := [(0, .cells [SI mn, .sl 3 n (fun k => [SI (am k), SI (pe k), SI (ph k)])]), (1, .cells [.top, .top]), (2, .cells [SI (M.lvLo am pe ph x y n), SI (M.lvHi am pe ph x y n)])]
  n1 := 3
  RA _ := []
  RH _ := []
def Rq46 (mn : Int) (n : Nat) (am pe ph : Nat → Int) (x y : Int) (k : Nat) : Prop := (decide ((↑k : Int) < (↑n : Int)) = true → (0 : Int) ≤ (↑k : Int) ∧ (↑k : Int) < (↑n : Int) ∧ Int.toNat (↑k : Int) < n ∧ R64 ((3600 : Int) * x) ∧ (0 : Int) < pe (Int.toNat (↑k : Int)) ∧ (-9000000000000000000 : Int) ≤ (3600 : Int) * x ∧ (3600 : Int) * x ≤ (9000000000000000000 : Int) ∧ R64 ((3600 : Int) * x / pe (Int.toNat (↑k : Int)) - ph (Int.toNat (↑k : Int))) ∧ R64 ((3600 : Int) * y) ∧ (0 : Int) < pe (Int.toNat (↑k : Int)) ∧ (-9000000000000000000 : Int) ≤ (3600 : Int) * y ∧ (3600 : Int) * y ≤ (9000000000000000000 : Int) ∧ R64 (-(-((3600 : Int) * y) / pe (Int.toNat (↑k : Int))) - ph (Int.toNat (↑k : Int))) ∧ (-4000000000000000000 : Int) ≤ (3600 : Int) * x / pe (Int.toNat (↑k : Int)) - ph (Int.toNat (↑k : Int)) ∧ (3600 : Int) * x / pe (Int.toNat (↑k : Int)) - ph (Int.toNat (↑k : Int)) ≤ (4000000000000000000 : Int) ∧ (-4000000000000000000 : Int) ≤ -(-((3600 : Int) * y) / pe (Int.toNat (↑k : Int))) - ph (Int.toNat (↑k : Int)) ∧ -(-((3600 : Int) * y) / pe (Int.toNat (↑k : Int))) - ph (Int.toNat (↑k : Int)) ≤ (4000000000000000000 : Int) ∧ R64 (am (Int.toNat (↑k : Int)) * M.bLo ((3600 : Int) * x / pe (Int.toNat (↑k : Int)) - ph (Int.toNat (↑k : Int))) (-(-((3600 : Int) * y) / pe (Int.toNat (↑k : Int))) - ph (Int.toNat (↑k : Int)))) ∧ R64 (M.lvLo am pe ph x y k + am (Int.toNat (↑k : Int)) * M.bLo ((3600 : Int) * x / pe (Int.toNat (↑k : Int)) - ph (Int.toNat (↑k : Int))) (-(-((3600 : Int) * y) / pe (Int.toNat (↑k : Int))) - ph (Int.toNat (↑k : Int)))) ∧ R64 (am (Int.toNat (↑k : Int)) * M.bHi ((3600 : Int) * x / pe (Int.toNat (↑k : Int)) - ph (Int.toNat (↑k : Int))) (-(-((3600 : Int) * y) / pe (Int.toNat (↑k : Int))) - ph (Int.toNat (↑k : Int)))) ∧ R64 (M.lvHi am pe ph x y k + am (Int.toNat (↑k : Int)) * M.bHi ((3600 : Int) * x / pe (Int.toNat (↑k : Int)) - ph (Int.toNat (↑k : Int))) (-(-((3600 : Int) * y) / pe (Int.toNat (↑k : Int))) - ph (Int.toNat (↑k : Int)))) ∧ R64 ((↑k : Int) + (1 : Int)) ∧ (k + (1 : Nat) ≤ n ∧ M.timE mn n am pe ph x y = (0 : Int)) ∧ n - (k + (1 : Nat)) < n - k ∧ () = () ∧ (↑k : Int) + (1 : Int) = (↑(k + (1 : Nat)) : Int) ∧ mn = mn ∧ (n = n ∧ ∀ (k : Nat), k < n → am k = am k ∧ pe k = pe k ∧ ph k = ph k) ∧ x = x ∧ y = y ∧ M.lvLo am pe ph x y k + am (Int.toNat (↑k : Int)) * M.bLo ((3600 : Int) * x / pe (Int.toNat (↑k : Int)) - ph (Int.toNat (↑k : Int))) (-(-((3600 : Int) * y) / pe (Int.toNat (↑k : Int))) - ph (Int.toNat (↑k : Int))) = M.lvLo am pe ph x y (k + (1 : Nat)) ∧ M.lvHi am pe ph x y k + am (Int.toNat (↑k : Int)) * M.bHi ((3600 : Int) * x / pe (Int.toNat (↑k : Int)) - ph (Int.toNat (↑k : Int))) (-(-((3600 : Int) * y) / pe (Int.toNat (↑k : Int))) - ph (Int.toNat (↑k : Int))) = M.lvHi am pe ph x y (k + (1 : Nat)) ∧ True) ∧ (decide ((↑k : Int) < (↑n : Int)) = false → false = false ∧ mn = mn ∧ (n = n ∧ ∀ (k : Nat), k < n → am k = am k ∧ pe k = pe k ∧ ph k = ph k) ∧ M.lvLo am pe ph x y k = M.lvLo am pe ph x y n ∧ M.lvHi am pe ph x y k = M.lvHi am pe ph x y n ∧ True)
theorem q46 (mn : Int) (n : Nat) (am pe ph : Nat → Int) (x y : Int) (k : Nat) : VL true [] [(62, pureE e62), (63, pureE e63), (39, pureE e39)] YS.none Try.f46 0 [0,1,2,3,4,5,6,7,8,14] [] 0 (lp46 mn n am pe ph x y) (k) = Rq46 mn n am pe ph x y k := by kernel_rfl
theorem peq46 (mn : Int) (n : Nat) (am pe ph : Nat → Int) (x y : Int) (k : Nat) : (lp46 mn n am pe ph x y).pre (k) = (k ≤ n ∧ M.timE mn n am pe ph x y = (0 : Int)) := by kernel_rfl
theorem bq46 (mn : Int) (n : Nat) (am pe ph : Nat → Int) (x y : Int) (k : Nat) (hp : k ≤ n ∧ M.timE mn n am pe ph x y = (0 : Int)) : Rq46 mn n am pe ph x y k := by
  unfold Rq46
  obtain ⟨hk, ht⟩ := id hp
  obtain ⟨hm, t1, t2, t3⟩ := M.timE_iff.1 ht
  obtain ⟨m1, m2, m3, m4⟩ := M.modE_iff.1 hm
  simp only [Int.toNat_natCast, decide_eq_true_eq, decide_eq_false_iff_not]
  refine ⟨fun hlt => ?_, fun hlt => ?_⟩
  · obtain ⟨f1, f2, f3, f4, f5, f6⟩ := M.okP_iff.1 (m4 k (by omega))
    have hb := M.a_bd f3 f5 f6 (show 0 ≤ x by omega) (by omega) (show 0 ≤ y by omega) (by omega)
    have e1 : 3600 * x / pe k - ph k = M.aLo (pe k) (ph k) x := rfl
    have e2 : -(-(3600 * y) / pe k) - ph k = M.aHi (pe k) (ph k) y := rfl
    try simp only [e1, e2]
    obtain ⟨b1, b2, b3, b4⟩ := M.b_bd (M.aLo (pe k) (ph k) x) (M.aHi (pe k) (ph k) y)
    have p1 := M.part_bd f1 f2 b1 (by omega)
    have p2 := M.part_bd f1 f2 (by omega) b4
    have l := M.lv_bd (k := k) (x := x) (y := y) (fun j hj => m4 j (by omega))
    unfold R64
    repeat' apply And.intro
    all_goals first | omega | rfl | exact ht | trivial | (intro j hj; simp)
  · have e : k = n := by omega
    subst e; simp
theorem t46 (mn : Int) (n : Nat) (am pe ph : Nat → Int) (x y : Int) {F : Fence} (hF : FOK F) (Y : YEnv PP YS.none) : ∀ Q A H nx, loopT false Try.f46.ntmps 0 (lp46 mn n am pe ph x y) (fun _ _ _ => (0 : Nat)) Q A H nx → WPS Y F Try.f46.ntmps 0 (.block 0 (blkAt 0 Try.f46)) Q A H nx :=
  loopW (E := []) (.nil) (O := [(62, pureE e62), (63, pureE e63), (39, pureE e39)]) (.cons (pureE_ok s62) (.cons (pureE_ok s63) (.cons (pureE_ok s39) (.nil)))) (ck := true) (L := [0,1,2,3,4,5,6,7,8,14]) (f := Try.f46) (m := 0) (id := 0) (l := (lp46 mn n am pe ph x y)) (LI := fun i => []) Y hF (by kernel_rfl) (fun _ => .nil) (by
    rintro k hp
    exact Hold.of (q46 mn n am pe ph x y k) (bq46 mn n am pe ph x y k ((peq46 mn n am pe ph x y k).mp hp)))
def e46 : List SV → Option (List Prop × SV)
  | [.agg [.int .i64 mn, .sl 3 n g_1], .agg [.int .i64 x, .int .i64 y]] => some ([Row 3 n g_1, M.timE mn n (cI g_1 0) (cI g_1 1) (cI g_1 2) x y = 0], .agg [SI (M.gLo mn n (cI g_1 0) (cI g_1 1) (cI g_1 2) x y), SI (M.gHi mn n (cI g_1 0) (cI g_1 1) (cI g_1 2) x y)])
  | _ => none
def Rr46 (mn : Int) (n : Nat) (am pe ph : Nat → Int) (x y : Int) : Prop := ((0 : Nat) ≤ n ∧ M.timE mn n am pe ph x y = (0 : Int)) ∧ ((0 : Int) = (↑(0 : Nat) : Int) ∧ mn = mn ∧ (n = n ∧ ∀ (k : Nat), k < n → am k = am k ∧ pe k = pe k ∧ ph k = ph k) ∧ x = x ∧ y = y ∧ (0 : Int) = M.lvLo am pe ph x y (0 : Nat) ∧ (0 : Int) = M.lvHi am pe ph x y (0 : Nat) ∧ True) ∧ (false = false → (0 : Int) < (65536 : Int) ∧ (-9000000000000000000 : Int) ≤ M.lvLo am pe ph x y n ∧ M.lvLo am pe ph x y n ≤ (9000000000000000000 : Int) ∧ R64 (mn + M.lvLo am pe ph x y n / (65536 : Int)) ∧ (0 : Int) < (65536 : Int) ∧ (-9000000000000000000 : Int) ≤ M.lvHi am pe ph x y n ∧ M.lvHi am pe ph x y n ≤ (9000000000000000000 : Int) ∧ R64 (mn + -(-M.lvHi am pe ph x y n / (65536 : Int))) ∧ mn + M.lvLo am pe ph x y n / (65536 : Int) = M.gLo mn n am pe ph x y ∧ mn + -(-M.lvHi am pe ph x y n / (65536 : Int)) = M.gHi mn n am pe ph x y) ∧ (false = true → False)
theorem r46 (mn : Int) (n : Nat) (am pe ph : Nat → Int) (x y : Int) : V true [] [(62, pureE e62), (63, pureE e63)] Try.f46 [0,1,2,3,4,5,6,7,8,14] [(0, loopT false Try.f46.ntmps 0 (lp46 mn n am pe ph x y) (fun _ _ _ => (0 : Nat)))] [.agg [SI mn, .sl 3 n (fun k => [SI (am k), SI (pe k), SI (ph k)])], .agg [SI x, SI y]] (.agg [SI (M.gLo mn n am pe ph x y), SI (M.gHi mn n am pe ph x y)]) = Rr46 mn n am pe ph x y := by kernel_rfl
theorem br46 (mn : Int) (n : Nat) (am pe ph : Nat → Int) (x y : Int) (hp : (M.timE mn n am pe ph x y = 0) ∧ AllP []) : Rr46 mn n am pe ph x y := by
  unfold Rr46
  obtain ⟨ht, -⟩ := id hp
  obtain ⟨hm, -⟩ := M.timE_iff.1 ht
  obtain ⟨m1, m2, m3, m4⟩ := M.modE_iff.1 hm
  have l := M.lv_bd (k := n) (x := x) (y := y) m4
  have g := M.g_bd (x := x) (y := y) hm
  unfold M.gLo M.gHi at *
  unfold R64
  refine ⟨⟨by omega, ht⟩, by simp [M.lvLo, M.lvHi], fun _ => ?_, fun h => by cases h⟩
  repeat' apply And.intro
  all_goals first | omega | rfl
theorem s46 : PureOK PP 46 e46 := by
  intro xs ps res h hp
  unfold e46 at h
  split at h
  · rename_i mn n g_1 x y
    simp only [Option.some.injEq, Prod.mk.injEq] at h
    obtain ⟨rfl, rfl⟩ := h
    simp only [AllP.cons] at hp
    obtain ⟨Hg_1, hp⟩ := hp
    refine Spec.args (ys := [.agg [SI mn, .sl 3 n (fun k => [SI ((cI g_1 0) k), SI ((cI g_1 1) k), SI ((cI g_1 2) k)])], .agg [SI x, SI y]]) ?_ (.cons (.agg (.cons (.refl _) (.cons (.row Hg_1 fun _ => rfl) .nil))) (.cons (.refl _) .nil))
    refine enter (L := [0,1,2,3,4,5,6,7,8,14]) (LO := [(0, loopT false Try.f46.ntmps 0 (lp46 mn n (cI g_1 0) (cI g_1 1) (cI g_1 2) x y) (fun _ _ _ => (0 : Nat)))]) (E := []) (O := [(62, pureE e62), (63, pureE e63)]) (ck := true) (.nil) (.cons (pureE_ok s62) (.cons (pureE_ok s63) (.nil))) (k := 46) (f := Try.f46) (xs := [.agg [SI mn, .sl 3 n (fun k => [SI ((cI g_1 0) k), SI ((cI g_1 1) k), SI ((cI g_1 2) k)])], .agg [SI x, SI y]]) (r := (.agg [SI (M.gLo mn n (cI g_1 0) (cI g_1 1) (cI g_1 2) x y), SI (M.gHi mn n (cI g_1 0) (cI g_1 1) (cI g_1 2) x y)])) (by kernel_rfl) (by kernel_rfl) (fun Y => .cons (by kernel_rfl) (t46 mn n (cI g_1 0) (cI g_1 1) (cI g_1 2) x y FOK.wide Y) (.nil)) ?_
    exact Hold.of (r46 mn n (cI g_1 0) (cI g_1 1) (cI g_1 2) x y) (br46 mn n (cI g_1 0) (cI g_1 1) (cI g_1 2) x y hp)
  · cases h
def e44 : List SV → Option (List Prop × SV)
  | [.agg [.int .i64 mn, .sl 3 n g_1], .agg [.int .i64 x, .int .i64 y]] => some ([Row 3 n g_1, R64 n], SI (M.timE mn n (cI g_1 0) (cI g_1 1) (cI g_1 2) x y))
  | _ => none
def Rr44 (mn : Int) (n : Nat) (am pe ph : Nat → Int) (x y : Int) : Prop := (∀ (k : Nat), k < n → am k = am k ∧ pe k = pe k ∧ ph k = ph k) ∧ R64 (↑n : Int) ∧ ((!decide (M.modE mn n am pe ph = (0 : Int))) = true → M.modE mn n am pe ph = M.timE mn n am pe ph x y) ∧ ((!decide (M.modE mn n am pe ph = (0 : Int))) = false → ((!M.within x y (0 : Int) (1000000000 : Int)) = true → (3 : Int) = M.timE mn n am pe ph x y) ∧ ((!M.within x y (0 : Int) (1000000000 : Int)) = false → (0 : Int) = M.timE mn n am pe ph x y))
theorem r44 (mn : Int) (n : Nat) (am pe ph : Nat → Int) (x y : Int) : V true [] [(14, pureE e14), (36, pureE e36)] Try.f44 [0,1,2,3,4,5,9,13] [] [.agg [SI mn, .sl 3 n (fun k => [SI (am k), SI (pe k), SI (ph k)])], .agg [SI x, SI y]] (SI (M.timE mn n am pe ph x y)) = Rr44 mn n am pe ph x y := by kernel_rfl
theorem br44 (mn : Int) (n : Nat) (am pe ph : Nat → Int) (x y : Int) (hp : (R64 n) ∧ AllP []) : Rr44 mn n am pe ph x y := by
  unfold Rr44
  have hn := hp.1
  unfold M.timE
  by_cases h : M.modE mn n am pe ph = 0
  · cases M.within x y 0 1000000000 <;> simp [h, hn]
  · simp [h, hn]
theorem s44 : PureOK PP 44 e44 := by
  intro xs ps res h hp
  unfold e44 at h
  split at h
  · rename_i mn n g_1 x y
    simp only [Option.some.injEq, Prod.mk.injEq] at h
    obtain ⟨rfl, rfl⟩ := h
    simp only [AllP.cons] at hp
    obtain ⟨Hg_1, hp⟩ := hp
    refine Spec.args (ys := [.agg [SI mn, .sl 3 n (fun k => [SI ((cI g_1 0) k), SI ((cI g_1 1) k), SI ((cI g_1 2) k)])], .agg [SI x, SI y]]) ?_ (.cons (.agg (.cons (.refl _) (.cons (.row Hg_1 fun _ => rfl) .nil))) (.cons (.refl _) .nil))
    refine enter (L := [0,1,2,3,4,5,9,13]) (LO := []) (E := []) (O := [(14, pureE e14), (36, pureE e36)]) (ck := true) (.nil) (.cons (pureE_ok s14) (.cons (pureE_ok s36) (.nil))) (k := 44) (f := Try.f44) (xs := [.agg [SI mn, .sl 3 n (fun k => [SI ((cI g_1 0) k), SI ((cI g_1 1) k), SI ((cI g_1 2) k)])], .agg [SI x, SI y]]) (r := (SI (M.timE mn n (cI g_1 0) (cI g_1 1) (cI g_1 2) x y))) (by kernel_rfl) (by kernel_rfl) (fun _ => .nil) ?_
    exact Hold.of (r44 mn n (cI g_1 0) (cI g_1 1) (cI g_1 2) x y) (br44 mn n (cI g_1 0) (cI g_1 1) (cI g_1 2) x y hp)
  · cases h
def e17 : List SV → Option (List Prop × SV)
  | [.agg [.int .i64 mn, .sl 3 n g_1], .agg [.int .i64 x, .int .i64 y]] => some ([Row 3 n g_1, R64 n], .tup [.agg [SI (if M.timE mn n (cI g_1 0) (cI g_1 1) (cI g_1 2) x y = 0 then M.gLo mn n (cI g_1 0) (cI g_1 1) (cI g_1 2) x y else 0), SI (if M.timE mn n (cI g_1 0) (cI g_1 1) (cI g_1 2) x y = 0 then M.gHi mn n (cI g_1 0) (cI g_1 1) (cI g_1 2) x y else 0)], SI (M.timE mn n (cI g_1 0) (cI g_1 1) (cI g_1 2) x y)])
  | _ => none
def Rr17 (mn : Int) (n : Nat) (am pe ph : Nat → Int) (x y : Int) : Prop := (∀ (k : Nat), k < n → am k = am k ∧ pe k = pe k ∧ ph k = ph k) ∧ R64 (↑n : Int) ∧ ((!decide (M.timE mn n am pe ph x y = (0 : Int))) = true → (((0 : Int) = if M.timE mn n am pe ph x y = (0 : Int) then M.gLo mn n am pe ph x y else (0 : Int)) ∧ (0 : Int) = if M.timE mn n am pe ph x y = (0 : Int) then M.gHi mn n am pe ph x y else (0 : Int)) ∧ M.timE mn n am pe ph x y = M.timE mn n am pe ph x y) ∧ ((!decide (M.timE mn n am pe ph x y = (0 : Int))) = false → (∀ (k : Nat), k < n → am k = am k ∧ pe k = pe k ∧ ph k = ph k) ∧ M.timE mn n am pe ph x y = (0 : Int) ∧ ((M.gLo mn n am pe ph x y = if M.timE mn n am pe ph x y = (0 : Int) then M.gLo mn n am pe ph x y else (0 : Int)) ∧ M.gHi mn n am pe ph x y = if M.timE mn n am pe ph x y = (0 : Int) then M.gHi mn n am pe ph x y else (0 : Int)) ∧ (0 : Int) = M.timE mn n am pe ph x y)
theorem r17 (mn : Int) (n : Nat) (am pe ph : Nat → Int) (x y : Int) : V true [] [(44, pureE e44), (45, pureE e45)] Try.f17 [0,1,2,3,4,5,6,12] [] [.agg [SI mn, .sl 3 n (fun k => [SI (am k), SI (pe k), SI (ph k)])], .agg [SI x, SI y]] (.tup [.agg [SI (if M.timE mn n am pe ph x y = 0 then M.gLo mn n am pe ph x y else 0), SI (if M.timE mn n am pe ph x y = 0 then M.gHi mn n am pe ph x y else 0)], SI (M.timE mn n am pe ph x y)]) = Rr17 mn n am pe ph x y := by kernel_rfl
theorem br17 (mn : Int) (n : Nat) (am pe ph : Nat → Int) (x y : Int) (hp : (R64 n) ∧ AllP []) : Rr17 mn n am pe ph x y := by
  unfold Rr17
  have hn := hp.1
  by_cases h : M.timE mn n am pe ph x y = 0
  · simp [h, hn]
  · simp [h, hn]
theorem s17 : PureOK PP 17 e17 := by
  intro xs ps res h hp
  unfold e17 at h
  split at h
  · rename_i mn n g_1 x y
    simp only [Option.some.injEq, Prod.mk.injEq] at h
    obtain ⟨rfl, rfl⟩ := h
    simp only [AllP.cons] at hp
    obtain ⟨Hg_1, hp⟩ := hp
    refine Spec.args (ys := [.agg [SI mn, .sl 3 n (fun k => [SI ((cI g_1 0) k), SI ((cI g_1 1) k), SI ((cI g_1 2) k)])], .agg [SI x, SI y]]) ?_ (.cons (.agg (.cons (.refl _) (.cons (.row Hg_1 fun _ => rfl) .nil))) (.cons (.refl _) .nil))
    refine enter (L := [0,1,2,3,4,5,6,12]) (LO := []) (E := []) (O := [(44, pureE e44), (45, pureE e45)]) (ck := true) (.nil) (.cons (pureE_ok s44) (.cons (pureE_ok s45) (.nil))) (k := 17) (f := Try.f17) (xs := [.agg [SI mn, .sl 3 n (fun k => [SI ((cI g_1 0) k), SI ((cI g_1 1) k), SI ((cI g_1 2) k)])], .agg [SI x, SI y]]) (r := (.tup [.agg [SI (if M.timE mn n (cI g_1 0) (cI g_1 1) (cI g_1 2) x y = 0 then M.gLo mn n (cI g_1 0) (cI g_1 1) (cI g_1 2) x y else 0), SI (if M.timE mn n (cI g_1 0) (cI g_1 1) (cI g_1 2) x y = 0 then M.gHi mn n (cI g_1 0) (cI g_1 1) (cI g_1 2) x y else 0)], SI (M.timE mn n (cI g_1 0) (cI g_1 1) (cI g_1 2) x y)])) (by kernel_rfl) (by kernel_rfl) (fun _ => .nil) ?_
    exact Hold.of (r17 mn n (cI g_1 0) (cI g_1 1) (cI g_1 2) x y) (br17 mn n (cI g_1 0) (cI g_1 1) (cI g_1 2) x y hp)
  · cases h
def e18 : List SV → Option (List Prop × SV)
  | [.agg [.int .i64 mn, .sl 3 n g_1], .agg [.int .i64 x, .int .i64 y]] => some ([Row 3 n g_1, R64 n], .tup [.agg [SI (if M.timE mn n (cI g_1 0) (cI g_1 1) (cI g_1 2) x y = 0 then M.gLo mn n (cI g_1 0) (cI g_1 1) (cI g_1 2) x y else 0), SI (if M.timE mn n (cI g_1 0) (cI g_1 1) (cI g_1 2) x y = 0 then M.gHi mn n (cI g_1 0) (cI g_1 1) (cI g_1 2) x y else 0)], SI (M.timE mn n (cI g_1 0) (cI g_1 1) (cI g_1 2) x y)])
  | _ => none
def Rr18 (mn : Int) (n : Nat) (am pe ph : Nat → Int) (x y : Int) : Prop := (∀ (k : Nat), k < n → am k = am k ∧ pe k = pe k ∧ ph k = ph k) ∧ R64 (↑n : Int) ∧ ((!decide (M.modE mn n am pe ph = (0 : Int))) = true → (((0 : Int) = if M.timE mn n am pe ph x y = (0 : Int) then M.gLo mn n am pe ph x y else (0 : Int)) ∧ (0 : Int) = if M.timE mn n am pe ph x y = (0 : Int) then M.gHi mn n am pe ph x y else (0 : Int)) ∧ M.modE mn n am pe ph = M.timE mn n am pe ph x y) ∧ ((!decide (M.modE mn n am pe ph = (0 : Int))) = false → ((!M.within x y (0 : Int) (1000000000 : Int)) = true → (((0 : Int) = if M.timE mn n am pe ph x y = (0 : Int) then M.gLo mn n am pe ph x y else (0 : Int)) ∧ (0 : Int) = if M.timE mn n am pe ph x y = (0 : Int) then M.gHi mn n am pe ph x y else (0 : Int)) ∧ (3 : Int) = M.timE mn n am pe ph x y) ∧ ((!M.within x y (0 : Int) (1000000000 : Int)) = false → (∀ (k : Nat), k < n → am k = am k ∧ pe k = pe k ∧ ph k = ph k) ∧ M.timE mn n am pe ph x y = (0 : Int) ∧ ((M.gLo mn n am pe ph x y = if M.timE mn n am pe ph x y = (0 : Int) then M.gLo mn n am pe ph x y else (0 : Int)) ∧ M.gHi mn n am pe ph x y = if M.timE mn n am pe ph x y = (0 : Int) then M.gHi mn n am pe ph x y else (0 : Int)) ∧ (0 : Int) = M.timE mn n am pe ph x y))
theorem r18 (mn : Int) (n : Nat) (am pe ph : Nat → Int) (x y : Int) : V true [] [(16, pureE e16), (38, pureE e38), (46, pureE e46)] Try.f18 [0,1,2,3,4,5,6,10,15] [] [.agg [SI mn, .sl 3 n (fun k => [SI (am k), SI (pe k), SI (ph k)])], .agg [SI x, SI y]] (.tup [.agg [SI (if M.timE mn n am pe ph x y = 0 then M.gLo mn n am pe ph x y else 0), SI (if M.timE mn n am pe ph x y = 0 then M.gHi mn n am pe ph x y else 0)], SI (M.timE mn n am pe ph x y)]) = Rr18 mn n am pe ph x y := by kernel_rfl
theorem br18 (mn : Int) (n : Nat) (am pe ph : Nat → Int) (x y : Int) (hp : (R64 n) ∧ AllP []) : Rr18 mn n am pe ph x y := by
  unfold Rr18
  have hn := hp.1
  have e : M.timE mn n am pe ph x y = if M.modE mn n am pe ph = 0 then if M.within x y 0 1000000000 then 0 else 3 else M.modE mn n am pe ph := rfl
  by_cases h : M.modE mn n am pe ph = 0
  · cases h' : M.within x y 0 1000000000 <;> simp [h, h', hn, e]
  · simp [h, hn, e]
theorem s18 : PureOK PP 18 e18 := by
  intro xs ps res h hp
  unfold e18 at h
  split at h
  · rename_i mn n g_1 x y
    simp only [Option.some.injEq, Prod.mk.injEq] at h
    obtain ⟨rfl, rfl⟩ := h
    simp only [AllP.cons] at hp
    obtain ⟨Hg_1, hp⟩ := hp
    refine Spec.args (ys := [.agg [SI mn, .sl 3 n (fun k => [SI ((cI g_1 0) k), SI ((cI g_1 1) k), SI ((cI g_1 2) k)])], .agg [SI x, SI y]]) ?_ (.cons (.agg (.cons (.refl _) (.cons (.row Hg_1 fun _ => rfl) .nil))) (.cons (.refl _) .nil))
    refine enter (L := [0,1,2,3,4,5,6,10,15]) (LO := []) (E := []) (O := [(16, pureE e16), (38, pureE e38), (46, pureE e46)]) (ck := true) (.nil) (.cons (pureE_ok s16) (.cons (pureE_ok s38) (.cons (pureE_ok s46) (.nil)))) (k := 18) (f := Try.f18) (xs := [.agg [SI mn, .sl 3 n (fun k => [SI ((cI g_1 0) k), SI ((cI g_1 1) k), SI ((cI g_1 2) k)])], .agg [SI x, SI y]]) (r := (.tup [.agg [SI (if M.timE mn n (cI g_1 0) (cI g_1 1) (cI g_1 2) x y = 0 then M.gLo mn n (cI g_1 0) (cI g_1 1) (cI g_1 2) x y else 0), SI (if M.timE mn n (cI g_1 0) (cI g_1 1) (cI g_1 2) x y = 0 then M.gHi mn n (cI g_1 0) (cI g_1 1) (cI g_1 2) x y else 0)], SI (M.timE mn n (cI g_1 0) (cI g_1 1) (cI g_1 2) x y)])) (by kernel_rfl) (by kernel_rfl) (fun _ => .nil) ?_
    exact Hold.of (r18 mn n (cI g_1 0) (cI g_1 1) (cI g_1 2) x y) (br18 mn n (cI g_1 0) (cI g_1 1) (cI g_1 2) x y hp)
  · cases h
end Go.Proofs.Ytpbgkohljjmbhaa.Sep
/-
  Contracts of the ranges of the tide. No condition. (This text proves no statement by itself.)
-/
namespace Go.Proofs.Ytpbgkohljjmbhaa.Sep
open Go
set_option linter.unusedVariables false
set_option linter.unusedSimpArgs false
def lp19 (mn : Int) (n : Nat) (am pe ph : Nat → Int) : LoopS where
  ι := Nat
  β := Unit
  pre k := k ≤ n ∧ M.modE mn n am pe ph = 0
  μ k := n - k
  next k _ _ _ := k + 1
  out _ := ()
  early _ := false
  SA k := [(2, .ptr 0 0), (5, .ptr 1 0), (20, .sl 3 n (fun k => [SI (am k), SI (pe k), SI (ph k)])), (21, SI n), (22, SI k)]
  SH k := [(0, .cells [.top, .top]), (1, .cells [SI (mn - M.amS am k), SI (mn + M.amS am k)])]
  n0 := 2
  NA _ := [(2, .ptr 0 0), (5, .ptr 1 0)]
  NH _ := [(0, .cells [.top, .top]), (1, .cells [SI (mn - M.amS am n), SI (mn + M.amS am n)])]
  n1 := 2
  RA _ := []
  RH _ := []
def Rq19 (mn : Int) (n : Nat) (am pe ph : Nat → Int) (k : Nat) : Prop := (decide ((↑k : Int) < (↑n : Int)) = true → (0 : Int) ≤ (↑k : Int) ∧ (↑k : Int) < (↑n : Int) ∧ Int.toNat (↑k : Int) < n ∧ R64 (am (Int.toNat (↑k : Int)) * (-1 : Int)) ∧ R64 (am (Int.toNat (↑k : Int)) * (1 : Int)) ∧ R64 (mn - M.amS am k + am (Int.toNat (↑k : Int)) * (-1 : Int)) ∧ R64 (mn + M.amS am k + am (Int.toNat (↑k : Int)) * (1 : Int)) ∧ R64 ((↑k : Int) + (1 : Int)) ∧ (k + (1 : Nat) ≤ n ∧ M.modE mn n am pe ph = (0 : Int)) ∧ n - (k + (1 : Nat)) < n - k ∧ () = () ∧ (n = n ∧ ∀ (k : Nat), k < n → am k = am k ∧ pe k = pe k ∧ ph k = ph k) ∧ (↑n : Int) = (↑n : Int) ∧ (↑k : Int) + (1 : Int) = (↑(k + (1 : Nat)) : Int) ∧ mn - M.amS am k + am (Int.toNat (↑k : Int)) * (-1 : Int) = mn - M.amS am (k + (1 : Nat)) ∧ mn + M.amS am k + am (Int.toNat (↑k : Int)) * (1 : Int) = mn + M.amS am (k + (1 : Nat)) ∧ True) ∧ (decide ((↑k : Int) < (↑n : Int)) = false → false = false ∧ mn - M.amS am k = mn - M.amS am n ∧ mn + M.amS am k = mn + M.amS am n ∧ True)
theorem q19 (mn : Int) (n : Nat) (am pe ph : Nat → Int) (k : Nat) : VL true [] [(47, pureE e47), (48, pureE e48)] YS.none Try.f19 0 [0,1,2,3,4,5,7,11,20,21,22,23] [] 0 (lp19 mn n am pe ph) (k) = Rq19 mn n am pe ph k := by kernel_rfl
theorem peq19 (mn : Int) (n : Nat) (am pe ph : Nat → Int) (k : Nat) : (lp19 mn n am pe ph).pre (k) = (k ≤ n ∧ M.modE mn n am pe ph = (0 : Int)) := by kernel_rfl
theorem bq19 (mn : Int) (n : Nat) (am pe ph : Nat → Int) (k : Nat) (hp : k ≤ n ∧ M.modE mn n am pe ph = (0 : Int)) : Rq19 mn n am pe ph k := by
  unfold Rq19
  obtain ⟨hk, hm⟩ := id hp
  obtain ⟨m1, m2, m3, m4⟩ := M.modE_iff.1 hm
  simp only [Int.toNat_natCast, decide_eq_true_eq, decide_eq_false_iff_not]
  refine ⟨fun hlt => ?_, fun hlt => ?_⟩
  · obtain ⟨f1, f2, -⟩ := M.okP_iff.1 (m4 k (by omega))
    have l := M.amS_bd (k := k) (fun j hj => m4 j (by omega))
    have e : M.amS am (k + 1) = M.amS am k + am k := rfl
    rw [e]
    unfold R64
    repeat' apply And.intro
    all_goals first | omega | rfl | exact hm | trivial | (intro j hj; simp)
  · have e : k = n := by omega
    subst e; simp
theorem t19 (mn : Int) (n : Nat) (am pe ph : Nat → Int) {F : Fence} (hF : FOK F) (Y : YEnv PP YS.none) : ∀ Q A H nx, loopT false Try.f19.ntmps 0 (lp19 mn n am pe ph) (fun _ _ _ => (0 : Nat)) Q A H nx → WPS Y F Try.f19.ntmps 0 (.block 0 (blkAt 0 Try.f19)) Q A H nx :=
  loopW (E := []) (.nil) (O := [(47, pureE e47), (48, pureE e48)]) (.cons (pureE_ok s47) (.cons (pureE_ok s48) (.nil))) (ck := true) (L := [0,1,2,3,4,5,7,11,20,21,22,23]) (f := Try.f19) (m := 0) (id := 0) (l := (lp19 mn n am pe ph)) (LI := fun i => []) Y hF (by kernel_rfl) (fun _ => .nil) (by
    rintro k hp
    exact Hold.of (q19 mn n am pe ph k) (bq19 mn n am pe ph k ((peq19 mn n am pe ph k).mp hp)))
def e19 : List SV → Option (List Prop × SV)
  | [.agg [.int .i64 mn, .sl 3 n g_1]] => some ([Row 3 n g_1, R64 n], .tup [.agg [SI (if M.modE mn n (cI g_1 0) (cI g_1 1) (cI g_1 2) = 0 then mn - M.amS (cI g_1 0) n else 0), SI (if M.modE mn n (cI g_1 0) (cI g_1 1) (cI g_1 2) = 0 then mn + M.amS (cI g_1 0) n else 0)], SI (M.modE mn n (cI g_1 0) (cI g_1 1) (cI g_1 2))])
  | _ => none
def Rr19 (mn : Int) (n : Nat) (am pe ph : Nat → Int) : Prop := (∀ (k : Nat), k < n → am k = am k ∧ pe k = pe k ∧ ph k = ph k) ∧ R64 (↑n : Int) ∧ ((!decide (M.modE mn n am pe ph = (0 : Int))) = true → (((0 : Int) = if M.modE mn n am pe ph = (0 : Int) then mn - M.amS am n else (0 : Int)) ∧ (0 : Int) = if M.modE mn n am pe ph = (0 : Int) then mn + M.amS am n else (0 : Int)) ∧ M.modE mn n am pe ph = M.modE mn n am pe ph) ∧ ((!decide (M.modE mn n am pe ph = (0 : Int))) = false → ((0 : Nat) ≤ n ∧ M.modE mn n am pe ph = (0 : Int)) ∧ ((n = n ∧ ∀ (k : Nat), k < n → am k = am k ∧ pe k = pe k ∧ ph k = ph k) ∧ (↑n : Int) = (↑n : Int) ∧ (0 : Int) = (↑(0 : Nat) : Int) ∧ mn = mn - M.amS am (0 : Nat) ∧ mn = mn + M.amS am (0 : Nat) ∧ True) ∧ (false = false → ((mn - M.amS am n = if M.modE mn n am pe ph = (0 : Int) then mn - M.amS am n else (0 : Int)) ∧ mn + M.amS am n = if M.modE mn n am pe ph = (0 : Int) then mn + M.amS am n else (0 : Int)) ∧ (0 : Int) = M.modE mn n am pe ph) ∧ (false = true → False))
theorem r19 (mn : Int) (n : Nat) (am pe ph : Nat → Int) : V true [] [(14, pureE e14), (47, pureE e47)] Try.f19 [0,1,2,3,4,5,7,11,20,21,22,23] [(0, loopT false Try.f19.ntmps 0 (lp19 mn n am pe ph) (fun _ _ _ => (0 : Nat)))] [.agg [SI mn, .sl 3 n (fun k => [SI (am k), SI (pe k), SI (ph k)])]] (.tup [.agg [SI (if M.modE mn n am pe ph = 0 then mn - M.amS am n else 0), SI (if M.modE mn n am pe ph = 0 then mn + M.amS am n else 0)], SI (M.modE mn n am pe ph)]) = Rr19 mn n am pe ph := by kernel_rfl
theorem br19 (mn : Int) (n : Nat) (am pe ph : Nat → Int) (hp : (R64 n) ∧ AllP []) : Rr19 mn n am pe ph := by
  unfold Rr19
  have hn := hp.1
  by_cases h : M.modE mn n am pe ph = 0
  · simp [h, hn, M.amS]
  · simp [h, hn]
theorem s19 : PureOK PP 19 e19 := by
  intro xs ps res h hp
  unfold e19 at h
  split at h
  · rename_i mn n g_1
    simp only [Option.some.injEq, Prod.mk.injEq] at h
    obtain ⟨rfl, rfl⟩ := h
    simp only [AllP.cons] at hp
    obtain ⟨Hg_1, hp⟩ := hp
    refine Spec.args (ys := [.agg [SI mn, .sl 3 n (fun k => [SI ((cI g_1 0) k), SI ((cI g_1 1) k), SI ((cI g_1 2) k)])]]) ?_ (.cons (.agg (.cons (.refl _) (.cons (.row Hg_1 fun _ => rfl) .nil))) .nil)
    refine enter (L := [0,1,2,3,4,5,7,11,20,21,22,23]) (LO := [(0, loopT false Try.f19.ntmps 0 (lp19 mn n (cI g_1 0) (cI g_1 1) (cI g_1 2)) (fun _ _ _ => (0 : Nat)))]) (E := []) (O := [(14, pureE e14), (47, pureE e47)]) (ck := true) (.nil) (.cons (pureE_ok s14) (.cons (pureE_ok s47) (.nil))) (k := 19) (f := Try.f19) (xs := [.agg [SI mn, .sl 3 n (fun k => [SI ((cI g_1 0) k), SI ((cI g_1 1) k), SI ((cI g_1 2) k)])]]) (r := (.tup [.agg [SI (if M.modE mn n (cI g_1 0) (cI g_1 1) (cI g_1 2) = 0 then mn - M.amS (cI g_1 0) n else 0), SI (if M.modE mn n (cI g_1 0) (cI g_1 1) (cI g_1 2) = 0 then mn + M.amS (cI g_1 0) n else 0)], SI (M.modE mn n (cI g_1 0) (cI g_1 1) (cI g_1 2))])) (by kernel_rfl) (by kernel_rfl) (fun Y => .cons (by kernel_rfl) (t19 mn n (cI g_1 0) (cI g_1 1) (cI g_1 2) FOK.wide Y) (.nil)) ?_
    exact Hold.of (r19 mn n (cI g_1 0) (cI g_1 1) (cI g_1 2)) (br19 mn n (cI g_1 0) (cI g_1 1) (cI g_1 2) hp)
  · cases h
def lp20 (mn : Int) (n : Nat) (am pe ph : Nat → Int) : LoopS where
  ι := Nat
  β := Unit
  pre k := k ≤ n ∧ M.modE mn n am pe ph = 0
  μ k := n - k
  next k _ _ _ := k + 1
  out _ := ()
  early _ := false
  SA k := [(1, .ptr 0 0), (2, .ptr 1 0), (5, SI (M.amS am k)), (6, SI k)]
  SH k := [(0, .cells [SI mn, .sl 3 n (fun k => [SI (am k), SI (pe k), SI (ph k)])]), (1, .cells [.top, .top])]
  n0 := 2
  NA _ := [(1, .ptr 0 0), (2, .ptr 1 0), (5, SI (M.amS am n))]
  NH _ := [(0, .cells [SI mn, .sl 3 n (fun k => [SI (am k), SI (pe k), SI (ph k)])]), (1, .cells [.top, .top])]
  n1 := 2
  RA _ := []
  RH _ := []
def Rq20 (mn : Int) (n : Nat) (am pe ph : Nat → Int) (k : Nat) : Prop := (decide ((↑k : Int) < (↑n : Int)) = true → (0 : Int) ≤ (↑k : Int) ∧ (↑k : Int) < (↑n : Int) ∧ Int.toNat (↑k : Int) < n ∧ R64 (M.amS am k + am (Int.toNat (↑k : Int))) ∧ R64 ((↑k : Int) + (1 : Int)) ∧ (k + (1 : Nat) ≤ n ∧ M.modE mn n am pe ph = (0 : Int)) ∧ n - (k + (1 : Nat)) < n - k ∧ () = () ∧ M.amS am k + am (Int.toNat (↑k : Int)) = M.amS am (k + (1 : Nat)) ∧ (↑k : Int) + (1 : Int) = (↑(k + (1 : Nat)) : Int) ∧ mn = mn ∧ (n = n ∧ ∀ (k : Nat), k < n → am k = am k ∧ pe k = pe k ∧ ph k = ph k) ∧ True) ∧ (decide ((↑k : Int) < (↑n : Int)) = false → false = false ∧ M.amS am k = M.amS am n ∧ mn = mn ∧ (n = n ∧ ∀ (k : Nat), k < n → am k = am k ∧ pe k = pe k ∧ ph k = ph k) ∧ True)
theorem q20 (mn : Int) (n : Nat) (am pe ph : Nat → Int) (k : Nat) : VL true [] [] YS.none Try.f20 0 [0,1,2,3,4,5,6,10,17] [] 0 (lp20 mn n am pe ph) (k) = Rq20 mn n am pe ph k := by kernel_rfl
theorem peq20 (mn : Int) (n : Nat) (am pe ph : Nat → Int) (k : Nat) : (lp20 mn n am pe ph).pre (k) = (k ≤ n ∧ M.modE mn n am pe ph = (0 : Int)) := by kernel_rfl
theorem bq20 (mn : Int) (n : Nat) (am pe ph : Nat → Int) (k : Nat) (hp : k ≤ n ∧ M.modE mn n am pe ph = (0 : Int)) : Rq20 mn n am pe ph k := by
  unfold Rq20
  obtain ⟨hk, hm⟩ := id hp
  obtain ⟨m1, m2, m3, m4⟩ := M.modE_iff.1 hm
  simp only [Int.toNat_natCast, decide_eq_true_eq, decide_eq_false_iff_not]
  refine ⟨fun hlt => ?_, fun hlt => ?_⟩
  · obtain ⟨f1, f2, -⟩ := M.okP_iff.1 (m4 k (by omega))
    have l := M.amS_bd (k := k) (fun j hj => m4 j (by omega))
    have e : M.amS am (k + 1) = M.amS am k + am k := rfl
    rw [e]
    unfold R64
    repeat' apply And.intro
    all_goals first | omega | rfl | exact hm | trivial | (intro j hj; simp)
  · have e : k = n := by omega
    subst e; simp
theorem t20 (mn : Int) (n : Nat) (am pe ph : Nat → Int) {F : Fence} (hF : FOK F) (Y : YEnv PP YS.none) : ∀ Q A H nx, loopT false Try.f20.ntmps 0 (lp20 mn n am pe ph) (fun _ _ _ => (0 : Nat)) Q A H nx → WPS Y F Try.f20.ntmps 0 (.block 0 (blkAt 0 Try.f20)) Q A H nx :=
  loopW (E := []) (.nil) (O := []) (.nil) (ck := true) (L := [0,1,2,3,4,5,6,10,17]) (f := Try.f20) (m := 0) (id := 0) (l := (lp20 mn n am pe ph)) (LI := fun i => []) Y hF (by kernel_rfl) (fun _ => .nil) (by
    rintro k hp
    exact Hold.of (q20 mn n am pe ph k) (bq20 mn n am pe ph k ((peq20 mn n am pe ph k).mp hp)))
def e20 : List SV → Option (List Prop × SV)
  | [.agg [.int .i64 mn, .sl 3 n g_1]] => some ([Row 3 n g_1, R64 n], .tup [.agg [SI (if M.modE mn n (cI g_1 0) (cI g_1 1) (cI g_1 2) = 0 then mn - M.amS (cI g_1 0) n else 0), SI (if M.modE mn n (cI g_1 0) (cI g_1 1) (cI g_1 2) = 0 then mn + M.amS (cI g_1 0) n else 0)], SI (M.modE mn n (cI g_1 0) (cI g_1 1) (cI g_1 2))])
  | _ => none
def Rr20 (mn : Int) (n : Nat) (am pe ph : Nat → Int) : Prop := (∀ (k : Nat), k < n → am k = am k ∧ pe k = pe k ∧ ph k = ph k) ∧ R64 (↑n : Int) ∧ ((!decide (M.modE mn n am pe ph = (0 : Int))) = true → (((0 : Int) = if M.modE mn n am pe ph = (0 : Int) then mn - M.amS am n else (0 : Int)) ∧ (0 : Int) = if M.modE mn n am pe ph = (0 : Int) then mn + M.amS am n else (0 : Int)) ∧ M.modE mn n am pe ph = M.modE mn n am pe ph) ∧ ((!decide (M.modE mn n am pe ph = (0 : Int))) = false → ((0 : Nat) ≤ n ∧ M.modE mn n am pe ph = (0 : Int)) ∧ ((0 : Int) = M.amS am (0 : Nat) ∧ (0 : Int) = (↑(0 : Nat) : Int) ∧ mn = mn ∧ (n = n ∧ ∀ (k : Nat), k < n → am k = am k ∧ pe k = pe k ∧ ph k = ph k) ∧ True) ∧ (false = false → R64 (mn - M.amS am n) ∧ R64 (mn + M.amS am n) ∧ ((mn - M.amS am n = if M.modE mn n am pe ph = (0 : Int) then mn - M.amS am n else (0 : Int)) ∧ mn + M.amS am n = if M.modE mn n am pe ph = (0 : Int) then mn + M.amS am n else (0 : Int)) ∧ (0 : Int) = M.modE mn n am pe ph) ∧ (false = true → False))
theorem r20 (mn : Int) (n : Nat) (am pe ph : Nat → Int) : V true [] [(16, pureE e16)] Try.f20 [0,1,2,3,4,5,6,10,17] [(0, loopT false Try.f20.ntmps 0 (lp20 mn n am pe ph) (fun _ _ _ => (0 : Nat)))] [.agg [SI mn, .sl 3 n (fun k => [SI (am k), SI (pe k), SI (ph k)])]] (.tup [.agg [SI (if M.modE mn n am pe ph = 0 then mn - M.amS am n else 0), SI (if M.modE mn n am pe ph = 0 then mn + M.amS am n else 0)], SI (M.modE mn n am pe ph)]) = Rr20 mn n am pe ph := by kernel_rfl
theorem br20 (mn : Int) (n : Nat) (am pe ph : Nat → Int) (hp : (R64 n) ∧ AllP []) : Rr20 mn n am pe ph := by
  unfold Rr20
  have hn := hp.1
  by_cases h : M.modE mn n am pe ph = 0
  · obtain ⟨m1, m2, m3, m4⟩ := M.modE_iff.1 h
    have l := M.amS_bd (k := n) m4
    have r1 : R64 (mn - M.amS am n) := by unfold R64; omega
    have r2 : R64 (mn + M.amS am n) := by unfold R64; omega
    simp [h, hn, M.amS, r1, r2]
  · simp [h, hn]
theorem s20 : PureOK PP 20 e20 := by
  intro xs ps res h hp
  unfold e20 at h
  split at h
  · rename_i mn n g_1
    simp only [Option.some.injEq, Prod.mk.injEq] at h
    obtain ⟨rfl, rfl⟩ := h
    simp only [AllP.cons] at hp
    obtain ⟨Hg_1, hp⟩ := hp
    refine Spec.args (ys := [.agg [SI mn, .sl 3 n (fun k => [SI ((cI g_1 0) k), SI ((cI g_1 1) k), SI ((cI g_1 2) k)])]]) ?_ (.cons (.agg (.cons (.refl _) (.cons (.row Hg_1 fun _ => rfl) .nil))) .nil)
    refine enter (L := [0,1,2,3,4,5,6,10,17]) (LO := [(0, loopT false Try.f20.ntmps 0 (lp20 mn n (cI g_1 0) (cI g_1 1) (cI g_1 2)) (fun _ _ _ => (0 : Nat)))]) (E := []) (O := [(16, pureE e16)]) (ck := true) (.nil) (.cons (pureE_ok s16) (.nil)) (k := 20) (f := Try.f20) (xs := [.agg [SI mn, .sl 3 n (fun k => [SI ((cI g_1 0) k), SI ((cI g_1 1) k), SI ((cI g_1 2) k)])]]) (r := (.tup [.agg [SI (if M.modE mn n (cI g_1 0) (cI g_1 1) (cI g_1 2) = 0 then mn - M.amS (cI g_1 0) n else 0), SI (if M.modE mn n (cI g_1 0) (cI g_1 1) (cI g_1 2) = 0 then mn + M.amS (cI g_1 0) n else 0)], SI (M.modE mn n (cI g_1 0) (cI g_1 1) (cI g_1 2))])) (by kernel_rfl) (by kernel_rfl) (fun Y => .cons (by kernel_rfl) (t20 mn n (cI g_1 0) (cI g_1 1) (cI g_1 2) FOK.wide Y) (.nil)) ?_
    exact Hold.of (r20 mn n (cI g_1 0) (cI g_1 1) (cI g_1 2)) (br20 mn n (cI g_1 0) (cI g_1 1) (cI g_1 2) hp)
  · cases h
def e64 : EntB
  | [.lit (.slice none 0 0), .int .i64 n], [] => some ([0 ≤ n, n ≤ 300], .vec 0 3 0 0, [.row 3 0 (fun _ => [SI 0, SI 0, SI 0])])
  | _, _ => none
def Rr64 (n : Int) : Prop := (decide (n < (0 : Int)) = true → False) ∧ (decide (n < (0 : Int)) = false → R64 ((↑(0 : Nat) : Int) - (↑(0 : Nat) : Int)) ∧ R64 (n - ((↑(0 : Nat) : Int) - (↑(0 : Nat) : Int))) ∧ (decide ((0 : Int) < n - ((↑(0 : Nat) : Int) - (↑(0 : Nat) : Int))) = true → (↑(0 : Nat) : Int) = (0 : Int) ∧ (0 : Int) ≤ n - ((↑(0 : Nat) : Int) - (↑(0 : Nat) : Int)) ∧ n - ((↑(0 : Nat) : Int) - (↑(0 : Nat) : Int)) ≤ (140737488355328 : Int) ∧ (n - ((↑(0 : Nat) : Int) - (↑(0 : Nat) : Int))) * (↑(24 : Nat) : Int) ≤ (140737488355328 : Int) ∧ (0 : Int) ≤ (↑(0 : Nat) : Int) ∧ (↑(0 : Nat) : Int) ≤ (↑(Int.toNat (n - ((↑(0 : Nat) : Int) - (↑(0 : Nat) : Int)))) : Int) ∧ (0 : Nat) + (0 : Nat) = (0 : Nat) ∧ Int.toNat (↑(0 : Nat) : Int) - (0 : Nat) = (0 : Nat) ∧ (0 : Nat) ≤ Int.toNat (n - ((↑(0 : Nat) : Int) - (↑(0 : Nat) : Int))) ∧ (∀ (k : Nat), k < (0 : Nat) → (0 : Int) = (0 : Int) ∧ (0 : Int) = (0 : Int) ∧ (0 : Int) = (0 : Int)) ∧ True) ∧ (decide ((0 : Int) < n - ((↑(0 : Nat) : Int) - (↑(0 : Nat) : Int))) = false → (0 : Nat) = (0 : Nat) ∧ (0 : Nat) = (0 : Nat) ∧ True))
theorem r64 (n : Int) : VN true [] [] Try.f64 [0,1,4,6,16] [] [.lit (.slice none 0 0), SI n] [] (.vec 0 3 0 0) [.row 3 0 (fun _ => [SI 0, SI 0, SI 0])] = Rr64 n := by kernel_rfl
theorem br64 (n : Int) (hp : (0 ≤ n) ∧ (n ≤ 300) ∧ AllP []) : Rr64 n := by
  unfold Rr64
  obtain ⟨h1, h2, -⟩ := hp
  unfold R64
  simp only [decide_eq_true_eq, decide_eq_false_iff_not]
  refine ⟨fun h => by omega, fun _ => ⟨by omega, by omega, fun h => ?_, fun h => ?_⟩⟩
  all_goals simp only [true_and, and_true]
  repeat' apply And.intro
  all_goals first | omega | trivial | rfl | (intro j hj; omega)
theorem s64 : SpecOK PP 64 e64 := by
  intro xs Hs ps res Hs1 h hp
  unfold e64 at h
  split at h
  · rename_i n
    simp only [Option.some.injEq, Prod.mk.injEq] at h
    obtain ⟨rfl, rfl, rfl⟩ := h
    simp only [AllP.cons] at hp
    refine enterN (L := [0,1,4,6,16]) (LO := []) (E := []) (O := []) (ck := true) (.nil) (.nil) (k := 64) (f := Try.f64) (xs := [.lit (.slice none 0 0), SI n]) (Hs := []) (Hs' := [.row 3 0 (fun _ => [SI 0, SI 0, SI 0])]) (r := (.vec 0 3 0 0)) (by kernel_rfl) (by kernel_rfl) rfl (fun _ => .nil) ?_
    exact Hold.of (r64 n) (br64 n hp)
  · cases h
end Go.Proofs.Ytpbgkohljjmbhaa.Sep
/-
  Two lists joined. Plain Lean. No condition. (This text proves no statement by itself.)
-/
namespace Go.Proofs.Ytpbgkohljjmbhaa.M
open Go
/-- How many elements the first k rows have. -/
def tot (m : Nat → Nat) : Nat → Nat
  | 0 => 0
  | k + 1 => tot m k + m k
/-- The element j of the first k rows, joined. -/
def cat (m : Nat → Nat) (f : Nat → Nat → Int) : Nat → Nat → Int
  | 0, _ => 0
  | k + 1, j => bif decide (j < tot m k) then cat m f k j else f k (j - tot m k)
theorem tot_bd {m : Nat → Nat} {b : Nat} : ∀ {k : Nat}, (∀ i, i < k → m i ≤ b) → tot m k ≤ b * k
  | 0, _ => by simp [tot]
  | k + 1, h => by
    have h1 := tot_bd (k := k) (fun i hi => h i (by omega))
    have h2 := h k (by omega)
    simp only [tot, Nat.mul_add, Nat.mul_one]
    omega
theorem tot_mono {m : Nat → Nat} {k n : Nat} (h : k ≤ n) : tot m k ≤ tot m n := by
  induction n with
  | zero => have : k = 0 := by omega
            subst this; exact Nat.le_refl _
  | succ n ih =>
    by_cases e : k = n + 1
    · subst e; exact Nat.le_refl _
    · have := ih (by omega)
      simp only [tot]; omega
end Go.Proofs.Ytpbgkohljjmbhaa.M
/-
  Contracts of joined lists. No condition. (This text proves no statement by itself.)
-/
namespace Go.Proofs.Ytpbgkohljjmbhaa.Sep
open Go
set_option linter.unusedVariables false
set_option linter.unusedSimpArgs false
def lp49a (nl : Nat) (m : Nat → Nat) (V0 V1 V2 : Nat → Nat → Int) : LoopS where
  ι := Nat
  β := Unit
  pre k := (k ≤ nl ∧ nl ≤ 3) ∧ ∀ i, i < nl → m i ≤ 100
  μ k := nl - k
  next k _ _ _ := k + 1
  out _ := ()
  early _ := false
  SA k := [(0, .sl 1 nl (fun i => [.sl 3 (m i) (fun k => [SI (V0 i k), SI (V1 i k), SI (V2 i k)])])), (3, SI (M.tot m k)), (9, .sl 1 nl (fun i => [.sl 3 (m i) (fun k => [SI (V0 i k), SI (V1 i k), SI (V2 i k)])])), (10, SI nl), (11, SI k)]
  SH k := []
  n0 := 0
  NA _ := [(0, .sl 1 nl (fun i => [.sl 3 (m i) (fun k => [SI (V0 i k), SI (V1 i k), SI (V2 i k)])])), (3, SI (M.tot m nl))]
  NH _ := []
  n1 := 0
  RA _ := []
  RH _ := []
def Rq49a (nl : Nat) (m : Nat → Nat) (V0 V1 V2 : Nat → Nat → Int) (k : Nat) : Prop := (decide ((↑k : Int) < (↑nl : Int)) = true → (0 : Int) ≤ (↑k : Int) ∧ (↑k : Int) < (↑nl : Int) ∧ Int.toNat (↑k : Int) < nl ∧ R64 ((↑(M.tot m k) : Int) + (↑(m (Int.toNat (↑k : Int))) : Int)) ∧ (decide ((↑(M.tot m k) : Int) + (↑(m (Int.toNat (↑k : Int))) : Int) < (0 : Int)) = true → False) ∧ (decide ((↑(M.tot m k) : Int) + (↑(m (Int.toNat (↑k : Int))) : Int) < (0 : Int)) = false → R64 ((↑k : Int) + (1 : Int)) ∧ ((k + (1 : Nat) ≤ nl ∧ nl ≤ (3 : Nat)) ∧ ∀ (i : Nat), i < nl → m i ≤ (100 : Nat)) ∧ nl - (k + (1 : Nat)) < nl - k ∧ () = () ∧ (nl = nl ∧ ∀ (k : Nat), k < nl → m k = m k ∧ ∀ (k_1 : Nat), k_1 < m k → V0 k k_1 = V0 k k_1 ∧ V1 k k_1 = V1 k k_1 ∧ V2 k k_1 = V2 k k_1) ∧ (↑(M.tot m k) : Int) + (↑(m (Int.toNat (↑k : Int))) : Int) = (↑(M.tot m (k + (1 : Nat))) : Int) ∧ (nl = nl ∧ ∀ (k : Nat), k < nl → m k = m k ∧ ∀ (k_1 : Nat), k_1 < m k → V0 k k_1 = V0 k k_1 ∧ V1 k k_1 = V1 k k_1 ∧ V2 k k_1 = V2 k k_1) ∧ (↑nl : Int) = (↑nl : Int) ∧ (↑k : Int) + (1 : Int) = (↑(k + (1 : Nat)) : Int) ∧ True)) ∧ (decide ((↑k : Int) < (↑nl : Int)) = false → false = false ∧ (nl = nl ∧ ∀ (k : Nat), k < nl → m k = m k ∧ ∀ (k_1 : Nat), k_1 < m k → V0 k k_1 = V0 k k_1 ∧ V1 k k_1 = V1 k k_1 ∧ V2 k k_1 = V2 k k_1) ∧ (↑(M.tot m k) : Int) = (↑(M.tot m nl) : Int) ∧ True)
theorem q49a (nl : Nat) (m : Nat → Nat) (V0 V1 V2 : Nat → Nat → Int) (k : Nat) : VL true [] [] YS.none Try.f49 0 [0,2,3,5,6,8,9,10,11,12,20,25,26,27,28] [] 0 (lp49a nl m V0 V1 V2) (k) = Rq49a nl m V0 V1 V2 k := by kernel_rfl
theorem peq49a (nl : Nat) (m : Nat → Nat) (V0 V1 V2 : Nat → Nat → Int) (k : Nat) : (lp49a nl m V0 V1 V2).pre (k) = ((k ≤ nl ∧ nl ≤ (3 : Nat)) ∧ ∀ (i : Nat), i < nl → m i ≤ (100 : Nat)) := by kernel_rfl
theorem bq49a (nl : Nat) (m : Nat → Nat) (V0 V1 V2 : Nat → Nat → Int) (k : Nat) (hp : (k ≤ nl ∧ nl ≤ (3 : Nat)) ∧ ∀ (i : Nat), i < nl → m i ≤ (100 : Nat)) : Rq49a nl m V0 V1 V2 k := by
  unfold Rq49a
  obtain ⟨⟨hk, hn⟩, hm⟩ := id hp
  have hb := M.tot_bd (k := k) (b := 100) (m := m) (fun i hi => hm i (by omega))
  simp only [Int.toNat_natCast, decide_eq_true_eq, decide_eq_false_iff_not]
  refine ⟨fun hlt => ?_, fun hlt => ?_⟩
  · have h1 := hm k (by omega)
    have e : M.tot m (k + 1) = M.tot m k + m k := rfl
    simp only [e]
    unfold R64
    repeat' first | apply And.intro | intro _
    all_goals first | omega | rfl | trivial | exact hm _ (by omega)
  · have e : k = nl := by omega
    subst e; simp
theorem t49a (nl : Nat) (m : Nat → Nat) (V0 V1 V2 : Nat → Nat → Int) {F : Fence} (hF : FOK F) (Y : YEnv PP YS.none) : ∀ Q A H nx, loopT false Try.f49.ntmps 0 (lp49a nl m V0 V1 V2) (fun _ _ _ => (0 : Nat)) Q A H nx → WPS Y F Try.f49.ntmps 0 (.block 0 (blkAt 0 Try.f49)) Q A H nx :=
  loopW (E := []) (.nil) (O := []) (.nil) (ck := true) (L := [0,2,3,5,6,8,9,10,11,12,20,25,26,27,28]) (f := Try.f49) (m := 0) (id := 0) (l := (lp49a nl m V0 V1 V2)) (LI := fun i => []) Y hF (by kernel_rfl) (fun _ => .nil) (by
    rintro k hp
    exact Hold.of (q49a nl m V0 V1 V2 k) (bq49a nl m V0 V1 V2 k ((peq49a nl m V0 V1 V2 k).mp hp)))
def lp49b (nl : Nat) (m : Nat → Nat) (V0 V1 V2 : Nat → Nat → Int) : LoopS where
  ι := Nat
  β := Unit
  pre k := (k ≤ nl ∧ nl ≤ 3) ∧ ∀ i, i < nl → m i ≤ 100
  μ k := nl - k
  next k _ _ _ := k + 1
  out _ := ()
  early _ := false
  SA k := [(6, .vec 0 3 0 (M.tot m k)), (25, .sl 1 nl (fun i => [.sl 3 (m i) (fun k => [SI (V0 i k), SI (V1 i k), SI (V2 i k)])])), (26, SI nl), (27, SI k)]
  SH k := [(0, .row 3 (M.tot m k) (fun j => [SI (M.cat m V0 k j), SI (M.cat m V1 k j), SI (M.cat m V2 k j)]))]
  n0 := 1
  NA _ := [(6, .vec 0 3 0 (M.tot m nl))]
  NH _ := [(0, .row 3 (M.tot m nl) (fun j => [SI (M.cat m V0 nl j), SI (M.cat m V1 nl j), SI (M.cat m V2 nl j)]))]
  n1 := 1
  RA _ := []
  RH _ := []
def Rq49b (nl : Nat) (m : Nat → Nat) (V0 V1 V2 : Nat → Nat → Int) (k : Nat) : Prop := (decide ((↑k : Int) < (↑nl : Int)) = true → (0 : Int) ≤ (↑k : Int) ∧ (↑k : Int) < (↑nl : Int) ∧ Int.toNat (↑k : Int) < nl ∧ (∀ (k_1 : Nat), k_1 < m (Int.toNat (↑k : Int)) → true = true) ∧ M.tot m k ≤ M.tot m k ∧ (M.tot m k + m (Int.toNat (↑k : Int))) * (24 : Nat) ≤ (140737488355328 : Nat) ∧ R64 ((↑k : Int) + (1 : Int)) ∧ ((k + (1 : Nat) ≤ nl ∧ nl ≤ (3 : Nat)) ∧ ∀ (i : Nat), i < nl → m i ≤ (100 : Nat)) ∧ nl - (k + (1 : Nat)) < nl - k ∧ () = () ∧ (0 : Nat) = (0 : Nat) ∧ M.tot m k + m (Int.toNat (↑k : Int)) = M.tot m (k + (1 : Nat)) ∧ (nl = nl ∧ ∀ (k : Nat), k < nl → m k = m k ∧ ∀ (k_1 : Nat), k_1 < m k → V0 k k_1 = V0 k k_1 ∧ V1 k k_1 = V1 k k_1 ∧ V2 k k_1 = V2 k k_1) ∧ (↑nl : Int) = (↑nl : Int) ∧ (↑k : Int) + (1 : Int) = (↑(k + (1 : Nat)) : Int) ∧ M.tot m (k + (1 : Nat)) ≤ M.tot m k + m (Int.toNat (↑k : Int)) ∧ (∀ (k_1 : Nat), k_1 < M.tot m (k + (1 : Nat)) → (bif decide (k_1 < M.tot m k) then M.cat m V0 k k_1 else V0 (Int.toNat (↑k : Int)) (k_1 - M.tot m k)) = M.cat m V0 (k + (1 : Nat)) k_1 ∧ (bif decide (k_1 < M.tot m k) then M.cat m V1 k k_1 else V1 (Int.toNat (↑k : Int)) (k_1 - M.tot m k)) = M.cat m V1 (k + (1 : Nat)) k_1 ∧ (bif decide (k_1 < M.tot m k) then M.cat m V2 k k_1 else V2 (Int.toNat (↑k : Int)) (k_1 - M.tot m k)) = M.cat m V2 (k + (1 : Nat)) k_1) ∧ True) ∧ (decide ((↑k : Int) < (↑nl : Int)) = false → false = false ∧ (0 : Nat) = (0 : Nat) ∧ M.tot m k = M.tot m nl ∧ M.tot m nl ≤ M.tot m k ∧ (∀ (k_1 : Nat), k_1 < M.tot m nl → M.cat m V0 k k_1 = M.cat m V0 nl k_1 ∧ M.cat m V1 k k_1 = M.cat m V1 nl k_1 ∧ M.cat m V2 k k_1 = M.cat m V2 nl k_1) ∧ True)
theorem q49b (nl : Nat) (m : Nat → Nat) (V0 V1 V2 : Nat → Nat → Int) (k : Nat) : VL true [] [] YS.none Try.f49 0 [0,2,3,5,6,8,9,10,11,12,20,25,26,27,28] [] 2 (lp49b nl m V0 V1 V2) (k) = Rq49b nl m V0 V1 V2 k := by kernel_rfl
theorem peq49b (nl : Nat) (m : Nat → Nat) (V0 V1 V2 : Nat → Nat → Int) (k : Nat) : (lp49b nl m V0 V1 V2).pre (k) = ((k ≤ nl ∧ nl ≤ (3 : Nat)) ∧ ∀ (i : Nat), i < nl → m i ≤ (100 : Nat)) := by kernel_rfl
theorem bq49b (nl : Nat) (m : Nat → Nat) (V0 V1 V2 : Nat → Nat → Int) (k : Nat) (hp : (k ≤ nl ∧ nl ≤ (3 : Nat)) ∧ ∀ (i : Nat), i < nl → m i ≤ (100 : Nat)) : Rq49b nl m V0 V1 V2 k := by
  unfold Rq49b
  obtain ⟨⟨hk, hn⟩, hm⟩ := id hp
  have hb := M.tot_bd (k := k) (b := 100) (m := m) (fun i hi => hm i (by omega))
  simp only [Int.toNat_natCast, decide_eq_true_eq, decide_eq_false_iff_not]
  refine ⟨fun hlt => ?_, fun hlt => ?_⟩
  · have h1 := hm k (by omega)
    have e : M.tot m (k + 1) = M.tot m k + m k := rfl
    simp only [e]
    unfold R64
    repeat' first | apply And.intro | intro _
    all_goals first | omega | rfl | trivial | exact hm _ (by omega)
  · have e : k = nl := by omega
    subst e; simp
theorem t49b (nl : Nat) (m : Nat → Nat) (V0 V1 V2 : Nat → Nat → Int) {F : Fence} (hF : FOK F) (Y : YEnv PP YS.none) : ∀ Q A H nx, loopT false Try.f49.ntmps 0 (lp49b nl m V0 V1 V2) (fun _ _ _ => (0 : Nat)) Q A H nx → WPS Y F Try.f49.ntmps 0 (.block 2 (blkAt 2 Try.f49)) Q A H nx :=
  loopW (E := []) (.nil) (O := []) (.nil) (ck := true) (L := [0,2,3,5,6,8,9,10,11,12,20,25,26,27,28]) (f := Try.f49) (m := 0) (id := 2) (l := (lp49b nl m V0 V1 V2)) (LI := fun i => []) Y hF (by kernel_rfl) (fun _ => .nil) (by
    rintro k hp
    exact Hold.of (q49b nl m V0 V1 V2 k) (bq49b nl m V0 V1 V2 k ((peq49b nl m V0 V1 V2 k).mp hp)))
def e49 : List SV → Option (List Prop × SV)
  | [.sl 1 nl G_1] => some ([RowN 3 nl G_1, nl ≤ 3, ∀ i, i < nl → (rN G_1) i ≤ 100], .sl 3 (M.tot (rN G_1) nl) (fun j => [SI (M.cat (rN G_1) (rC G_1 0) nl j), SI (M.cat (rN G_1) (rC G_1 1) nl j), SI (M.cat (rN G_1) (rC G_1 2) nl j)]))
  | _ => none
def Rr49 (nl : Nat) (m : Nat → Nat) (V0 V1 V2 : Nat → Nat → Int) : Prop := (((0 : Nat) ≤ nl ∧ nl ≤ (3 : Nat)) ∧ ∀ (i : Nat), i < nl → m i ≤ (100 : Nat)) ∧ ((nl = nl ∧ ∀ (k : Nat), k < nl → m k = m k ∧ ∀ (k_1 : Nat), k_1 < m k → V0 k k_1 = V0 k k_1 ∧ V1 k k_1 = V1 k k_1 ∧ V2 k k_1 = V2 k k_1) ∧ (0 : Int) = (↑(M.tot m (0 : Nat)) : Int) ∧ (nl = nl ∧ ∀ (k : Nat), k < nl → m k = m k ∧ ∀ (k_1 : Nat), k_1 < m k → V0 k k_1 = V0 k k_1 ∧ V1 k k_1 = V1 k k_1 ∧ V2 k k_1 = V2 k k_1) ∧ (↑nl : Int) = (↑nl : Int) ∧ (0 : Int) = (↑(0 : Nat) : Int) ∧ True) ∧ (false = false → (0 : Int) ≤ (↑(M.tot m nl) : Int) ∧ (↑(M.tot m nl) : Int) ≤ (300 : Int) ∧ (((0 : Nat) ≤ nl ∧ nl ≤ (3 : Nat)) ∧ ∀ (i : Nat), i < nl → m i ≤ (100 : Nat)) ∧ ((0 : Nat) = (0 : Nat) ∧ (0 : Nat) = M.tot m (0 : Nat) ∧ (nl = nl ∧ ∀ (k : Nat), k < nl → m k = m k ∧ ∀ (k_1 : Nat), k_1 < m k → V0 k k_1 = V0 k k_1 ∧ V1 k k_1 = V1 k k_1 ∧ V2 k k_1 = V2 k k_1) ∧ (↑nl : Int) = (↑nl : Int) ∧ (0 : Int) = (↑(0 : Nat) : Int) ∧ M.tot m (0 : Nat) ≤ (0 : Nat) ∧ (∀ (k : Nat), k < M.tot m (0 : Nat) → (0 : Int) = M.cat m V0 (0 : Nat) k ∧ (0 : Int) = M.cat m V1 (0 : Nat) k ∧ (0 : Int) = M.cat m V2 (0 : Nat) k) ∧ True) ∧ (false = false → (0 : Nat) + M.tot m nl ≤ M.tot m nl ∧ M.tot m nl = M.tot m nl ∧ ∀ (k : Nat), k < M.tot m nl → M.cat m V0 nl ((0 : Nat) + k) = M.cat m V0 nl k ∧ M.cat m V1 nl ((0 : Nat) + k) = M.cat m V1 nl k ∧ M.cat m V2 nl ((0 : Nat) + k) = M.cat m V2 nl k) ∧ (false = true → False)) ∧ (false = true → False)
theorem r49 (nl : Nat) (m : Nat → Nat) (V0 V1 V2 : Nat → Nat → Int) : V true [] [(64, specE e64)] Try.f49 [0,2,3,5,6,8,9,10,11,12,20,25,26,27,28] [(0, loopT false Try.f49.ntmps 0 (lp49a nl m V0 V1 V2) (fun _ _ _ => (0 : Nat))), (2, loopT false Try.f49.ntmps 0 (lp49b nl m V0 V1 V2) (fun _ _ _ => (0 : Nat)))] [.sl 1 nl (fun i => [.sl 3 (m i) (fun k => [SI (V0 i k), SI (V1 i k), SI (V2 i k)])])] (.sl 3 (M.tot m nl) (fun j => [SI (M.cat m V0 nl j), SI (M.cat m V1 nl j), SI (M.cat m V2 nl j)])) = Rr49 nl m V0 V1 V2 := by kernel_rfl
theorem br49 (nl : Nat) (m : Nat → Nat) (V0 V1 V2 : Nat → Nat → Int) (hp : (nl ≤ 3) ∧ (∀ i, i < nl → m i ≤ 100) ∧ AllP []) : Rr49 nl m V0 V1 V2 := by
  unfold Rr49
  obtain ⟨hn, hm, -⟩ := id hp
  have hb := M.tot_bd (k := nl) (b := 100) (m := m) hm
  have h0 : M.tot m 0 = 0 := rfl
  simp only [h0]
  repeat' first | apply And.intro | intro _
  all_goals first | omega | rfl | trivial | exact hm _ (by omega) | contradiction | (simp; done)
theorem s49 : PureOK PP 49 e49 := by
  intro xs ps res h hp
  unfold e49 at h
  split at h
  · rename_i nl G_1
    simp only [Option.some.injEq, Prod.mk.injEq] at h
    obtain ⟨rfl, rfl⟩ := h
    simp only [AllP.cons] at hp
    obtain ⟨HG_1, hp⟩ := hp
    refine Spec.args (ys := [.sl 1 nl (fun i => [.sl 3 ((rN G_1) i) (fun k => [SI ((rC G_1 0) i k), SI ((rC G_1 1) i k), SI ((rC G_1 2) i k)])])]) ?_ (.cons (.rowN HG_1 fun _ => rfl) .nil)
    refine enter (L := [0,2,3,5,6,8,9,10,11,12,20,25,26,27,28]) (LO := [(0, loopT false Try.f49.ntmps 0 (lp49a nl (rN G_1) (rC G_1 0) (rC G_1 1) (rC G_1 2)) (fun _ _ _ => (0 : Nat))), (2, loopT false Try.f49.ntmps 0 (lp49b nl (rN G_1) (rC G_1 0) (rC G_1 1) (rC G_1 2)) (fun _ _ _ => (0 : Nat)))]) (E := []) (O := [(64, specE e64)]) (ck := true) (.nil) (.cons (specE_ok s64) (.nil)) (k := 49) (f := Try.f49) (xs := [.sl 1 nl (fun i => [.sl 3 ((rN G_1) i) (fun k => [SI ((rC G_1 0) i k), SI ((rC G_1 1) i k), SI ((rC G_1 2) i k)])])]) (r := (.sl 3 (M.tot (rN G_1) nl) (fun j => [SI (M.cat (rN G_1) (rC G_1 0) nl j), SI (M.cat (rN G_1) (rC G_1 1) nl j), SI (M.cat (rN G_1) (rC G_1 2) nl j)]))) (by kernel_rfl) (by kernel_rfl) (fun Y => .cons (by kernel_rfl) (t49a nl (rN G_1) (rC G_1 0) (rC G_1 1) (rC G_1 2) FOK.wide Y) (.cons (by kernel_rfl) (t49b nl (rN G_1) (rC G_1 0) (rC G_1 1) (rC G_1 2) FOK.wide Y) (.nil))) ?_
    exact Hold.of (r49 nl (rN G_1) (rC G_1 0) (rC G_1 1) (rC G_1 2)) (br49 nl (rN G_1) (rC G_1 0) (rC G_1 1) (rC G_1 2) hp)
  · cases h
end Go.Proofs.Ytpbgkohljjmbhaa.Sep
/-
  Joined models of the tide. Plain Lean. No condition. (This text proves no statement by itself.)
-/
namespace Go.Proofs.Ytpbgkohljjmbhaa.M
open Go
/-- The sum, as 64 bits hold it. -/
def ws (a b : Int) : Int := IntKind.wrap .i64 (a + b)
theorem ws_eq {a b : Int} (h : Sep.R64 (a + b)) : ws a b = a + b := Sep.wrap_R64 h
def cat2 (n : Nat) (f g : Nat → Int) (j : Nat) : Int := if j < n then f j else g (j - n)
def joinM (a b c d : Int) : Int := if c = 0 then if d = 0 then ws a b else 0 else 0
/-- The error of a joined model. -/
def joinE (mn : Int) (n : Nat) (am pe ph : Nat → Int) (mo : Int) (m : Nat) (an pf pg : Nat → Int) : Int :=
  if modE mn n am pe ph = 0 then if modE mo m an pf pg = 0 then modE (ws mn mo) (n + m) (cat2 n am an) (cat2 n pe pf) (cat2 n ph pg) else modE mo m an pf pg else modE mn n am pe ph
def mn3 (a b : Int) (i : Nat) : Int := if i = 0 then a else if i = 1 then b else ws a b
def n3 (n m : Nat) (i : Nat) : Nat := if i = 0 then n else if i = 1 then m else n + m
def v3 (n : Nat) (f g : Nat → Int) (i k : Nat) : Int := if i = 0 then f k else if i = 1 then g k else cat2 n f g k
def e3 (mn : Int) (n : Nat) (am pe ph : Nat → Int) (mo : Int) (m : Nat) (an pf pg : Nat → Int) (i : Nat) : Int :=
  modE (mn3 mn mo i) (n3 n m i) (v3 n am an i) (v3 n pe pf i) (v3 n ph pg i)
theorem cat2_eq {m : Nat → Nat} {f : Nat → Nat → Int} {j : Nat} : cat m f 2 j = cat2 (m 0) (f 0) (f 1) j := by
  have e1 : tot m 1 = m 0 := by simp [tot]
  simp only [cat, cat2, e1]
  have e0 : tot m 0 = 0 := rfl
  by_cases h : j < m 0 <;> simp [h, e0]
theorem modE_congr {mn : Int} {n : Nat} {am pe ph am' pe' ph' : Nat → Int} (h : ∀ k, k < n → am k = am' k ∧ pe k = pe' k ∧ ph k = ph' k) : modE mn n am pe ph = modE mn n am' pe' ph' := by
  have e : allB (okP am pe ph) n = allB (okP am' pe' ph') n := by
    rw [Bool.eq_iff_iff, allB_iff, allB_iff]
    constructor <;> intro g k hk <;> have := g k hk <;> obtain ⟨h1, h2, h3⟩ := h k hk <;> simp only [okP, h1, h2, h3] at * <;> assumption
  unfold modE
  rw [e]
theorem joinE_eq {mn : Int} {n : Nat} {am pe ph : Nat → Int} {mo : Int} {m : Nat} {an pf pg : Nat → Int} :
    joinE mn n am pe ph mo m an pf pg = if e3 mn n am pe ph mo m an pf pg 0 = 0 then if e3 mn n am pe ph mo m an pf pg 1 = 0 then e3 mn n am pe ph mo m an pf pg 2 else e3 mn n am pe ph mo m an pf pg 1 else e3 mn n am pe ph mo m an pf pg 0 := by
  have a0 : ∀ f g : Nat → Int, v3 n f g 0 = f := fun f g => by funext k; simp [v3]
  have a1 : ∀ f g : Nat → Int, v3 n f g 1 = g := fun f g => by funext k; simp [v3]
  have a2 : ∀ f g : Nat → Int, v3 n f g 2 = cat2 n f g := fun f g => by funext k; simp [v3]
  simp [e3, joinE, a0, a1, a2, mn3, n3]
theorem joinE_first {mn : Int} {n : Nat} {am pe ph : Nat → Int} {mo : Int} {m : Nat} {an pf pg : Nat → Int} {k : Nat} (ho : ∀ i, i < k → e3 mn n am pe ph mo m an pf pg i = 0) (hk : k < 3)
    (h : e3 mn n am pe ph mo m an pf pg k ≠ 0) : joinE mn n am pe ph mo m an pf pg = e3 mn n am pe ph mo m an pf pg k := by
  rw [joinE_eq]
  have : k = 0 ∨ k = 1 ∨ k = 2 := by omega
  rcases this with e | e | e <;> subst e
  · rw [if_neg h]
  · rw [if_pos (ho 0 (by omega)), if_neg h]
  · rw [if_pos (ho 0 (by omega)), if_pos (ho 1 (by omega))]
theorem joinE_all {mn : Int} {n : Nat} {am pe ph : Nat → Int} {mo : Int} {m : Nat} {an pf pg : Nat → Int} (ho : ∀ i, i < 3 → e3 mn n am pe ph mo m an pf pg i = 0) : joinE mn n am pe ph mo m an pf pg = 0 := by
  rw [joinE_eq, if_pos (ho 0 (by omega)), if_pos (ho 1 (by omega)), ho 2 (by omega)]
end Go.Proofs.Ytpbgkohljjmbhaa.M
/-
  Pieces of a span of times. Plain arithmetic. No condition. (This text proves no statement by itself.)
-/
namespace Go.Proofs.Ytpbgkohljjmbhaa.M
open Go
/-- How many pieces there are. -/
def pcN (lo hi st : Int) : Nat := if st < hi - lo then ((hi - lo + st - 1) / st).toNat else 1
def pcL (lo st : Int) (k : Nat) : Int := lo + st * k
def pcH (lo hi st : Int) (k : Nat) : Int := min (lo + st * (k + 1)) hi
theorem pc_spec {lo hi st : Int} (h : lo ≤ hi) (hs : 1 ≤ st) : 1 ≤ pcN lo hi st ∧ ∀ k, k < pcN lo hi st →
    (hi - pcL lo st k ≤ st ↔ k + 1 = pcN lo hi st) ∧ lo ≤ pcL lo st k ∧ pcL lo st k ≤ hi ∧ pcL lo st (k + 1) = pcL lo st k + st ∧ pcH lo hi st k = min (pcL lo st k + st) hi := by
  have hsucc : ∀ k : Nat, st * ((k : Int) + 1) = st * k + st := fun k => by rw [Int.mul_add, Int.mul_one]
  unfold pcN
  by_cases hc : st < hi - lo
  · rw [if_pos hc]
    have e1 := Int.ediv_mul_le (hi - lo + st - 1) (show st ≠ 0 by omega)
    have e2 := Int.lt_ediv_add_one_mul_self (hi - lo + st - 1) (show 0 < st by omega)
    have e3 : 0 ≤ (hi - lo + st - 1) / st := Int.ediv_nonneg (by omega) (by omega)
    generalize hq : (hi - lo + st - 1) / st = q at *
    rw [Int.add_mul, Int.one_mul] at e2
    rw [Int.mul_comm] at e1 e2
    obtain ⟨Q, rfl⟩ := Int.eq_ofNat_of_zero_le e3
    simp only [Int.toNat_natCast]
    have hpos : 1 ≤ Q := by
      rcases Nat.eq_zero_or_pos Q with e | e
      · subst e; simp at e2; omega
      · exact e
    refine ⟨hpos, fun k hk => ?_⟩
    have h1 := hsucc k
    have h2 : 0 ≤ st * (k : Int) := Int.mul_nonneg (by omega) (by omega)
    have hm : ∀ j : Nat, j ≤ Q → st * (j : Int) ≤ st * (Q : Int) := fun j hj => Int.mul_le_mul_of_nonneg_left (by omega) (by omega)
    have h3 := hm (k + 1) (by omega)
    have e5 : ((k + 1 : Nat) : Int) = (k : Int) + 1 := by omega
    rw [e5] at h3
    unfold pcL pcH
    rw [e5, h1]
    rw [h1] at h3
    refine ⟨⟨fun g => ?_, fun g => ?_⟩, by omega, by omega, by omega, by rw [Int.add_assoc]⟩
    · rcases Nat.lt_or_ge (k + 1) Q with e | e
      · have h4 := hm (k + 2) (by omega)
        have h5 := hsucc (k + 1)
        have e6 : ((k + 2 : Nat) : Int) = ((k + 1 : Nat) : Int) + 1 := by omega
        rw [e6, h5, e5, h1] at h4
        omega
      · omega
    · have : (Q : Int) = (k : Int) + 1 := by omega
      rw [this, h1] at e2
      omega
  · rw [if_neg hc]
    refine ⟨Nat.le_refl _, fun k hk => ?_⟩
    have : k = 0 := by omega
    subst this
    simp [pcL, pcH]
    omega
/-- The error of a model, times and a step. -/
def stE (mn : Int) (n : Nat) (am pe ph : Nat → Int) (x y st : Int) : Int :=
  if timE mn n am pe ph x y = 0 then if st < 1 then 3 else if 10000 * st < y - x then 9 else 0 else timE mn n am pe ph x y
theorem stE_iff {mn : Int} {n : Nat} {am pe ph : Nat → Int} {x y st : Int} : stE mn n am pe ph x y st = 0 ↔ timE mn n am pe ph x y = 0 ∧ 1 ≤ st ∧ y - x ≤ 10000 * st := by
  unfold stE
  grind
theorem pcN_le {lo hi st : Int} (hs : 1 ≤ st) (h : hi - lo ≤ 10000 * st) : pcN lo hi st ≤ 10000 := by
  unfold pcN
  split
  · have : (hi - lo + st - 1) / st ≤ 10000 := by
      have : (hi - lo + st - 1) / st < 10001 := by
        rw [Int.ediv_lt_iff_lt_mul (by omega)]; omega
      omega
    omega
  · omega
/-- A long step is one piece. -/
theorem pc_min {lo hi st b : Int} (hs : 1 ≤ st) (h : lo ≤ hi) (hb : hi - lo ≤ b) (hb1 : 1 ≤ b) : pcN lo hi (min st b) = pcN lo hi st ∧ ∀ k, k < pcN lo hi st → pcL lo (min st b) k = pcL lo st k ∧ pcH lo hi (min st b) k = pcH lo hi st k := by
  by_cases hc : st ≤ b
  · have e : min st b = st := by omega
    rw [e]; exact ⟨rfl, fun _ _ => ⟨rfl, rfl⟩⟩
  · have e : min st b = b := by omega
    rw [e]
    have e1 : pcN lo hi b = 1 := by unfold pcN; rw [if_neg (by omega)]
    have e2 : pcN lo hi st = 1 := by unfold pcN; rw [if_neg (by omega)]
    rw [e1, e2]
    refine ⟨rfl, fun k hk => ?_⟩
    have : k = 0 := by omega
    subst this
    simp [pcL, pcH]
    omega
theorem tdiv_ge {a st : Int} (hs : 1 ≤ st) : (10000 ≤ a.tdiv st ↔ 10000 * st ≤ a) := by
  rcases Int.le_total 0 a with h | h
  · rw [Int.tdiv_eq_ediv_of_nonneg h, Int.le_ediv_iff_mul_le (by omega)]
  · have h2 : a.tdiv st ≤ 0 := by
      have := (dn (a := a) (b := st) (by omega))
      have h3 : a / st ≤ 0 := by
        have := Int.ediv_le_ediv (c := st) (by omega) h
        simpa using this
      by_cases g : a.tmod st < 0
      · have e := this.1 g
        have : a / st < 0 := by
          rcases Int.lt_or_eq_of_le h with h | h
          · exact Int.ediv_neg_of_neg_of_pos h (by omega)
          · subst h; simp at g
        omega
      · have := this.2 g; omega
    omega
theorem cdiv_gt {a st : Int} (hs : 1 ≤ st) : (10000 < -(-a / st) ↔ 10000 * st < a) := by
  constructor
  · intro h
    have : -a / st < -10000 := by omega
    rw [Int.ediv_lt_iff_lt_mul (by omega)] at this
    omega
  · intro h
    have : -a / st < -10000 := by rw [Int.ediv_lt_iff_lt_mul (by omega)]; omega
    omega
end Go.Proofs.Ytpbgkohljjmbhaa.M
/-
  Contracts of joined models. No condition. (This text proves no statement by itself.)
-/
namespace Go.Proofs.Ytpbgkohljjmbhaa.Sep
open Go
set_option linter.unusedVariables false
set_option linter.unusedSimpArgs false
def e22 : List SV → Option (List Prop × SV)
  | [.agg [.int .i64 mn, .sl 3 n g_1], .agg [.int .i64 mo, .sl 3 m g_2]] => some ([Row 3 n g_1, Row 3 m g_2, n ≤ 100, m ≤ 100], .tup [.agg [SI (if (M.joinE mn n (cI g_1 0) (cI g_1 1) (cI g_1 2) mo m (cI g_2 0) (cI g_2 1) (cI g_2 2)) = 0 then M.ws mn mo else 0), .sl 3 (if (M.joinE mn n (cI g_1 0) (cI g_1 1) (cI g_1 2) mo m (cI g_2 0) (cI g_2 1) (cI g_2 2)) = 0 then n + m else 0) (fun j => [SI (M.cat2 n (cI g_1 0) (cI g_2 0) j), SI (M.cat2 n (cI g_1 1) (cI g_2 1) j), SI (M.cat2 n (cI g_1 2) (cI g_2 2) j)])], SI (M.joinE mn n (cI g_1 0) (cI g_1 1) (cI g_1 2) mo m (cI g_2 0) (cI g_2 1) (cI g_2 2))])
  | _ => none
def Rr22 (mn : Int) (n : Nat) (am pe ph : Nat → Int) (mo : Int) (m : Nat) (an pf pg : Nat → Int) : Prop := (∀ (k : Nat), k < n → am k = am k ∧ pe k = pe k ∧ ph k = ph k) ∧ R64 (↑n : Int) ∧ (decide (M.modE mn n am pe ph = (0 : Int)) = true → (∀ (k : Nat), k < m → an k = an k ∧ pf k = pf k ∧ pg k = pg k) ∧ R64 (↑m : Int) ∧ ((!decide (M.modE mo m an pf pg = (0 : Int))) = true → (((0 : Int) = if M.joinE mn n am pe ph mo m an pf pg = (0 : Int) then M.ws mn mo else (0 : Int)) ∧ (if M.joinE mn n am pe ph mo m an pf pg = (0 : Int) then n + m else (0 : Nat)) = (0 : Nat)) ∧ M.modE mo m an pf pg = M.joinE mn n am pe ph mo m an pf pg) ∧ ((!decide (M.modE mo m an pf pg = (0 : Int))) = false → R64 (mn + mo) ∧ (∀ (k : Nat), k < n → true = true) ∧ (0 : Nat) ≤ (0 : Nat) ∧ ((0 : Nat) + n) * (24 : Nat) ≤ (140737488355328 : Nat) ∧ (∀ (k : Nat), k < m → true = true) ∧ (0 : Nat) + n ≤ (0 : Nat) + n ∧ ((0 : Nat) + n + m) * (24 : Nat) ≤ (140737488355328 : Nat) ∧ (0 : Nat) + ((0 : Nat) + n + m) ≤ (0 : Nat) + n + m ∧ (∀ (k : Nat), k < (0 : Nat) + n + m → (bif decide ((0 : Nat) + k < (0 : Nat) + n) then bif decide ((0 : Nat) + k < (0 : Nat)) then (0 : Int) else am ((0 : Nat) + k - (0 : Nat)) else an ((0 : Nat) + k - ((0 : Nat) + n))) = cI (fun k => [SV.int IntKind.i64 (bif decide ((0 : Nat) + k < (0 : Nat) + n) then bif decide ((0 : Nat) + k < (0 : Nat)) then (0 : Int) else am ((0 : Nat) + k - (0 : Nat)) else an ((0 : Nat) + k - ((0 : Nat) + n))), SV.int IntKind.i64 (bif decide ((0 : Nat) + k < (0 : Nat) + n) then bif decide ((0 : Nat) + k < (0 : Nat)) then (0 : Int) else pe ((0 : Nat) + k - (0 : Nat)) else pf ((0 : Nat) + k - ((0 : Nat) + n))), SV.int IntKind.i64 (bif decide ((0 : Nat) + k < (0 : Nat) + n) then bif decide ((0 : Nat) + k < (0 : Nat)) then (0 : Int) else ph ((0 : Nat) + k - (0 : Nat)) else pg ((0 : Nat) + k - ((0 : Nat) + n)))]) (0 : Nat) k ∧ (bif decide ((0 : Nat) + k < (0 : Nat) + n) then bif decide ((0 : Nat) + k < (0 : Nat)) then (0 : Int) else pe ((0 : Nat) + k - (0 : Nat)) else pf ((0 : Nat) + k - ((0 : Nat) + n))) = cI (fun k => [SV.int IntKind.i64 (bif decide ((0 : Nat) + k < (0 : Nat) + n) then bif decide ((0 : Nat) + k < (0 : Nat)) then (0 : Int) else am ((0 : Nat) + k - (0 : Nat)) else an ((0 : Nat) + k - ((0 : Nat) + n))), SV.int IntKind.i64 (bif decide ((0 : Nat) + k < (0 : Nat) + n) then bif decide ((0 : Nat) + k < (0 : Nat)) then (0 : Int) else pe ((0 : Nat) + k - (0 : Nat)) else pf ((0 : Nat) + k - ((0 : Nat) + n))), SV.int IntKind.i64 (bif decide ((0 : Nat) + k < (0 : Nat) + n) then bif decide ((0 : Nat) + k < (0 : Nat)) then (0 : Int) else ph ((0 : Nat) + k - (0 : Nat)) else pg ((0 : Nat) + k - ((0 : Nat) + n)))]) ((0 : Nat) + (1 : Nat)) k ∧ (bif decide ((0 : Nat) + k < (0 : Nat) + n) then bif decide ((0 : Nat) + k < (0 : Nat)) then (0 : Int) else ph ((0 : Nat) + k - (0 : Nat)) else pg ((0 : Nat) + k - ((0 : Nat) + n))) = cI (fun k => [SV.int IntKind.i64 (bif decide ((0 : Nat) + k < (0 : Nat) + n) then bif decide ((0 : Nat) + k < (0 : Nat)) then (0 : Int) else am ((0 : Nat) + k - (0 : Nat)) else an ((0 : Nat) + k - ((0 : Nat) + n))), SV.int IntKind.i64 (bif decide ((0 : Nat) + k < (0 : Nat) + n) then bif decide ((0 : Nat) + k < (0 : Nat)) then (0 : Int) else pe ((0 : Nat) + k - (0 : Nat)) else pf ((0 : Nat) + k - ((0 : Nat) + n))), SV.int IntKind.i64 (bif decide ((0 : Nat) + k < (0 : Nat) + n) then bif decide ((0 : Nat) + k < (0 : Nat)) then (0 : Int) else ph ((0 : Nat) + k - (0 : Nat)) else pg ((0 : Nat) + k - ((0 : Nat) + n)))]) ((0 : Nat) + (1 : Nat) + (1 : Nat)) k) ∧ R64 (↑((0 : Nat) + n + m) : Int) ∧ ((!decide (M.modE (mn + mo) ((0 : Nat) + n + m) (cI (fun k => [SV.int IntKind.i64 (bif decide ((0 : Nat) + k < (0 : Nat) + n) then bif decide ((0 : Nat) + k < (0 : Nat)) then (0 : Int) else am ((0 : Nat) + k - (0 : Nat)) else an ((0 : Nat) + k - ((0 : Nat) + n))), SV.int IntKind.i64 (bif decide ((0 : Nat) + k < (0 : Nat) + n) then bif decide ((0 : Nat) + k < (0 : Nat)) then (0 : Int) else pe ((0 : Nat) + k - (0 : Nat)) else pf ((0 : Nat) + k - ((0 : Nat) + n))), SV.int IntKind.i64 (bif decide ((0 : Nat) + k < (0 : Nat) + n) then bif decide ((0 : Nat) + k < (0 : Nat)) then (0 : Int) else ph ((0 : Nat) + k - (0 : Nat)) else pg ((0 : Nat) + k - ((0 : Nat) + n)))]) (0 : Nat)) (cI (fun k => [SV.int IntKind.i64 (bif decide ((0 : Nat) + k < (0 : Nat) + n) then bif decide ((0 : Nat) + k < (0 : Nat)) then (0 : Int) else am ((0 : Nat) + k - (0 : Nat)) else an ((0 : Nat) + k - ((0 : Nat) + n))), SV.int IntKind.i64 (bif decide ((0 : Nat) + k < (0 : Nat) + n) then bif decide ((0 : Nat) + k < (0 : Nat)) then (0 : Int) else pe ((0 : Nat) + k - (0 : Nat)) else pf ((0 : Nat) + k - ((0 : Nat) + n))), SV.int IntKind.i64 (bif decide ((0 : Nat) + k < (0 : Nat) + n) then bif decide ((0 : Nat) + k < (0 : Nat)) then (0 : Int) else ph ((0 : Nat) + k - (0 : Nat)) else pg ((0 : Nat) + k - ((0 : Nat) + n)))]) (1 : Nat)) (cI (fun k => [SV.int IntKind.i64 (bif decide ((0 : Nat) + k < (0 : Nat) + n) then bif decide ((0 : Nat) + k < (0 : Nat)) then (0 : Int) else am ((0 : Nat) + k - (0 : Nat)) else an ((0 : Nat) + k - ((0 : Nat) + n))), SV.int IntKind.i64 (bif decide ((0 : Nat) + k < (0 : Nat) + n) then bif decide ((0 : Nat) + k < (0 : Nat)) then (0 : Int) else pe ((0 : Nat) + k - (0 : Nat)) else pf ((0 : Nat) + k - ((0 : Nat) + n))), SV.int IntKind.i64 (bif decide ((0 : Nat) + k < (0 : Nat) + n) then bif decide ((0 : Nat) + k < (0 : Nat)) then (0 : Int) else ph ((0 : Nat) + k - (0 : Nat)) else pg ((0 : Nat) + k - ((0 : Nat) + n)))]) (2 : Nat)) = (0 : Int))) = true → (((0 : Int) = if M.joinE mn n am pe ph mo m an pf pg = (0 : Int) then M.ws mn mo else (0 : Int)) ∧ (if M.joinE mn n am pe ph mo m an pf pg = (0 : Int) then n + m else (0 : Nat)) = (0 : Nat)) ∧ M.modE (mn + mo) ((0 : Nat) + n + m) (cI (fun k => [SV.int IntKind.i64 (bif decide ((0 : Nat) + k < (0 : Nat) + n) then bif decide ((0 : Nat) + k < (0 : Nat)) then (0 : Int) else am ((0 : Nat) + k - (0 : Nat)) else an ((0 : Nat) + k - ((0 : Nat) + n))), SV.int IntKind.i64 (bif decide ((0 : Nat) + k < (0 : Nat) + n) then bif decide ((0 : Nat) + k < (0 : Nat)) then (0 : Int) else pe ((0 : Nat) + k - (0 : Nat)) else pf ((0 : Nat) + k - ((0 : Nat) + n))), SV.int IntKind.i64 (bif decide ((0 : Nat) + k < (0 : Nat) + n) then bif decide ((0 : Nat) + k < (0 : Nat)) then (0 : Int) else ph ((0 : Nat) + k - (0 : Nat)) else pg ((0 : Nat) + k - ((0 : Nat) + n)))]) (0 : Nat)) (cI (fun k => [SV.int IntKind.i64 (bif decide ((0 : Nat) + k < (0 : Nat) + n) then bif decide ((0 : Nat) + k < (0 : Nat)) then (0 : Int) else am ((0 : Nat) + k - (0 : Nat)) else an ((0 : Nat) + k - ((0 : Nat) + n))), SV.int IntKind.i64 (bif decide ((0 : Nat) + k < (0 : Nat) + n) then bif decide ((0 : Nat) + k < (0 : Nat)) then (0 : Int) else pe ((0 : Nat) + k - (0 : Nat)) else pf ((0 : Nat) + k - ((0 : Nat) + n))), SV.int IntKind.i64 (bif decide ((0 : Nat) + k < (0 : Nat) + n) then bif decide ((0 : Nat) + k < (0 : Nat)) then (0 : Int) else ph ((0 : Nat) + k - (0 : Nat)) else pg ((0 : Nat) + k - ((0 : Nat) + n)))]) (1 : Nat)) (cI (fun k => [SV.int IntKind.i64 (bif decide ((0 : Nat) + k < (0 : Nat) + n) then bif decide ((0 : Nat) + k < (0 : Nat)) then (0 : Int) else am ((0 : Nat) + k - (0 : Nat)) else an ((0 : Nat) + k - ((0 : Nat) + n))), SV.int IntKind.i64 (bif decide ((0 : Nat) + k < (0 : Nat) + n) then bif decide ((0 : Nat) + k < (0 : Nat)) then (0 : Int) else pe ((0 : Nat) + k - (0 : Nat)) else pf ((0 : Nat) + k - ((0 : Nat) + n))), SV.int IntKind.i64 (bif decide ((0 : Nat) + k < (0 : Nat) + n) then bif decide ((0 : Nat) + k < (0 : Nat)) then (0 : Int) else ph ((0 : Nat) + k - (0 : Nat)) else pg ((0 : Nat) + k - ((0 : Nat) + n)))]) (2 : Nat)) = M.joinE mn n am pe ph mo m an pf pg) ∧ ((!decide (M.modE (mn + mo) ((0 : Nat) + n + m) (cI (fun k => [SV.int IntKind.i64 (bif decide ((0 : Nat) + k < (0 : Nat) + n) then bif decide ((0 : Nat) + k < (0 : Nat)) then (0 : Int) else am ((0 : Nat) + k - (0 : Nat)) else an ((0 : Nat) + k - ((0 : Nat) + n))), SV.int IntKind.i64 (bif decide ((0 : Nat) + k < (0 : Nat) + n) then bif decide ((0 : Nat) + k < (0 : Nat)) then (0 : Int) else pe ((0 : Nat) + k - (0 : Nat)) else pf ((0 : Nat) + k - ((0 : Nat) + n))), SV.int IntKind.i64 (bif decide ((0 : Nat) + k < (0 : Nat) + n) then bif decide ((0 : Nat) + k < (0 : Nat)) then (0 : Int) else ph ((0 : Nat) + k - (0 : Nat)) else pg ((0 : Nat) + k - ((0 : Nat) + n)))]) (0 : Nat)) (cI (fun k => [SV.int IntKind.i64 (bif decide ((0 : Nat) + k < (0 : Nat) + n) then bif decide ((0 : Nat) + k < (0 : Nat)) then (0 : Int) else am ((0 : Nat) + k - (0 : Nat)) else an ((0 : Nat) + k - ((0 : Nat) + n))), SV.int IntKind.i64 (bif decide ((0 : Nat) + k < (0 : Nat) + n) then bif decide ((0 : Nat) + k < (0 : Nat)) then (0 : Int) else pe ((0 : Nat) + k - (0 : Nat)) else pf ((0 : Nat) + k - ((0 : Nat) + n))), SV.int IntKind.i64 (bif decide ((0 : Nat) + k < (0 : Nat) + n) then bif decide ((0 : Nat) + k < (0 : Nat)) then (0 : Int) else ph ((0 : Nat) + k - (0 : Nat)) else pg ((0 : Nat) + k - ((0 : Nat) + n)))]) (1 : Nat)) (cI (fun k => [SV.int IntKind.i64 (bif decide ((0 : Nat) + k < (0 : Nat) + n) then bif decide ((0 : Nat) + k < (0 : Nat)) then (0 : Int) else am ((0 : Nat) + k - (0 : Nat)) else an ((0 : Nat) + k - ((0 : Nat) + n))), SV.int IntKind.i64 (bif decide ((0 : Nat) + k < (0 : Nat) + n) then bif decide ((0 : Nat) + k < (0 : Nat)) then (0 : Int) else pe ((0 : Nat) + k - (0 : Nat)) else pf ((0 : Nat) + k - ((0 : Nat) + n))), SV.int IntKind.i64 (bif decide ((0 : Nat) + k < (0 : Nat) + n) then bif decide ((0 : Nat) + k < (0 : Nat)) then (0 : Int) else ph ((0 : Nat) + k - (0 : Nat)) else pg ((0 : Nat) + k - ((0 : Nat) + n)))]) (2 : Nat)) = (0 : Int))) = false → (0 : Nat) + ((0 : Nat) + n + m) ≤ (0 : Nat) + n + m ∧ ((mn + mo = if M.joinE mn n am pe ph mo m an pf pg = (0 : Int) then M.ws mn mo else (0 : Int)) ∧ ((0 : Nat) + n + m = if M.joinE mn n am pe ph mo m an pf pg = (0 : Int) then n + m else (0 : Nat)) ∧ ∀ (k : Nat), k < (0 : Nat) + n + m → (bif decide ((0 : Nat) + k < (0 : Nat) + n) then bif decide ((0 : Nat) + k < (0 : Nat)) then (0 : Int) else am ((0 : Nat) + k - (0 : Nat)) else an ((0 : Nat) + k - ((0 : Nat) + n))) = M.cat2 n am an k ∧ (bif decide ((0 : Nat) + k < (0 : Nat) + n) then bif decide ((0 : Nat) + k < (0 : Nat)) then (0 : Int) else pe ((0 : Nat) + k - (0 : Nat)) else pf ((0 : Nat) + k - ((0 : Nat) + n))) = M.cat2 n pe pf k ∧ (bif decide ((0 : Nat) + k < (0 : Nat) + n) then bif decide ((0 : Nat) + k < (0 : Nat)) then (0 : Int) else ph ((0 : Nat) + k - (0 : Nat)) else pg ((0 : Nat) + k - ((0 : Nat) + n))) = M.cat2 n ph pg k) ∧ (0 : Int) = M.joinE mn n am pe ph mo m an pf pg))) ∧ (decide (M.modE mn n am pe ph = (0 : Int)) = false → ((!decide (M.modE mn n am pe ph = (0 : Int))) = true → (((0 : Int) = if M.joinE mn n am pe ph mo m an pf pg = (0 : Int) then M.ws mn mo else (0 : Int)) ∧ (if M.joinE mn n am pe ph mo m an pf pg = (0 : Int) then n + m else (0 : Nat)) = (0 : Nat)) ∧ M.modE mn n am pe ph = M.joinE mn n am pe ph mo m an pf pg) ∧ ((!decide (M.modE mn n am pe ph = (0 : Int))) = false → R64 (mn + mo) ∧ (∀ (k : Nat), k < n → true = true) ∧ (0 : Nat) ≤ (0 : Nat) ∧ ((0 : Nat) + n) * (24 : Nat) ≤ (140737488355328 : Nat) ∧ (∀ (k : Nat), k < m → true = true) ∧ (0 : Nat) + n ≤ (0 : Nat) + n ∧ ((0 : Nat) + n + m) * (24 : Nat) ≤ (140737488355328 : Nat) ∧ (0 : Nat) + ((0 : Nat) + n + m) ≤ (0 : Nat) + n + m ∧ (∀ (k : Nat), k < (0 : Nat) + n + m → (bif decide ((0 : Nat) + k < (0 : Nat) + n) then bif decide ((0 : Nat) + k < (0 : Nat)) then (0 : Int) else am ((0 : Nat) + k - (0 : Nat)) else an ((0 : Nat) + k - ((0 : Nat) + n))) = cI (fun k => [SV.int IntKind.i64 (bif decide ((0 : Nat) + k < (0 : Nat) + n) then bif decide ((0 : Nat) + k < (0 : Nat)) then (0 : Int) else am ((0 : Nat) + k - (0 : Nat)) else an ((0 : Nat) + k - ((0 : Nat) + n))), SV.int IntKind.i64 (bif decide ((0 : Nat) + k < (0 : Nat) + n) then bif decide ((0 : Nat) + k < (0 : Nat)) then (0 : Int) else pe ((0 : Nat) + k - (0 : Nat)) else pf ((0 : Nat) + k - ((0 : Nat) + n))), SV.int IntKind.i64 (bif decide ((0 : Nat) + k < (0 : Nat) + n) then bif decide ((0 : Nat) + k < (0 : Nat)) then (0 : Int) else ph ((0 : Nat) + k - (0 : Nat)) else pg ((0 : Nat) + k - ((0 : Nat) + n)))]) (0 : Nat) k ∧ (bif decide ((0 : Nat) + k < (0 : Nat) + n) then bif decide ((0 : Nat) + k < (0 : Nat)) then (0 : Int) else pe ((0 : Nat) + k - (0 : Nat)) else pf ((0 : Nat) + k - ((0 : Nat) + n))) = cI (fun k => [SV.int IntKind.i64 (bif decide ((0 : Nat) + k < (0 : Nat) + n) then bif decide ((0 : Nat) + k < (0 : Nat)) then (0 : Int) else am ((0 : Nat) + k - (0 : Nat)) else an ((0 : Nat) + k - ((0 : Nat) + n))), SV.int IntKind.i64 (bif decide ((0 : Nat) + k < (0 : Nat) + n) then bif decide ((0 : Nat) + k < (0 : Nat)) then (0 : Int) else pe ((0 : Nat) + k - (0 : Nat)) else pf ((0 : Nat) + k - ((0 : Nat) + n))), SV.int IntKind.i64 (bif decide ((0 : Nat) + k < (0 : Nat) + n) then bif decide ((0 : Nat) + k < (0 : Nat)) then (0 : Int) else ph ((0 : Nat) + k - (0 : Nat)) else pg ((0 : Nat) + k - ((0 : Nat) + n)))]) ((0 : Nat) + (1 : Nat)) k ∧ (bif decide ((0 : Nat) + k < (0 : Nat) + n) then bif decide ((0 : Nat) + k < (0 : Nat)) then (0 : Int) else ph ((0 : Nat) + k - (0 : Nat)) else pg ((0 : Nat) + k - ((0 : Nat) + n))) = cI (fun k => [SV.int IntKind.i64 (bif decide ((0 : Nat) + k < (0 : Nat) + n) then bif decide ((0 : Nat) + k < (0 : Nat)) then (0 : Int) else am ((0 : Nat) + k - (0 : Nat)) else an ((0 : Nat) + k - ((0 : Nat) + n))), SV.int IntKind.i64 (bif decide ((0 : Nat) + k < (0 : Nat) + n) then bif decide ((0 : Nat) + k < (0 : Nat)) then (0 : Int) else pe ((0 : Nat) + k - (0 : Nat)) else pf ((0 : Nat) + k - ((0 : Nat) + n))), SV.int IntKind.i64 (bif decide ((0 : Nat) + k < (0 : Nat) + n) then bif decide ((0 : Nat) + k < (0 : Nat)) then (0 : Int) else ph ((0 : Nat) + k - (0 : Nat)) else pg ((0 : Nat) + k - ((0 : Nat) + n)))]) ((0 : Nat) + (1 : Nat) + (1 : Nat)) k) ∧ R64 (↑((0 : Nat) + n + m) : Int) ∧ ((!decide (M.modE (mn + mo) ((0 : Nat) + n + m) (cI (fun k => [SV.int IntKind.i64 (bif decide ((0 : Nat) + k < (0 : Nat) + n) then bif decide ((0 : Nat) + k < (0 : Nat)) then (0 : Int) else am ((0 : Nat) + k - (0 : Nat)) else an ((0 : Nat) + k - ((0 : Nat) + n))), SV.int IntKind.i64 (bif decide ((0 : Nat) + k < (0 : Nat) + n) then bif decide ((0 : Nat) + k < (0 : Nat)) then (0 : Int) else pe ((0 : Nat) + k - (0 : Nat)) else pf ((0 : Nat) + k - ((0 : Nat) + n))), SV.int IntKind.i64 (bif decide ((0 : Nat) + k < (0 : Nat) + n) then bif decide ((0 : Nat) + k < (0 : Nat)) then (0 : Int) else ph ((0 : Nat) + k - (0 : Nat)) else pg ((0 : Nat) + k - ((0 : Nat) + n)))]) (0 : Nat)) (cI (fun k => [SV.int IntKind.i64 (bif decide ((0 : Nat) + k < (0 : Nat) + n) then bif decide ((0 : Nat) + k < (0 : Nat)) then (0 : Int) else am ((0 : Nat) + k - (0 : Nat)) else an ((0 : Nat) + k - ((0 : Nat) + n))), SV.int IntKind.i64 (bif decide ((0 : Nat) + k < (0 : Nat) + n) then bif decide ((0 : Nat) + k < (0 : Nat)) then (0 : Int) else pe ((0 : Nat) + k - (0 : Nat)) else pf ((0 : Nat) + k - ((0 : Nat) + n))), SV.int IntKind.i64 (bif decide ((0 : Nat) + k < (0 : Nat) + n) then bif decide ((0 : Nat) + k < (0 : Nat)) then (0 : Int) else ph ((0 : Nat) + k - (0 : Nat)) else pg ((0 : Nat) + k - ((0 : Nat) + n)))]) (1 : Nat)) (cI (fun k => [SV.int IntKind.i64 (bif decide ((0 : Nat) + k < (0 : Nat) + n) then bif decide ((0 : Nat) + k < (0 : Nat)) then (0 : Int) else am ((0 : Nat) + k - (0 : Nat)) else an ((0 : Nat) + k - ((0 : Nat) + n))), SV.int IntKind.i64 (bif decide ((0 : Nat) + k < (0 : Nat) + n) then bif decide ((0 : Nat) + k < (0 : Nat)) then (0 : Int) else pe ((0 : Nat) + k - (0 : Nat)) else pf ((0 : Nat) + k - ((0 : Nat) + n))), SV.int IntKind.i64 (bif decide ((0 : Nat) + k < (0 : Nat) + n) then bif decide ((0 : Nat) + k < (0 : Nat)) then (0 : Int) else ph ((0 : Nat) + k - (0 : Nat)) else pg ((0 : Nat) + k - ((0 : Nat) + n)))]) (2 : Nat)) = (0 : Int))) = true → (((0 : Int) = if M.joinE mn n am pe ph mo m an pf pg = (0 : Int) then M.ws mn mo else (0 : Int)) ∧ (if M.joinE mn n am pe ph mo m an pf pg = (0 : Int) then n + m else (0 : Nat)) = (0 : Nat)) ∧ M.modE (mn + mo) ((0 : Nat) + n + m) (cI (fun k => [SV.int IntKind.i64 (bif decide ((0 : Nat) + k < (0 : Nat) + n) then bif decide ((0 : Nat) + k < (0 : Nat)) then (0 : Int) else am ((0 : Nat) + k - (0 : Nat)) else an ((0 : Nat) + k - ((0 : Nat) + n))), SV.int IntKind.i64 (bif decide ((0 : Nat) + k < (0 : Nat) + n) then bif decide ((0 : Nat) + k < (0 : Nat)) then (0 : Int) else pe ((0 : Nat) + k - (0 : Nat)) else pf ((0 : Nat) + k - ((0 : Nat) + n))), SV.int IntKind.i64 (bif decide ((0 : Nat) + k < (0 : Nat) + n) then bif decide ((0 : Nat) + k < (0 : Nat)) then (0 : Int) else ph ((0 : Nat) + k - (0 : Nat)) else pg ((0 : Nat) + k - ((0 : Nat) + n)))]) (0 : Nat)) (cI (fun k => [SV.int IntKind.i64 (bif decide ((0 : Nat) + k < (0 : Nat) + n) then bif decide ((0 : Nat) + k < (0 : Nat)) then (0 : Int) else am ((0 : Nat) + k - (0 : Nat)) else an ((0 : Nat) + k - ((0 : Nat) + n))), SV.int IntKind.i64 (bif decide ((0 : Nat) + k < (0 : Nat) + n) then bif decide ((0 : Nat) + k < (0 : Nat)) then (0 : Int) else pe ((0 : Nat) + k - (0 : Nat)) else pf ((0 : Nat) + k - ((0 : Nat) + n))), SV.int IntKind.i64 (bif decide ((0 : Nat) + k < (0 : Nat) + n) then bif decide ((0 : Nat) + k < (0 : Nat)) then (0 : Int) else ph ((0 : Nat) + k - (0 : Nat)) else pg ((0 : Nat) + k - ((0 : Nat) + n)))]) (1 : Nat)) (cI (fun k => [SV.int IntKind.i64 (bif decide ((0 : Nat) + k < (0 : Nat) + n) then bif decide ((0 : Nat) + k < (0 : Nat)) then (0 : Int) else am ((0 : Nat) + k - (0 : Nat)) else an ((0 : Nat) + k - ((0 : Nat) + n))), SV.int IntKind.i64 (bif decide ((0 : Nat) + k < (0 : Nat) + n) then bif decide ((0 : Nat) + k < (0 : Nat)) then (0 : Int) else pe ((0 : Nat) + k - (0 : Nat)) else pf ((0 : Nat) + k - ((0 : Nat) + n))), SV.int IntKind.i64 (bif decide ((0 : Nat) + k < (0 : Nat) + n) then bif decide ((0 : Nat) + k < (0 : Nat)) then (0 : Int) else ph ((0 : Nat) + k - (0 : Nat)) else pg ((0 : Nat) + k - ((0 : Nat) + n)))]) (2 : Nat)) = M.joinE mn n am pe ph mo m an pf pg) ∧ ((!decide (M.modE (mn + mo) ((0 : Nat) + n + m) (cI (fun k => [SV.int IntKind.i64 (bif decide ((0 : Nat) + k < (0 : Nat) + n) then bif decide ((0 : Nat) + k < (0 : Nat)) then (0 : Int) else am ((0 : Nat) + k - (0 : Nat)) else an ((0 : Nat) + k - ((0 : Nat) + n))), SV.int IntKind.i64 (bif decide ((0 : Nat) + k < (0 : Nat) + n) then bif decide ((0 : Nat) + k < (0 : Nat)) then (0 : Int) else pe ((0 : Nat) + k - (0 : Nat)) else pf ((0 : Nat) + k - ((0 : Nat) + n))), SV.int IntKind.i64 (bif decide ((0 : Nat) + k < (0 : Nat) + n) then bif decide ((0 : Nat) + k < (0 : Nat)) then (0 : Int) else ph ((0 : Nat) + k - (0 : Nat)) else pg ((0 : Nat) + k - ((0 : Nat) + n)))]) (0 : Nat)) (cI (fun k => [SV.int IntKind.i64 (bif decide ((0 : Nat) + k < (0 : Nat) + n) then bif decide ((0 : Nat) + k < (0 : Nat)) then (0 : Int) else am ((0 : Nat) + k - (0 : Nat)) else an ((0 : Nat) + k - ((0 : Nat) + n))), SV.int IntKind.i64 (bif decide ((0 : Nat) + k < (0 : Nat) + n) then bif decide ((0 : Nat) + k < (0 : Nat)) then (0 : Int) else pe ((0 : Nat) + k - (0 : Nat)) else pf ((0 : Nat) + k - ((0 : Nat) + n))), SV.int IntKind.i64 (bif decide ((0 : Nat) + k < (0 : Nat) + n) then bif decide ((0 : Nat) + k < (0 : Nat)) then (0 : Int) else ph ((0 : Nat) + k - (0 : Nat)) else pg ((0 : Nat) + k - ((0 : Nat) + n)))]) (1 : Nat)) (cI (fun k => [SV.int IntKind.i64 (bif decide ((0 : Nat) + k < (0 : Nat) + n) then bif decide ((0 : Nat) + k < (0 : Nat)) then (0 : Int) else am ((0 : Nat) + k - (0 : Nat)) else an ((0 : Nat) + k - ((0 : Nat) + n))), SV.int IntKind.i64 (bif decide ((0 : Nat) + k < (0 : Nat) + n) then bif decide ((0 : Nat) + k < (0 : Nat)) then (0 : Int) else pe ((0 : Nat) + k - (0 : Nat)) else pf ((0 : Nat) + k - ((0 : Nat) + n))), SV.int IntKind.i64 (bif decide ((0 : Nat) + k < (0 : Nat) + n) then bif decide ((0 : Nat) + k < (0 : Nat)) then (0 : Int) else ph ((0 : Nat) + k - (0 : Nat)) else pg ((0 : Nat) + k - ((0 : Nat) + n)))]) (2 : Nat)) = (0 : Int))) = false → (0 : Nat) + ((0 : Nat) + n + m) ≤ (0 : Nat) + n + m ∧ ((mn + mo = if M.joinE mn n am pe ph mo m an pf pg = (0 : Int) then M.ws mn mo else (0 : Int)) ∧ ((0 : Nat) + n + m = if M.joinE mn n am pe ph mo m an pf pg = (0 : Int) then n + m else (0 : Nat)) ∧ ∀ (k : Nat), k < (0 : Nat) + n + m → (bif decide ((0 : Nat) + k < (0 : Nat) + n) then bif decide ((0 : Nat) + k < (0 : Nat)) then (0 : Int) else am ((0 : Nat) + k - (0 : Nat)) else an ((0 : Nat) + k - ((0 : Nat) + n))) = M.cat2 n am an k ∧ (bif decide ((0 : Nat) + k < (0 : Nat) + n) then bif decide ((0 : Nat) + k < (0 : Nat)) then (0 : Int) else pe ((0 : Nat) + k - (0 : Nat)) else pf ((0 : Nat) + k - ((0 : Nat) + n))) = M.cat2 n pe pf k ∧ (bif decide ((0 : Nat) + k < (0 : Nat) + n) then bif decide ((0 : Nat) + k < (0 : Nat)) then (0 : Int) else ph ((0 : Nat) + k - (0 : Nat)) else pg ((0 : Nat) + k - ((0 : Nat) + n))) = M.cat2 n ph pg k) ∧ (0 : Int) = M.joinE mn n am pe ph mo m an pf pg)))
theorem r22 (mn : Int) (n : Nat) (am pe ph : Nat → Int) (mo : Int) (m : Nat) (an pf pg : Nat → Int) : V true [] [(16, pureE e16)] Try.f22 [0,1,2,3,4,5,6,7,11,15,35] [] [.agg [SI mn, .sl 3 n (fun k => [SI (am k), SI (pe k), SI (ph k)])], .agg [SI mo, .sl 3 m (fun k => [SI (an k), SI (pf k), SI (pg k)])]] (.tup [.agg [SI (if (M.joinE mn n am pe ph mo m an pf pg) = 0 then M.ws mn mo else 0), .sl 3 (if (M.joinE mn n am pe ph mo m an pf pg) = 0 then n + m else 0) (fun j => [SI (M.cat2 n am an j), SI (M.cat2 n pe pf j), SI (M.cat2 n ph pg j)])], SI (M.joinE mn n am pe ph mo m an pf pg)]) = Rr22 mn n am pe ph mo m an pf pg := by kernel_rfl
theorem br22 (mn : Int) (n : Nat) (am pe ph : Nat → Int) (mo : Int) (m : Nat) (an pf pg : Nat → Int) (hp : (n ≤ 100) ∧ (m ≤ 100) ∧ AllP []) : Rr22 mn n am pe ph mo m an pf pg := by
  unfold Rr22
  obtain ⟨hn, hm, -⟩ := id hp
  have c0 : ∀ f g h : Nat → Int, cI (fun k => [SV.int IntKind.i64 (f k), SV.int IntKind.i64 (g k), SV.int IntKind.i64 (h k)]) 0 = f := fun _ _ _ => rfl
  have c1 : ∀ f g h : Nat → Int, cI (fun k => [SV.int IntKind.i64 (f k), SV.int IntKind.i64 (g k), SV.int IntKind.i64 (h k)]) 1 = g := fun _ _ _ => rfl
  have c2 : ∀ f g h : Nat → Int, cI (fun k => [SV.int IntKind.i64 (f k), SV.int IntKind.i64 (g k), SV.int IntKind.i64 (h k)]) 2 = h := fun _ _ _ => rfl
  have cc : ∀ f g : Nat → Int, (fun k => bif decide (k < n) then f k else g (k - n)) = M.cat2 n f g := fun f g => by
    funext k
    unfold M.cat2
    by_cases h : k < n <;> simp [h]
  have cd : ∀ (f g : Nat → Int) (k : Nat), (bif decide (k < n) then f k else g (k - n)) = M.cat2 n f g k := fun f g k => congrFun (cc f g) k
  have r1 : R64 (n : Int) := by unfold R64; omega
  have r2 : R64 (m : Int) := by unfold R64; omega
  have r3 : R64 ((n : Int) + m) := by unfold R64; omega
  have r4 : R64 ((n + m : Nat) : Int) := by unfold R64; omega
  have J : (M.joinE mn n am pe ph mo m an pf pg) = if M.modE mn n am pe ph = 0 then if M.modE mo m an pf pg = 0 then M.modE (M.ws mn mo) (n + m) (M.cat2 n am an) (M.cat2 n pe pf) (M.cat2 n ph pg) else M.modE mo m an pf pg else M.modE mn n am pe ph := rfl
  by_cases h1 : M.modE mn n am pe ph = 0
  · by_cases h2 : M.modE mo m an pf pg = 0
    · have r5 : R64 (mn + mo) := by
        have := M.modE_iff.1 h1; have := M.modE_iff.1 h2
        unfold R64; omega
      have ew := M.ws_eq r5
      simp [c0, c1, c2, cc, cd, r1, r2, r3, r4, r5, h1, h2, J, ew]
      exact ⟨by omega, by omega, fun h => ⟨fun h' => absurd h' h, fun h' => absurd h' h⟩, fun h => ⟨⟨fun h' => absurd h h', fun h' => absurd h h'⟩, h.symm⟩⟩
    · simp [h1, h2, J, r1, r2]
  · simp [h1, J, r1]
theorem s22 : PureOK PP 22 e22 := by
  intro xs ps res h hp
  unfold e22 at h
  split at h
  · rename_i mn n g_1 mo m g_2
    simp only [Option.some.injEq, Prod.mk.injEq] at h
    obtain ⟨rfl, rfl⟩ := h
    simp only [AllP.cons] at hp
    obtain ⟨Hg_1, hp⟩ := hp
    obtain ⟨Hg_2, hp⟩ := hp
    refine Spec.args (ys := [.agg [SI mn, .sl 3 n (fun k => [SI ((cI g_1 0) k), SI ((cI g_1 1) k), SI ((cI g_1 2) k)])], .agg [SI mo, .sl 3 m (fun k => [SI ((cI g_2 0) k), SI ((cI g_2 1) k), SI ((cI g_2 2) k)])]]) ?_ (.cons (.agg (.cons (.refl _) (.cons (.row Hg_1 fun _ => rfl) .nil))) (.cons (.agg (.cons (.refl _) (.cons (.row Hg_2 fun _ => rfl) .nil))) .nil))
    refine enter (L := [0,1,2,3,4,5,6,7,11,15,35]) (LO := []) (E := []) (O := [(16, pureE e16)]) (ck := true) (.nil) (.cons (pureE_ok s16) (.nil)) (k := 22) (f := Try.f22) (xs := [.agg [SI mn, .sl 3 n (fun k => [SI ((cI g_1 0) k), SI ((cI g_1 1) k), SI ((cI g_1 2) k)])], .agg [SI mo, .sl 3 m (fun k => [SI ((cI g_2 0) k), SI ((cI g_2 1) k), SI ((cI g_2 2) k)])]]) (r := (.tup [.agg [SI (if (M.joinE mn n (cI g_1 0) (cI g_1 1) (cI g_1 2) mo m (cI g_2 0) (cI g_2 1) (cI g_2 2)) = 0 then M.ws mn mo else 0), .sl 3 (if (M.joinE mn n (cI g_1 0) (cI g_1 1) (cI g_1 2) mo m (cI g_2 0) (cI g_2 1) (cI g_2 2)) = 0 then n + m else 0) (fun j => [SI (M.cat2 n (cI g_1 0) (cI g_2 0) j), SI (M.cat2 n (cI g_1 1) (cI g_2 1) j), SI (M.cat2 n (cI g_1 2) (cI g_2 2) j)])], SI (M.joinE mn n (cI g_1 0) (cI g_1 1) (cI g_1 2) mo m (cI g_2 0) (cI g_2 1) (cI g_2 2))])) (by kernel_rfl) (by kernel_rfl) (fun _ => .nil) ?_
    exact Hold.of (r22 mn n (cI g_1 0) (cI g_1 1) (cI g_1 2) mo m (cI g_2 0) (cI g_2 1) (cI g_2 2)) (br22 mn n (cI g_1 0) (cI g_1 1) (cI g_1 2) mo m (cI g_2 0) (cI g_2 1) (cI g_2 2) hp)
  · cases h
def lp21 (mn : Int) (n : Nat) (am pe ph : Nat → Int) (mo : Int) (m : Nat) (an pf pg : Nat → Int) : LoopS where
  ι := Nat
  β := Unit
  pre k := (k ≤ 3 ∧ n ≤ 100 ∧ m ≤ 100) ∧ ∀ i, i < k → M.e3 mn n am pe ph mo m an pf pg i = 0
  μ k := 3 - k
  next k _ _ _ := k + 1
  out _ := ()
  early _ := !decide ((M.joinE mn n am pe ph mo m an pf pg) = 0)
  SA k := [(4, .ptr 0 0), (6, .ptr 1 0), (25, .vec 2 2 0 3), (26, SI 3), (27, SI k)]
  SH k := [(0, .cells [.top, .top]), (1, .cells [SI (M.ws mn mo), .sl 3 (n + m) (fun j => [SI (M.cat2 n am an j), SI (M.cat2 n pe pf j), SI (M.cat2 n ph pg j)])]), (2, .row 2 3 (fun i => [SI (M.mn3 mn mo i), .sl 3 (M.n3 n m i) (fun k => [SI (M.v3 n am an i k), SI (M.v3 n pe pf i k), SI (M.v3 n ph pg i k)])]))]
  n0 := 3
  NA _ := [(4, .ptr 0 0), (6, .ptr 1 0)]
  NH _ := [(0, .cells [.top, .top]), (1, .cells [SI (M.ws mn mo), .sl 3 (n + m) (fun j => [SI (M.cat2 n am an j), SI (M.cat2 n pe pf j), SI (M.cat2 n ph pg j)])])]
  n1 := 2
  RA _ := [(4, .ptr 0 0), (5, SI (M.joinE mn n am pe ph mo m an pf pg))]
  RH _ := [(0, .cells [SI 0, .sl 3 0 (fun j => [SI (M.cat2 n am an j), SI (M.cat2 n pe pf j), SI (M.cat2 n ph pg j)])])]
def Rq21 (mn : Int) (n : Nat) (am pe ph : Nat → Int) (mo : Int) (m : Nat) (an pf pg : Nat → Int) (k : Nat) : Prop := (decide ((↑k : Int) < (3 : Int)) = true → (0 : Int) ≤ (↑k : Int) ∧ (↑k : Int) < (↑(3 : Nat) : Int) ∧ (0 : Nat) + Int.toNat (↑k : Int) < (3 : Nat) ∧ (∀ (k_1 : Nat), k_1 < M.n3 n m ((0 : Nat) + Int.toNat (↑k : Int)) → M.v3 n am an ((0 : Nat) + Int.toNat (↑k : Int)) k_1 = M.v3 n am an ((0 : Nat) + Int.toNat (↑k : Int)) k_1 ∧ M.v3 n pe pf ((0 : Nat) + Int.toNat (↑k : Int)) k_1 = M.v3 n pe pf ((0 : Nat) + Int.toNat (↑k : Int)) k_1 ∧ M.v3 n ph pg ((0 : Nat) + Int.toNat (↑k : Int)) k_1 = M.v3 n ph pg ((0 : Nat) + Int.toNat (↑k : Int)) k_1) ∧ R64 (↑(M.n3 n m ((0 : Nat) + Int.toNat (↑k : Int))) : Int) ∧ ((!decide (M.modE (M.mn3 mn mo ((0 : Nat) + Int.toNat (↑k : Int))) (M.n3 n m ((0 : Nat) + Int.toNat (↑k : Int))) (M.v3 n am an ((0 : Nat) + Int.toNat (↑k : Int))) (M.v3 n pe pf ((0 : Nat) + Int.toNat (↑k : Int))) (M.v3 n ph pg ((0 : Nat) + Int.toNat (↑k : Int))) = (0 : Int))) = true → (!decide (M.joinE mn n am pe ph mo m an pf pg = (0 : Int))) = true ∧ M.modE (M.mn3 mn mo ((0 : Nat) + Int.toNat (↑k : Int))) (M.n3 n m ((0 : Nat) + Int.toNat (↑k : Int))) (M.v3 n am an ((0 : Nat) + Int.toNat (↑k : Int))) (M.v3 n pe pf ((0 : Nat) + Int.toNat (↑k : Int))) (M.v3 n ph pg ((0 : Nat) + Int.toNat (↑k : Int))) = M.joinE mn n am pe ph mo m an pf pg ∧ (0 : Int) = (0 : Int) ∧ (0 : Nat) = (0 : Nat) ∧ True) ∧ ((!decide (M.modE (M.mn3 mn mo ((0 : Nat) + Int.toNat (↑k : Int))) (M.n3 n m ((0 : Nat) + Int.toNat (↑k : Int))) (M.v3 n am an ((0 : Nat) + Int.toNat (↑k : Int))) (M.v3 n pe pf ((0 : Nat) + Int.toNat (↑k : Int))) (M.v3 n ph pg ((0 : Nat) + Int.toNat (↑k : Int))) = (0 : Int))) = false → R64 ((↑k : Int) + (1 : Int)) ∧ ((k + (1 : Nat) ≤ (3 : Nat) ∧ n ≤ (100 : Nat) ∧ m ≤ (100 : Nat)) ∧ ∀ (i : Nat), i < k + (1 : Nat) → M.e3 mn n am pe ph mo m an pf pg i = (0 : Int)) ∧ (3 : Nat) - (k + (1 : Nat)) < (3 : Nat) - k ∧ () = () ∧ (0 : Nat) = (0 : Nat) ∧ (3 : Nat) = (3 : Nat) ∧ (3 : Int) = (3 : Int) ∧ (↑k : Int) + (1 : Int) = (↑(k + (1 : Nat)) : Int) ∧ M.ws mn mo = M.ws mn mo ∧ (n + m = n + m ∧ ∀ (k : Nat), k < n + m → M.cat2 n am an k = M.cat2 n am an k ∧ M.cat2 n pe pf k = M.cat2 n pe pf k ∧ M.cat2 n ph pg k = M.cat2 n ph pg k) ∧ (3 : Nat) ≤ (3 : Nat) ∧ (∀ (k : Nat), k < (3 : Nat) → M.mn3 mn mo k = M.mn3 mn mo k ∧ M.n3 n m k = M.n3 n m k ∧ ∀ (k_1 : Nat), k_1 < M.n3 n m k → M.v3 n am an k k_1 = M.v3 n am an k k_1 ∧ M.v3 n pe pf k k_1 = M.v3 n pe pf k k_1 ∧ M.v3 n ph pg k k_1 = M.v3 n ph pg k k_1) ∧ True)) ∧ (decide ((↑k : Int) < (3 : Int)) = false → (!decide (M.joinE mn n am pe ph mo m an pf pg = (0 : Int))) = false ∧ M.ws mn mo = M.ws mn mo ∧ (n + m = n + m ∧ ∀ (k : Nat), k < n + m → M.cat2 n am an k = M.cat2 n am an k ∧ M.cat2 n pe pf k = M.cat2 n pe pf k ∧ M.cat2 n ph pg k = M.cat2 n ph pg k) ∧ True)
theorem q21 (mn : Int) (n : Nat) (am pe ph : Nat → Int) (mo : Int) (m : Nat) (an pf pg : Nat → Int) (k : Nat) : VL true [] [(14, pureE e14)] YS.none Try.f21 0 [0,1,2,3,4,5,6,8,9,25,26,27,28,34] [] 0 (lp21 mn n am pe ph mo m an pf pg) (k) = Rq21 mn n am pe ph mo m an pf pg k := by kernel_rfl
theorem peq21 (mn : Int) (n : Nat) (am pe ph : Nat → Int) (mo : Int) (m : Nat) (an pf pg : Nat → Int) (k : Nat) : (lp21 mn n am pe ph mo m an pf pg).pre (k) = ((k ≤ (3 : Nat) ∧ n ≤ (100 : Nat) ∧ m ≤ (100 : Nat)) ∧ ∀ (i : Nat), i < k → M.e3 mn n am pe ph mo m an pf pg i = (0 : Int)) := by kernel_rfl
theorem bq21 (mn : Int) (n : Nat) (am pe ph : Nat → Int) (mo : Int) (m : Nat) (an pf pg : Nat → Int) (k : Nat) (hp : (k ≤ (3 : Nat) ∧ n ≤ (100 : Nat) ∧ m ≤ (100 : Nat)) ∧ ∀ (i : Nat), i < k → M.e3 mn n am pe ph mo m an pf pg i = (0 : Int)) : Rq21 mn n am pe ph mo m an pf pg k := by
  unfold Rq21
  obtain ⟨⟨hk, hn, hm⟩, ho⟩ := id hp
  simp only [Int.toNat_natCast, Nat.zero_add]
  have e : M.modE (M.mn3 mn mo k) (M.n3 n m k) (M.v3 n am an k) (M.v3 n pe pf k) (M.v3 n ph pg k) = M.e3 mn n am pe ph mo m an pf pg k := rfl
  simp only [e]
  refine ⟨fun hlt => ?_, fun hlt => ?_⟩
  · have hk3 : k < 3 := by simp only [decide_eq_true_eq] at hlt; omega
    have hk4 : (k : Int) < 3 := by omega
    have hb : M.n3 n m k ≤ 200 := by unfold M.n3; split <;> (try split) <;> omega
    have hr : R64 ((M.n3 n m k : Nat) : Int) := by unfold R64; omega
    have hr1 : R64 ((k : Int) + 1) := by unfold R64; omega
    by_cases h0 : M.e3 mn n am pe ph mo m an pf pg k = 0
    · have ho' : ∀ i, i < k + 1 → M.e3 mn n am pe ph mo m an pf pg i = 0 := fun i hi => by
        by_cases e : i = k
        · subst e; exact h0
        · exact ho i (by omega)
      simp [h0, hk3, hk4, hr, hr1, hn, hm]
      repeat' apply And.intro
      all_goals first | omega | exact ho'
    · have hj := M.joinE_first ho hk3 h0
      simp [h0, hj, hr, hr1, hk3, hk4]
  · have hk3 : k = 3 := by simp only [decide_eq_false_iff_not] at hlt; omega
    subst hk3
    have hj := M.joinE_all ho
    simp [hj]
theorem t21 (mn : Int) (n : Nat) (am pe ph : Nat → Int) (mo : Int) (m : Nat) (an pf pg : Nat → Int) {F : Fence} (hF : FOK F) (Y : YEnv PP YS.none) : ∀ Q A H nx, loopT false Try.f21.ntmps 0 (lp21 mn n am pe ph mo m an pf pg) (fun _ _ _ => (0 : Nat)) Q A H nx → WPS Y F Try.f21.ntmps 0 (.block 0 (blkAt 0 Try.f21)) Q A H nx :=
  loopW (E := []) (.nil) (O := [(14, pureE e14)]) (.cons (pureE_ok s14) (.nil)) (ck := true) (L := [0,1,2,3,4,5,6,8,9,25,26,27,28,34]) (f := Try.f21) (m := 0) (id := 0) (l := (lp21 mn n am pe ph mo m an pf pg)) (LI := fun i => []) Y hF (by kernel_rfl) (fun _ => .nil) (by
    rintro k hp
    exact Hold.of (q21 mn n am pe ph mo m an pf pg k) (bq21 mn n am pe ph mo m an pf pg k ((peq21 mn n am pe ph mo m an pf pg k).mp hp)))
def e21 : List SV → Option (List Prop × SV)
  | [.agg [.int .i64 mn, .sl 3 n g_1], .agg [.int .i64 mo, .sl 3 m g_2]] => some ([Row 3 n g_1, Row 3 m g_2, n ≤ 100, m ≤ 100], .tup [.agg [SI (if (M.joinE mn n (cI g_1 0) (cI g_1 1) (cI g_1 2) mo m (cI g_2 0) (cI g_2 1) (cI g_2 2)) = 0 then M.ws mn mo else 0), .sl 3 (if (M.joinE mn n (cI g_1 0) (cI g_1 1) (cI g_1 2) mo m (cI g_2 0) (cI g_2 1) (cI g_2 2)) = 0 then n + m else 0) (fun j => [SI (M.cat2 n (cI g_1 0) (cI g_2 0) j), SI (M.cat2 n (cI g_1 1) (cI g_2 1) j), SI (M.cat2 n (cI g_1 2) (cI g_2 2) j)])], SI (M.joinE mn n (cI g_1 0) (cI g_1 1) (cI g_1 2) mo m (cI g_2 0) (cI g_2 1) (cI g_2 2))])
  | _ => none
def Rr21 (mn : Int) (n : Nat) (am pe ph : Nat → Int) (mo : Int) (m : Nat) (an pf pg : Nat → Int) : Prop := (0 : Nat) + (2 : Nat) ≤ (2 : Nat) ∧ (∀ (i : Nat), i < (2 : Nat) → ((bif decide ((0 : Nat) + i = (1 : Nat)) then m else bif decide ((0 : Nat) + i = (0 : Nat)) then n else (0 : Nat)) = bif decide ((0 : Nat) + i = (1 : Nat)) then m else bif decide ((0 : Nat) + i = (0 : Nat)) then n else (0 : Nat)) ∧ ∀ (k : Nat), (k < bif decide ((0 : Nat) + i = (1 : Nat)) then m else bif decide ((0 : Nat) + i = (0 : Nat)) then n else (0 : Nat)) → (bif decide ((0 : Nat) + i = (1 : Nat)) then an k else am k) = cI (rF (fun k => (if (2 : Nat) = (1 : Nat) then fun x => [SV.sl (3 : Nat) m fun k => [SV.int IntKind.i64 (an k), SV.int IntKind.i64 (pf k), SV.int IntKind.i64 (pg k)]] else fun k => [SV.sl (3 : Nat) (bif decide (k = (1 : Nat)) then m else bif decide (k = (0 : Nat)) then n else (0 : Nat)) fun k_1 => [SV.int IntKind.i64 (bif decide (k = (1 : Nat)) then an k_1 else am k_1), SV.int IntKind.i64 (bif decide (k = (1 : Nat)) then pf k_1 else pe k_1), SV.int IntKind.i64 (bif decide (k = (1 : Nat)) then pg k_1 else ph k_1)]]) ((0 : Nat) + k)) i) (0 : Nat) k ∧ (bif decide ((0 : Nat) + i = (1 : Nat)) then pf k else pe k) = cI (rF (fun k => (if (2 : Nat) = (1 : Nat) then fun x => [SV.sl (3 : Nat) m fun k => [SV.int IntKind.i64 (an k), SV.int IntKind.i64 (pf k), SV.int IntKind.i64 (pg k)]] else fun k => [SV.sl (3 : Nat) (bif decide (k = (1 : Nat)) then m else bif decide (k = (0 : Nat)) then n else (0 : Nat)) fun k_1 => [SV.int IntKind.i64 (bif decide (k = (1 : Nat)) then an k_1 else am k_1), SV.int IntKind.i64 (bif decide (k = (1 : Nat)) then pf k_1 else pe k_1), SV.int IntKind.i64 (bif decide (k = (1 : Nat)) then pg k_1 else ph k_1)]]) ((0 : Nat) + k)) i) ((0 : Nat) + (1 : Nat)) k ∧ (bif decide ((0 : Nat) + i = (1 : Nat)) then pg k else ph k) = cI (rF (fun k => (if (2 : Nat) = (1 : Nat) then fun x => [SV.sl (3 : Nat) m fun k => [SV.int IntKind.i64 (an k), SV.int IntKind.i64 (pf k), SV.int IntKind.i64 (pg k)]] else fun k => [SV.sl (3 : Nat) (bif decide (k = (1 : Nat)) then m else bif decide (k = (0 : Nat)) then n else (0 : Nat)) fun k_1 => [SV.int IntKind.i64 (bif decide (k = (1 : Nat)) then an k_1 else am k_1), SV.int IntKind.i64 (bif decide (k = (1 : Nat)) then pf k_1 else pe k_1), SV.int IntKind.i64 (bif decide (k = (1 : Nat)) then pg k_1 else ph k_1)]]) ((0 : Nat) + k)) i) ((0 : Nat) + (1 : Nat) + (1 : Nat)) k) ∧ (2 : Nat) ≤ (3 : Nat) ∧ (∀ (i : Nat), i < (2 : Nat) → (bif decide ((0 : Nat) + i = (1 : Nat)) then m else bif decide ((0 : Nat) + i = (0 : Nat)) then n else (0 : Nat)) ≤ (100 : Nat)) ∧ (((0 : Nat) ≤ (3 : Nat) ∧ n ≤ (100 : Nat) ∧ m ≤ (100 : Nat)) ∧ ∀ (i : Nat), i < (0 : Nat) → M.e3 mn n am pe ph mo m an pf pg i = (0 : Int)) ∧ ((0 : Nat) = (0 : Nat) ∧ (3 : Nat) = (3 : Nat) ∧ (↑(3 : Nat) : Int) = (3 : Int) ∧ (0 : Int) = (↑(0 : Nat) : Int) ∧ IntKind.wrap IntKind.i64 (mn + mo) = M.ws mn mo ∧ (M.tot (fun i => bif decide ((0 : Nat) + i = (1 : Nat)) then m else bif decide ((0 : Nat) + i = (0 : Nat)) then n else (0 : Nat)) (2 : Nat) = n + m ∧ ∀ (k : Nat), k < M.tot (fun i => bif decide ((0 : Nat) + i = (1 : Nat)) then m else bif decide ((0 : Nat) + i = (0 : Nat)) then n else (0 : Nat)) (2 : Nat) → M.cat (fun i => bif decide ((0 : Nat) + i = (1 : Nat)) then m else bif decide ((0 : Nat) + i = (0 : Nat)) then n else (0 : Nat)) (fun i k => bif decide ((0 : Nat) + i = (1 : Nat)) then an k else am k) (2 : Nat) k = M.cat2 n am an k ∧ M.cat (fun i => bif decide ((0 : Nat) + i = (1 : Nat)) then m else bif decide ((0 : Nat) + i = (0 : Nat)) then n else (0 : Nat)) (fun i k => bif decide ((0 : Nat) + i = (1 : Nat)) then pf k else pe k) (2 : Nat) k = M.cat2 n pe pf k ∧ M.cat (fun i => bif decide ((0 : Nat) + i = (1 : Nat)) then m else bif decide ((0 : Nat) + i = (0 : Nat)) then n else (0 : Nat)) (fun i k => bif decide ((0 : Nat) + i = (1 : Nat)) then pg k else ph k) (2 : Nat) k = M.cat2 n ph pg k) ∧ (3 : Nat) ≤ (3 : Nat) ∧ (∀ (k : Nat), k < (3 : Nat) → (bif decide (k = (2 : Nat)) then IntKind.wrap IntKind.i64 (mn + mo) else bif decide (k = (1 : Nat)) then mo else bif decide (k = (0 : Nat)) then mn else (0 : Int)) = M.mn3 mn mo k ∧ (bif decide (k = (2 : Nat)) then M.tot (fun i => bif decide ((0 : Nat) + i = (1 : Nat)) then m else bif decide ((0 : Nat) + i = (0 : Nat)) then n else (0 : Nat)) (2 : Nat) else bif decide (k = (1 : Nat)) then m else bif decide (k = (0 : Nat)) then n else (0 : Nat)) = M.n3 n m k ∧ ∀ (k_1 : Nat), (k_1 < bif decide (k = (2 : Nat)) then M.tot (fun i => bif decide ((0 : Nat) + i = (1 : Nat)) then m else bif decide ((0 : Nat) + i = (0 : Nat)) then n else (0 : Nat)) (2 : Nat) else bif decide (k = (1 : Nat)) then m else bif decide (k = (0 : Nat)) then n else (0 : Nat)) → (bif decide (k = (2 : Nat)) then M.cat (fun i => bif decide ((0 : Nat) + i = (1 : Nat)) then m else bif decide ((0 : Nat) + i = (0 : Nat)) then n else (0 : Nat)) (fun i k => bif decide ((0 : Nat) + i = (1 : Nat)) then an k else am k) (2 : Nat) k_1 else bif decide (k = (1 : Nat)) then an k_1 else am k_1) = M.v3 n am an k k_1 ∧ (bif decide (k = (2 : Nat)) then M.cat (fun i => bif decide ((0 : Nat) + i = (1 : Nat)) then m else bif decide ((0 : Nat) + i = (0 : Nat)) then n else (0 : Nat)) (fun i k => bif decide ((0 : Nat) + i = (1 : Nat)) then pf k else pe k) (2 : Nat) k_1 else bif decide (k = (1 : Nat)) then pf k_1 else pe k_1) = M.v3 n pe pf k k_1 ∧ (bif decide (k = (2 : Nat)) then M.cat (fun i => bif decide ((0 : Nat) + i = (1 : Nat)) then m else bif decide ((0 : Nat) + i = (0 : Nat)) then n else (0 : Nat)) (fun i k => bif decide ((0 : Nat) + i = (1 : Nat)) then pg k else ph k) (2 : Nat) k_1 else bif decide (k = (1 : Nat)) then pg k_1 else ph k_1) = M.v3 n ph pg k k_1) ∧ True) ∧ ((!decide (M.joinE mn n am pe ph mo m an pf pg = (0 : Int))) = false → ((M.ws mn mo = if M.joinE mn n am pe ph mo m an pf pg = (0 : Int) then M.ws mn mo else (0 : Int)) ∧ (n + m = if M.joinE mn n am pe ph mo m an pf pg = (0 : Int) then n + m else (0 : Nat)) ∧ ∀ (k : Nat), k < n + m → M.cat2 n am an k = M.cat2 n am an k ∧ M.cat2 n pe pf k = M.cat2 n pe pf k ∧ M.cat2 n ph pg k = M.cat2 n ph pg k) ∧ (0 : Int) = M.joinE mn n am pe ph mo m an pf pg) ∧ ((!decide (M.joinE mn n am pe ph mo m an pf pg = (0 : Int))) = true → (((0 : Int) = if M.joinE mn n am pe ph mo m an pf pg = (0 : Int) then M.ws mn mo else (0 : Int)) ∧ ((0 : Nat) = if M.joinE mn n am pe ph mo m an pf pg = (0 : Int) then n + m else (0 : Nat)) ∧ ∀ (k : Nat), k < (0 : Nat) → M.cat2 n am an k = M.cat2 n am an k ∧ M.cat2 n pe pf k = M.cat2 n pe pf k ∧ M.cat2 n ph pg k = M.cat2 n ph pg k) ∧ M.joinE mn n am pe ph mo m an pf pg = M.joinE mn n am pe ph mo m an pf pg)
theorem r21 (mn : Int) (n : Nat) (am pe ph : Nat → Int) (mo : Int) (m : Nat) (an pf pg : Nat → Int) : V false [] [(49, pureE e49)] Try.f21 [0,1,2,3,4,5,6,8,9,25,26,27,28,34] [(0, loopT false Try.f21.ntmps 0 (lp21 mn n am pe ph mo m an pf pg) (fun _ _ _ => (0 : Nat)))] [.agg [SI mn, .sl 3 n (fun k => [SI (am k), SI (pe k), SI (ph k)])], .agg [SI mo, .sl 3 m (fun k => [SI (an k), SI (pf k), SI (pg k)])]] (.tup [.agg [SI (if (M.joinE mn n am pe ph mo m an pf pg) = 0 then M.ws mn mo else 0), .sl 3 (if (M.joinE mn n am pe ph mo m an pf pg) = 0 then n + m else 0) (fun j => [SI (M.cat2 n am an j), SI (M.cat2 n pe pf j), SI (M.cat2 n ph pg j)])], SI (M.joinE mn n am pe ph mo m an pf pg)]) = Rr21 mn n am pe ph mo m an pf pg := by kernel_rfl
theorem br21 (mn : Int) (n : Nat) (am pe ph : Nat → Int) (mo : Int) (m : Nat) (an pf pg : Nat → Int) (hp : (n ≤ 100) ∧ (m ≤ 100) ∧ AllP []) : Rr21 mn n am pe ph mo m an pf pg := by
  unfold Rr21
  obtain ⟨hn, hm, -⟩ := id hp
  refine ⟨by omega, fun i hi => ⟨rfl, fun k hk => ⟨rfl, rfl, rfl⟩⟩, by omega, fun i hi => ?_, ⟨⟨by omega, hn, hm⟩, fun i hi => by omega⟩, ?_, fun h => ?_, fun h => ?_⟩
  · have : i = 0 ∨ i = 1 := by omega
    rcases this with e | e <;> subst e <;> simp <;> omega
  · simp only [Nat.zero_add]
    have t2 : M.tot (fun i => bif decide (i = 1) then m else bif decide (i = 0) then n else 0) 2 = n + m := by simp [M.tot]
    have ct : ∀ (f g : Nat → Int) (j : Nat), M.cat (fun i => bif decide (i = 1) then m else bif decide (i = 0) then n else 0) (fun i k => bif decide (i = 1) then g k else f k) 2 j = M.cat2 n f g j := fun f g j => by
      rw [M.cat2_eq]; simp
    simp only [t2, ct]
    refine ⟨by simp, by simp, by simp, by simp, rfl, ⟨by simp, fun k hk => by simp⟩, by omega, fun k hk => ?_, trivial⟩
    have : k = 0 ∨ k = 1 ∨ k = 2 := by omega
    rcases this with e | e | e <;> subst e <;> simp [M.mn3, M.n3, M.v3, M.ws]
  · have h' : (M.joinE mn n am pe ph mo m an pf pg) = 0 := by simpa using h
    simp [h']
  · have h' : ¬ (M.joinE mn n am pe ph mo m an pf pg) = 0 := by simpa using h
    simp [h']
theorem s21 : PureOK PP 21 e21 := by
  intro xs ps res h hp
  unfold e21 at h
  split at h
  · rename_i mn n g_1 mo m g_2
    simp only [Option.some.injEq, Prod.mk.injEq] at h
    obtain ⟨rfl, rfl⟩ := h
    simp only [AllP.cons] at hp
    obtain ⟨Hg_1, hp⟩ := hp
    obtain ⟨Hg_2, hp⟩ := hp
    refine Spec.args (ys := [.agg [SI mn, .sl 3 n (fun k => [SI ((cI g_1 0) k), SI ((cI g_1 1) k), SI ((cI g_1 2) k)])], .agg [SI mo, .sl 3 m (fun k => [SI ((cI g_2 0) k), SI ((cI g_2 1) k), SI ((cI g_2 2) k)])]]) ?_ (.cons (.agg (.cons (.refl _) (.cons (.row Hg_1 fun _ => rfl) .nil))) (.cons (.agg (.cons (.refl _) (.cons (.row Hg_2 fun _ => rfl) .nil))) .nil))
    refine enter (L := [0,1,2,3,4,5,6,8,9,25,26,27,28,34]) (LO := [(0, loopT false Try.f21.ntmps 0 (lp21 mn n (cI g_1 0) (cI g_1 1) (cI g_1 2) mo m (cI g_2 0) (cI g_2 1) (cI g_2 2)) (fun _ _ _ => (0 : Nat)))]) (E := []) (O := [(49, pureE e49)]) (ck := false) (.nil) (.cons (pureE_ok s49) (.nil)) (k := 21) (f := Try.f21) (xs := [.agg [SI mn, .sl 3 n (fun k => [SI ((cI g_1 0) k), SI ((cI g_1 1) k), SI ((cI g_1 2) k)])], .agg [SI mo, .sl 3 m (fun k => [SI ((cI g_2 0) k), SI ((cI g_2 1) k), SI ((cI g_2 2) k)])]]) (r := (.tup [.agg [SI (if (M.joinE mn n (cI g_1 0) (cI g_1 1) (cI g_1 2) mo m (cI g_2 0) (cI g_2 1) (cI g_2 2)) = 0 then M.ws mn mo else 0), .sl 3 (if (M.joinE mn n (cI g_1 0) (cI g_1 1) (cI g_1 2) mo m (cI g_2 0) (cI g_2 1) (cI g_2 2)) = 0 then n + m else 0) (fun j => [SI (M.cat2 n (cI g_1 0) (cI g_2 0) j), SI (M.cat2 n (cI g_1 1) (cI g_2 1) j), SI (M.cat2 n (cI g_1 2) (cI g_2 2) j)])], SI (M.joinE mn n (cI g_1 0) (cI g_1 1) (cI g_1 2) mo m (cI g_2 0) (cI g_2 1) (cI g_2 2))])) (by kernel_rfl) (by kernel_rfl) (fun Y => .cons (by kernel_rfl) (t21 mn n (cI g_1 0) (cI g_1 1) (cI g_1 2) mo m (cI g_2 0) (cI g_2 1) (cI g_2 2) FOK.wide Y) (.nil)) ?_
    exact Hold.of (r21 mn n (cI g_1 0) (cI g_1 1) (cI g_1 2) mo m (cI g_2 0) (cI g_2 1) (cI g_2 2)) (br21 mn n (cI g_1 0) (cI g_1 1) (cI g_1 2) mo m (cI g_2 0) (cI g_2 1) (cI g_2 2) hp)
  · cases h
end Go.Proofs.Ytpbgkohljjmbhaa.Sep
/-
  Contracts of the pieces of a span of times. No condition. (This text proves no statement by itself.)
-/
namespace Go.Proofs.Ytpbgkohljjmbhaa.Sep
open Go
set_option linter.unusedVariables false
set_option linter.unusedSimpArgs false
def e50 : List SV → Option (List Prop × SV)
  | [.agg [.int .i64 mn, .sl 3 n g_1], .agg [.int .i64 x, .int .i64 y], .int .i64 st] => some ([Row 3 n g_1, R64 n], SI (M.stE mn n (cI g_1 0) (cI g_1 1) (cI g_1 2) x y st))
  | _ => none
def Rr50 (mn : Int) (n : Nat) (am pe ph : Nat → Int) (x y st : Int) : Prop := (∀ (k : Nat), k < n → am k = am k ∧ pe k = pe k ∧ ph k = ph k) ∧ R64 (↑n : Int) ∧ ((!decide (M.timE mn n am pe ph x y = (0 : Int))) = true → M.timE mn n am pe ph x y = M.stE mn n am pe ph x y st) ∧ ((!decide (M.timE mn n am pe ph x y = (0 : Int))) = false → (decide (st < (1 : Int)) = true → (3 : Int) = M.stE mn n am pe ph x y st) ∧ (decide (st < (1 : Int)) = false → R64 (y - x) ∧ R64 (y - x - (1 : Int)) ∧ st ≠ (0 : Int) ∧ R64 (Int.tdiv (y - x - (1 : Int)) st) ∧ (decide ((10000 : Int) ≤ Int.tdiv (y - x - (1 : Int)) st) = true → (9 : Int) = M.stE mn n am pe ph x y st) ∧ (decide ((10000 : Int) ≤ Int.tdiv (y - x - (1 : Int)) st) = false → (0 : Int) = M.stE mn n am pe ph x y st)))
theorem r50 (mn : Int) (n : Nat) (am pe ph : Nat → Int) (x y st : Int) : V true [] [(44, pureE e44)] Try.f50 [0,1,2,3,4,6,7,11,15,18] [] [.agg [SI mn, .sl 3 n (fun k => [SI (am k), SI (pe k), SI (ph k)])], .agg [SI x, SI y], SI st] (SI (M.stE mn n am pe ph x y st)) = Rr50 mn n am pe ph x y st := by kernel_rfl
theorem br50 (mn : Int) (n : Nat) (am pe ph : Nat → Int) (x y st : Int) (hp : (R64 n) ∧ AllP []) : Rr50 mn n am pe ph x y st := by
  unfold Rr50
  have hn := hp.1
  by_cases ht : M.timE mn n am pe ph x y = 0
  · obtain ⟨hm, t1, t2, t3⟩ := M.timE_iff.1 ht
    have r1 : R64 (y - x) := by unfold R64; omega
    have r2 : R64 (y - x - 1) := by unfold R64; omega
    by_cases hs : st < 1
    · simp [ht, hs, hn, M.stE]
    · have h1 := M.tdiv_ge (a := y - x - 1) (st := st) (by omega)
      have hd := M.tdiv_bd (a := y - x - 1) (b := st) (m := 1000000000) (by omega) (by omega) (by omega)
      have r3 : R64 ((y - x - 1).tdiv st) := by unfold R64; omega
      have hz : st ≠ 0 := by omega
      by_cases hc : 10000 * st < y - x
      · have h2 : 10000 ≤ (y - x - 1).tdiv st := h1.2 (by omega)
        simp [ht, hs, hn, M.stE, h2, hc, r1, r2, r3, hz]
      · have h2 : ¬ 10000 ≤ (y - x - 1).tdiv st := fun h => hc (by have := h1.1 h; omega)
        simp [ht, hs, hn, M.stE, h2, hc, r1, r2, r3, hz]
  · simp [ht, hn, M.stE]
theorem s50 : PureOK PP 50 e50 := by
  intro xs ps res h hp
  unfold e50 at h
  split at h
  · rename_i mn n g_1 x y st
    simp only [Option.some.injEq, Prod.mk.injEq] at h
    obtain ⟨rfl, rfl⟩ := h
    simp only [AllP.cons] at hp
    obtain ⟨Hg_1, hp⟩ := hp
    refine Spec.args (ys := [.agg [SI mn, .sl 3 n (fun k => [SI ((cI g_1 0) k), SI ((cI g_1 1) k), SI ((cI g_1 2) k)])], .agg [SI x, SI y], SI st]) ?_ (.cons (.agg (.cons (.refl _) (.cons (.row Hg_1 fun _ => rfl) .nil))) (.cons (.refl _) (.cons (.refl _) .nil)))
    refine enter (L := [0,1,2,3,4,6,7,11,15,18]) (LO := []) (E := []) (O := [(44, pureE e44)]) (ck := true) (.nil) (.cons (pureE_ok s44) (.nil)) (k := 50) (f := Try.f50) (xs := [.agg [SI mn, .sl 3 n (fun k => [SI ((cI g_1 0) k), SI ((cI g_1 1) k), SI ((cI g_1 2) k)])], .agg [SI x, SI y], SI st]) (r := (SI (M.stE mn n (cI g_1 0) (cI g_1 1) (cI g_1 2) x y st))) (by kernel_rfl) (by kernel_rfl) (fun _ => .nil) ?_
    exact Hold.of (r50 mn n (cI g_1 0) (cI g_1 1) (cI g_1 2) x y st) (br50 mn n (cI g_1 0) (cI g_1 1) (cI g_1 2) x y st hp)
  · cases h
def e51 : List SV → Option (List Prop × SV)
  | [.agg [.int .i64 x, .int .i64 y], .int .i64 st] => some ([], .fn 65 [] [.sptr 2 1 (fun _ => [SI x, SI y]) 0 0, .sptr 1 1 (fun _ => [SI st]) 0 0])
  | _ => none
def Rr51 (x y st : Int) : Prop := True ∧ ((1 : Nat) = (1 : Nat) ∧ (0 : Nat) = (0 : Nat) ∧ ∀ (q : Nat), q < (1 : Nat) → x = x ∧ y = y) ∧ (1 : Nat) = (1 : Nat) ∧ (0 : Nat) = (0 : Nat) ∧ ∀ (q : Nat), q < (1 : Nat) → st = st
theorem r51 (x y st : Int) : V true [] [] Try.f51 [0,1,2,3,4] [] [.agg [SI x, SI y], SI st] (.fn 65 [] [.sptr 2 1 (fun _ => [SI x, SI y]) 0 0, .sptr 1 1 (fun _ => [SI st]) 0 0]) = Rr51 x y st := by kernel_rfl
theorem br51 (x y st : Int)  : Rr51 x y st := by
  unfold Rr51
  simp
theorem s51 : PureOK PP 51 e51 := by
  intro xs ps res h hp
  unfold e51 at h
  split at h
  · rename_i x y st
    simp only [Option.some.injEq, Prod.mk.injEq] at h
    obtain ⟨rfl, rfl⟩ := h
    clear hp
    refine enter (L := [0,1,2,3,4]) (LO := []) (E := []) (O := []) (ck := true) (.nil) (.nil) (k := 51) (f := Try.f51) (xs := [.agg [SI x, SI y], SI st]) (r := (.fn 65 [] [.sptr 2 1 (fun _ => [SI x, SI y]) 0 0, .sptr 1 1 (fun _ => [SI st]) 0 0])) (by kernel_rfl) (by kernel_rfl) (fun _ => .nil) ?_
    exact Hold.of (r51 x y st) (br51 x y st )
  · cases h
def lp52 (mn : Int) (n : Nat) (am pe ph : Nat → Int) (x y st : Int) : LoopS where
  ι := Nat
  β := Unit
  pre k := k + 1 ≤ (M.pcN x y st) ∧ (1 ≤ st ∧ st ≤ 1000000000 ∧ 0 ≤ x ∧ x ≤ y ∧ y ≤ 1000000000 ∧ y - x ≤ 10000 * st)
  μ k := (M.pcN x y st) - k
  next k _ _ _ := k + 1
  out _ := ()
  early _ := false
  SA k := [(2, SI st), (4, .ptr 0 0), (9, .vec 1 2 0 (k + 1))]
  SH k := [(0, .cells [SI x, SI y]), (1, .row 2 (k + 1) (fun k => [SI (M.pcL x st k), SI (M.pcH x y st k)]))]
  n0 := 2
  NA _ := [(9, .vec 0 2 0 (M.pcN x y st))]
  NH _ := [(0, .row 2 (M.pcN x y st) (fun k => [SI (M.pcL x st k), SI (M.pcH x y st k)]))]
  n1 := 1
  RA _ := []
  RH _ := []
def Rq52 (mn : Int) (n : Nat) (am pe ph : Nat → Int) (x y st : Int) (k : Nat) : Prop := R64 ((↑(k + (1 : Nat)) : Int) - (1 : Int)) ∧ (0 : Int) ≤ (↑(k + (1 : Nat)) : Int) - (1 : Int) ∧ (↑(k + (1 : Nat)) : Int) - (1 : Int) < (↑(k + (1 : Nat)) : Int) ∧ (0 : Nat) + Int.toNat ((↑(k + (1 : Nat)) : Int) - (1 : Int)) < k + (1 : Nat) ∧ (decide (M.pcH x y st ((0 : Nat) + Int.toNat ((↑(k + (1 : Nat)) : Int) - (1 : Int))) < y) = true → R64 ((↑(k + (1 : Nat)) : Int) - (1 : Int)) ∧ (0 : Int) ≤ (↑(k + (1 : Nat)) : Int) - (1 : Int) ∧ (↑(k + (1 : Nat)) : Int) - (1 : Int) < (↑(k + (1 : Nat)) : Int) ∧ (0 : Nat) + Int.toNat ((↑(k + (1 : Nat)) : Int) - (1 : Int)) < k + (1 : Nat) ∧ R64 (M.pcH x y st ((0 : Nat) + Int.toNat ((↑(k + (1 : Nat)) : Int) - (1 : Int))) + st) ∧ (0 : Nat) + (1 : Nat) ≤ (1 : Nat) ∧ (∀ (k : Nat), k < (1 : Nat) → true = true) ∧ k + (1 : Nat) ≤ k + (1 : Nat) ∧ (k + (1 : Nat) + (1 : Nat)) * (16 : Nat) ≤ (140737488355328 : Nat) ∧ (k + (1 : Nat) + (1 : Nat) ≤ M.pcN x y st ∧ (1 : Int) ≤ st ∧ st ≤ (1000000000 : Int) ∧ (0 : Int) ≤ x ∧ x ≤ y ∧ y ≤ (1000000000 : Int) ∧ y - x ≤ (10000 : Int) * st) ∧ M.pcN x y st - (k + (1 : Nat)) < M.pcN x y st - k ∧ () = () ∧ st = st ∧ (0 : Nat) = (0 : Nat) ∧ k + (1 : Nat) + (1 : Nat) = k + (1 : Nat) + (1 : Nat) ∧ x = x ∧ y = y ∧ k + (1 : Nat) + (1 : Nat) ≤ k + (1 : Nat) + (1 : Nat) ∧ (∀ (k_1 : Nat), k_1 < k + (1 : Nat) + (1 : Nat) → (bif decide (k_1 < k + (1 : Nat)) then M.pcL x st k_1 else M.pcH x y st ((0 : Nat) + Int.toNat ((↑(k + (1 : Nat)) : Int) - (1 : Int)))) = M.pcL x st k_1 ∧ (bif decide (k_1 < k + (1 : Nat)) then M.pcH x y st k_1 else min (M.pcH x y st ((0 : Nat) + Int.toNat ((↑(k + (1 : Nat)) : Int) - (1 : Int))) + st) y) = M.pcH x y st k_1) ∧ True) ∧ (decide (M.pcH x y st ((0 : Nat) + Int.toNat ((↑(k + (1 : Nat)) : Int) - (1 : Int))) < y) = false → false = false ∧ (0 : Nat) = (0 : Nat) ∧ k + (1 : Nat) = M.pcN x y st ∧ M.pcN x y st ≤ k + (1 : Nat) ∧ (∀ (k : Nat), k < M.pcN x y st → M.pcL x st k = M.pcL x st k ∧ M.pcH x y st k = M.pcH x y st k) ∧ True)
theorem q52 (mn : Int) (n : Nat) (am pe ph : Nat → Int) (x y st : Int) (k : Nat) : VL true [] [] YS.none Try.f52 0 [0,1,2,3,4,6,7,8,9,10,14,22,32,53] [] 0 (lp52 mn n am pe ph x y st) (k) = Rq52 mn n am pe ph x y st k := by kernel_rfl
theorem peq52 (mn : Int) (n : Nat) (am pe ph : Nat → Int) (x y st : Int) (k : Nat) : (lp52 mn n am pe ph x y st).pre (k) = (k + (1 : Nat) ≤ M.pcN x y st ∧ (1 : Int) ≤ st ∧ st ≤ (1000000000 : Int) ∧ (0 : Int) ≤ x ∧ x ≤ y ∧ y ≤ (1000000000 : Int) ∧ y - x ≤ (10000 : Int) * st) := by kernel_rfl
theorem bq52 (mn : Int) (n : Nat) (am pe ph : Nat → Int) (x y st : Int) (k : Nat) (hp : k + (1 : Nat) ≤ M.pcN x y st ∧ (1 : Int) ≤ st ∧ st ≤ (1000000000 : Int) ∧ (0 : Int) ≤ x ∧ x ≤ y ∧ y ≤ (1000000000 : Int) ∧ y - x ≤ (10000 : Int) * st) : Rq52 mn n am pe ph x y st k := by
  unfold Rq52
  obtain ⟨hk, s1, s2, x1, x2, y1, hb⟩ := id hp
  have hN := M.pcN_le s1 hb
  obtain ⟨-, hpc⟩ := M.pc_spec x2 s1
  obtain ⟨p1, p2, p3, p4, p5⟩ := hpc k (by omega)
  have e1 : ((k + 1 : Nat) : Int) - 1 = (k : Int) := by omega
  simp only [e1, Int.toNat_natCast, Nat.zero_add, decide_eq_true_eq, decide_eq_false_iff_not]
  have r1 : R64 (k : Int) := by unfold R64; omega
  have r2 : R64 (M.pcH x y st k + st) := by unfold R64; omega
  refine ⟨r1, by omega, by omega, by omega, fun h => ?_, fun h => ?_⟩
  · have hk1 : k + 1 < M.pcN x y st := by
      rcases Nat.lt_or_ge (k + 1) (M.pcN x y st) with e | e
      · exact e
      · have := p1.2 (by omega); omega
    obtain ⟨-, -, -, -, q5⟩ := hpc (k + 1) hk1
    have e2 : M.pcH x y st k = M.pcL x st (k + 1) := by omega
    refine ⟨r1, by omega, by omega, by omega, r2, by omega, by simp, by omega, by omega, ⟨by omega, s1, s2, x1, x2, y1, hb⟩, by omega, by simp, by simp, by simp, by simp, by simp, by simp, by omega, fun j hj => ?_, trivial⟩
    by_cases hj' : j < k + 1
    · simp [hj']
    · have : j = k + 1 := by omega
      subst this
      simp [e2, q5]
  · have hk1 : k + 1 = M.pcN x y st := p1.1 (by omega)
    simp [hk1]
theorem t52 (mn : Int) (n : Nat) (am pe ph : Nat → Int) (x y st : Int) {F : Fence} (hF : FOK F) (Y : YEnv PP YS.none) : ∀ Q A H nx, loopT false Try.f52.ntmps 0 (lp52 mn n am pe ph x y st) (fun _ _ _ => (0 : Nat)) Q A H nx → WPS Y F Try.f52.ntmps 0 (.block 0 (blkAt 0 Try.f52)) Q A H nx :=
  loopW (E := []) (.nil) (O := []) (.nil) (ck := true) (L := [0,1,2,3,4,6,7,8,9,10,14,22,32,53]) (f := Try.f52) (m := 0) (id := 0) (l := (lp52 mn n am pe ph x y st)) (LI := fun i => []) Y hF (by kernel_rfl) (fun _ => .nil) (by
    rintro k hp
    exact Hold.of (q52 mn n am pe ph x y st k) (bq52 mn n am pe ph x y st k ((peq52 mn n am pe ph x y st k).mp hp)))
def e52 : List SV → Option (List Prop × SV)
  | [.agg [.int .i64 mn, .sl 3 n g_1], .agg [.int .i64 x, .int .i64 y], .int .i64 st] => some ([Row 3 n g_1, R64 n], .tup [.sl 2 (if (M.stE mn n (cI g_1 0) (cI g_1 1) (cI g_1 2) x y st) = 0 then (M.pcN x y st) else 0) (fun k => [SI (M.pcL x st k), SI (M.pcH x y st k)]), SI (M.stE mn n (cI g_1 0) (cI g_1 1) (cI g_1 2) x y st)])
  | _ => none
def Rr52 (mn : Int) (n : Nat) (am pe ph : Nat → Int) (x y st : Int) : Prop := (∀ (k : Nat), k < n → am k = am k ∧ pe k = pe k ∧ ph k = ph k) ∧ R64 (↑n : Int) ∧ ((!decide (M.modE mn n am pe ph = (0 : Int))) = true → (if M.stE mn n am pe ph x y st = (0 : Int) then M.pcN x y st else (0 : Nat)) = (0 : Nat) ∧ M.modE mn n am pe ph = M.stE mn n am pe ph x y st) ∧ ((!decide (M.modE mn n am pe ph = (0 : Int))) = false → ((!!M.within x y (0 : Int) (1000000000 : Int)) = true → (!!M.within x y (0 : Int) (1000000000 : Int)) = true) ∧ ((!M.within x y (0 : Int) (1000000000 : Int)) = false → (!!M.within x y (0 : Int) (1000000000 : Int)) = true) ∧ ((bif !M.within x y (0 : Int) (1000000000 : Int) then true else decide (st < (1 : Int))) = true → (if M.stE mn n am pe ph x y st = (0 : Int) then M.pcN x y st else (0 : Nat)) = (0 : Nat) ∧ (3 : Int) = M.stE mn n am pe ph x y st) ∧ ((bif !M.within x y (0 : Int) (1000000000 : Int) then true else decide (st < (1 : Int))) = false → R64 (y - x) ∧ (0 : Int) < min st (1000000000 : Int) ∧ (-9000000000000000000 : Int) ≤ y - x ∧ y - x ≤ (9000000000000000000 : Int) ∧ (decide ((10000 : Int) < -(-(y - x) / min st (1000000000 : Int))) = true → (if M.stE mn n am pe ph x y st = (0 : Int) then M.pcN x y st else (0 : Nat)) = (0 : Nat) ∧ (9 : Int) = M.stE mn n am pe ph x y st) ∧ (decide ((10000 : Int) < -(-(y - x) / min st (1000000000 : Int))) = false → R64 (x + min st (1000000000 : Int)) ∧ ((0 : Nat) + (1 : Nat) ≤ M.pcN x y (min st (1000000000 : Int)) ∧ (1 : Int) ≤ min st (1000000000 : Int) ∧ min st (1000000000 : Int) ≤ (1000000000 : Int) ∧ (0 : Int) ≤ x ∧ x ≤ y ∧ y ≤ (1000000000 : Int) ∧ y - x ≤ (10000 : Int) * min st (1000000000 : Int)) ∧ (min st (1000000000 : Int) = min st (1000000000 : Int) ∧ (0 : Nat) = (0 : Nat) ∧ (1 : Nat) = (0 : Nat) + (1 : Nat) ∧ x = x ∧ y = y ∧ (0 : Nat) + (1 : Nat) ≤ (1 : Nat) ∧ (∀ (k : Nat), k < (0 : Nat) + (1 : Nat) → x = M.pcL x (min st (1000000000 : Int)) k ∧ min (x + min st (1000000000 : Int)) y = M.pcH x y (min st (1000000000 : Int)) k) ∧ True) ∧ (false = false → (0 : Nat) + M.pcN x y (min st (1000000000 : Int)) ≤ M.pcN x y (min st (1000000000 : Int)) ∧ ((M.pcN x y (min st (1000000000 : Int)) = if M.stE mn n am pe ph x y st = (0 : Int) then M.pcN x y st else (0 : Nat)) ∧ ∀ (k : Nat), k < M.pcN x y (min st (1000000000 : Int)) → M.pcL x (min st (1000000000 : Int)) ((0 : Nat) + k) = M.pcL x st k ∧ M.pcH x y (min st (1000000000 : Int)) ((0 : Nat) + k) = M.pcH x y st k) ∧ (0 : Int) = M.stE mn n am pe ph x y st) ∧ (false = true → False))))
theorem r52 (mn : Int) (n : Nat) (am pe ph : Nat → Int) (x y st : Int) : V true [] [(16, pureE e16), (38, pureE e38), (63, pureE e63)] Try.f52 [0,1,2,3,4,6,7,8,9,10,14,22,32,53] [(0, loopT false Try.f52.ntmps 0 (lp52 mn n am pe ph x y (min st 1000000000)) (fun _ _ _ => (0 : Nat)))] [.agg [SI mn, .sl 3 n (fun k => [SI (am k), SI (pe k), SI (ph k)])], .agg [SI x, SI y], SI st] (.tup [.sl 2 (if (M.stE mn n am pe ph x y st) = 0 then (M.pcN x y st) else 0) (fun k => [SI (M.pcL x st k), SI (M.pcH x y st k)]), SI (M.stE mn n am pe ph x y st)]) = Rr52 mn n am pe ph x y st := by kernel_rfl
theorem br52 (mn : Int) (n : Nat) (am pe ph : Nat → Int) (x y st : Int) (hp : (R64 n) ∧ AllP []) : Rr52 mn n am pe ph x y st := by
  unfold Rr52
  have hn := hp.1
  have hT : M.timE mn n am pe ph x y = if M.modE mn n am pe ph = 0 then if M.within x y 0 1000000000 then 0 else 3 else M.modE mn n am pe ph := rfl
  by_cases hm : M.modE mn n am pe ph = 0
  · by_cases hw : M.within x y 0 1000000000 = true
    · have ht : M.timE mn n am pe ph x y = 0 := by simp [hT, hm, hw]
      obtain ⟨-, t1, t2, t3⟩ := M.timE_iff.1 ht
      have r1 : R64 (y - x) := by unfold R64; omega
      by_cases hs : st < 1
      · simp [ht, hs, hn, M.stE, hm, hw]
      · obtain ⟨q1, q2⟩ := M.pc_min (lo := x) (hi := y) (st := st) (b := 1000000000) (by omega) t1 (by omega) (by omega)
        have hg := M.cdiv_gt (a := y - x) (st := min st 1000000000) (by omega)
        have hsp := M.pc_spec (lo := x) (hi := y) (st := min st 1000000000) t1 (by omega)
        have r2 : R64 (x + min st 1000000000) := by unfold R64; omega
        by_cases hc : 10000 * st < y - x
        · have h2 := hg.2 (by omega)
          simp [ht, hs, hn, M.stE, hm, hw, r1, h2, hc]
          omega
        · have h2 : ¬ 10000 < -(-(y - x) / min st 1000000000) := fun h => hc (by have := hg.1 h; omega)
          have hse : (M.stE mn n am pe ph x y st) = 0 := by simp [M.stE, ht, hs, hc]
          have h3 := (hsp.2 0 (by omega)).2.2.2.2
          have e0 : M.pcL x (min st 1000000000) 0 = x := by simp [M.pcL]
          rw [e0] at h3
          have h4 : ∀ k, k < 0 + 1 → x = M.pcL x (min st 1000000000) k ∧ min (x + min st 1000000000) y = M.pcH x y (min st 1000000000) k := fun k hk => by
            have : k = 0 := by omega
            subst this
            exact ⟨e0.symm, h3.symm⟩
          simp only [hm, hw, hse, hn, h2, hs, r1, r2]
          refine ⟨by simp, trivial, by simp, fun _ => ⟨by simp, by simp, by simp, fun _ => ⟨trivial, by omega, by omega, by omega, by simp, fun _ => ⟨trivial, ⟨by omega, by omega, by omega, t2, t1, t3, by omega⟩, ⟨by simp, by simp, by simp, by simp, by simp, by omega, h4, trivial⟩, fun _ => ⟨by omega, ⟨by simp [q1], fun k hk => ?_⟩, trivial⟩, by simp⟩⟩⟩⟩
          rw [Nat.zero_add]
          exact q2 k (by omega)
    · have ht : M.timE mn n am pe ph x y = 3 := by simp [hT, hm, hw]
      simp [ht, hn, M.stE, hm, hw]
  · have ht : M.timE mn n am pe ph x y = M.modE mn n am pe ph := by simp [hT, hm]
    simp [ht, hn, M.stE, hm]
theorem s52 : PureOK PP 52 e52 := by
  intro xs ps res h hp
  unfold e52 at h
  split at h
  · rename_i mn n g_1 x y st
    simp only [Option.some.injEq, Prod.mk.injEq] at h
    obtain ⟨rfl, rfl⟩ := h
    simp only [AllP.cons] at hp
    obtain ⟨Hg_1, hp⟩ := hp
    refine Spec.args (ys := [.agg [SI mn, .sl 3 n (fun k => [SI ((cI g_1 0) k), SI ((cI g_1 1) k), SI ((cI g_1 2) k)])], .agg [SI x, SI y], SI st]) ?_ (.cons (.agg (.cons (.refl _) (.cons (.row Hg_1 fun _ => rfl) .nil))) (.cons (.refl _) (.cons (.refl _) .nil)))
    refine enter (L := [0,1,2,3,4,6,7,8,9,10,14,22,32,53]) (LO := [(0, loopT false Try.f52.ntmps 0 (lp52 mn n (cI g_1 0) (cI g_1 1) (cI g_1 2) x y (min st 1000000000)) (fun _ _ _ => (0 : Nat)))]) (E := []) (O := [(16, pureE e16), (38, pureE e38), (63, pureE e63)]) (ck := true) (.nil) (.cons (pureE_ok s16) (.cons (pureE_ok s38) (.cons (pureE_ok s63) (.nil)))) (k := 52) (f := Try.f52) (xs := [.agg [SI mn, .sl 3 n (fun k => [SI ((cI g_1 0) k), SI ((cI g_1 1) k), SI ((cI g_1 2) k)])], .agg [SI x, SI y], SI st]) (r := (.tup [.sl 2 (if (M.stE mn n (cI g_1 0) (cI g_1 1) (cI g_1 2) x y st) = 0 then (M.pcN x y st) else 0) (fun k => [SI (M.pcL x st k), SI (M.pcH x y st k)]), SI (M.stE mn n (cI g_1 0) (cI g_1 1) (cI g_1 2) x y st)])) (by kernel_rfl) (by kernel_rfl) (fun Y => .cons (by kernel_rfl) (t52 mn n (cI g_1 0) (cI g_1 1) (cI g_1 2) x y (min st 1000000000) FOK.wide Y) (.nil)) ?_
    exact Hold.of (r52 mn n (cI g_1 0) (cI g_1 1) (cI g_1 2) x y st) (br52 mn n (cI g_1 0) (cI g_1 1) (cI g_1 2) x y st hp)
  · cases h
def lp65 (l : Nat) (x y st : Int) : LoopS where
  ι := Nat
  β := Unit
  pre k := k < (M.pcN x y st) ∧ (1 ≤ st ∧ 0 ≤ x ∧ x ≤ y ∧ y ≤ 1000000000 ∧ R64 st)
  μ k := (M.pcN x y st) - k
  next k _ _ _ := k + 1
  out _ := ()
  early _ := true
  SA k := [(0, .lit (.func (.yield l) #[] #[])), (1, .sptr 2 1 (fun _ => [SI x, SI y]) 0 0), (2, .sptr 1 1 (fun _ => [SI st]) 0 0), (4, SI (M.pcL x st k))]
  SH _ := []
  n0 := 0
  g0 k := (k, true)
  NA _ := []
  NH _ := []
  n1 := 0
  gN _ _ _ := False
  gR _ k go := go = true → k = (M.pcN x y st)
  RA _ := []
  RH _ := []
def Rq65 (l : Nat) (x y st : Int) (k : Nat) : Prop := (0 : Nat) < (1 : Nat) ∧ (0 : Nat) < (1 : Nat) ∧ R64 (y - M.pcL x st k) ∧ (0 : Nat) < (1 : Nat) ∧ ((!decide (y - M.pcL x st k ≤ st)) = true → (0 : Nat) < (1 : Nat) ∧ R64 (M.pcL x st k + st) ∧ true = true ∧ l = l ∧ k < M.pcN x y st ∧ (M.pcL x st k = M.pcL x st k ∧ M.pcL x st k + st = M.pcH x y st k) ∧ (((!true) = false → (!!true) = true) ∧ ((bif !true then true else decide (y - M.pcL x st k ≤ st)) = true → (true = true → k + (1 : Nat) = M.pcN x y st) ∧ True) ∧ ((bif !true then true else decide (y - M.pcL x st k ≤ st)) = false → (0 : Nat) < (1 : Nat) ∧ R64 (M.pcL x st k + st) ∧ (k + (1 : Nat) < M.pcN x y st ∧ (1 : Int) ≤ st ∧ (0 : Int) ≤ x ∧ x ≤ y ∧ y ≤ (1000000000 : Int) ∧ R64 st) ∧ M.pcN x y st - (k + (1 : Nat)) < M.pcN x y st - k ∧ () = () ∧ k + (1 : Nat) = k + (1 : Nat) ∧ true = true ∧ Value.func (Fn.yield l) #[] #[] = Value.func (Fn.yield l) #[] #[] ∧ (1 : Nat) = (1 : Nat) ∧ (0 : Nat) = (0 : Nat) ∧ (∀ (q : Nat), q < (1 : Nat) → x = x ∧ y = y) ∧ (1 : Nat) = (1 : Nat) ∧ (0 : Nat) = (0 : Nat) ∧ (∀ (q : Nat), q < (1 : Nat) → st = st) ∧ M.pcL x st k + st = M.pcL x st (k + (1 : Nat)) ∧ True)) ∧ ((!false) = false → (!!false) = true) ∧ ((bif !false then true else decide (y - M.pcL x st k ≤ st)) = true → (false = true → k + (1 : Nat) = M.pcN x y st) ∧ True) ∧ ((bif !false then true else decide (y - M.pcL x st k ≤ st)) = false → (0 : Nat) < (1 : Nat) ∧ R64 (M.pcL x st k + st) ∧ (k + (1 : Nat) < M.pcN x y st ∧ (1 : Int) ≤ st ∧ (0 : Int) ≤ x ∧ x ≤ y ∧ y ≤ (1000000000 : Int) ∧ R64 st) ∧ M.pcN x y st - (k + (1 : Nat)) < M.pcN x y st - k ∧ () = () ∧ k + (1 : Nat) = k + (1 : Nat) ∧ false = true ∧ Value.func (Fn.yield l) #[] #[] = Value.func (Fn.yield l) #[] #[] ∧ (1 : Nat) = (1 : Nat) ∧ (0 : Nat) = (0 : Nat) ∧ (∀ (q : Nat), q < (1 : Nat) → x = x ∧ y = y) ∧ (1 : Nat) = (1 : Nat) ∧ (0 : Nat) = (0 : Nat) ∧ (∀ (q : Nat), q < (1 : Nat) → st = st) ∧ M.pcL x st k + st = M.pcL x st (k + (1 : Nat)) ∧ True)) ∧ ((!decide (y - M.pcL x st k ≤ st)) = false → true = true ∧ l = l ∧ k < M.pcN x y st ∧ (M.pcL x st k = M.pcL x st k ∧ y = M.pcH x y st k) ∧ (((!true) = false → (!!true) = true) ∧ ((bif !true then true else decide (y - M.pcL x st k ≤ st)) = true → (true = true → k + (1 : Nat) = M.pcN x y st) ∧ True) ∧ ((bif !true then true else decide (y - M.pcL x st k ≤ st)) = false → (0 : Nat) < (1 : Nat) ∧ R64 (M.pcL x st k + st) ∧ (k + (1 : Nat) < M.pcN x y st ∧ (1 : Int) ≤ st ∧ (0 : Int) ≤ x ∧ x ≤ y ∧ y ≤ (1000000000 : Int) ∧ R64 st) ∧ M.pcN x y st - (k + (1 : Nat)) < M.pcN x y st - k ∧ () = () ∧ k + (1 : Nat) = k + (1 : Nat) ∧ true = true ∧ Value.func (Fn.yield l) #[] #[] = Value.func (Fn.yield l) #[] #[] ∧ (1 : Nat) = (1 : Nat) ∧ (0 : Nat) = (0 : Nat) ∧ (∀ (q : Nat), q < (1 : Nat) → x = x ∧ y = y) ∧ (1 : Nat) = (1 : Nat) ∧ (0 : Nat) = (0 : Nat) ∧ (∀ (q : Nat), q < (1 : Nat) → st = st) ∧ M.pcL x st k + st = M.pcL x st (k + (1 : Nat)) ∧ True)) ∧ ((!false) = false → (!!false) = true) ∧ ((bif !false then true else decide (y - M.pcL x st k ≤ st)) = true → (false = true → k + (1 : Nat) = M.pcN x y st) ∧ True) ∧ ((bif !false then true else decide (y - M.pcL x st k ≤ st)) = false → (0 : Nat) < (1 : Nat) ∧ R64 (M.pcL x st k + st) ∧ (k + (1 : Nat) < M.pcN x y st ∧ (1 : Int) ≤ st ∧ (0 : Int) ≤ x ∧ x ≤ y ∧ y ≤ (1000000000 : Int) ∧ R64 st) ∧ M.pcN x y st - (k + (1 : Nat)) < M.pcN x y st - k ∧ () = () ∧ k + (1 : Nat) = k + (1 : Nat) ∧ false = true ∧ Value.func (Fn.yield l) #[] #[] = Value.func (Fn.yield l) #[] #[] ∧ (1 : Nat) = (1 : Nat) ∧ (0 : Nat) = (0 : Nat) ∧ (∀ (q : Nat), q < (1 : Nat) → x = x ∧ y = y) ∧ (1 : Nat) = (1 : Nat) ∧ (0 : Nat) = (0 : Nat) ∧ (∀ (q : Nat), q < (1 : Nat) → st = st) ∧ M.pcL x st k + st = M.pcL x st (k + (1 : Nat)) ∧ True))
theorem q65 (l : Nat) (x y st : Int) (k : Nat) : VL true [] [(47, pureE e47)] ((YS.mk true l (M.pcN x y st) (fun k => [.agg [SI (M.pcL x st k), SI (M.pcH x y st k)]]))) Try.f65 0 [0,1,2,4,5,6,24,36] [] 0 (lp65 l x y st) (k) = Rq65 l x y st k := by kernel_rfl
theorem peq65 (l : Nat) (x y st : Int) (k : Nat) : (lp65 l x y st).pre (k) = (k < M.pcN x y st ∧ (1 : Int) ≤ st ∧ (0 : Int) ≤ x ∧ x ≤ y ∧ y ≤ (1000000000 : Int) ∧ R64 st) := by kernel_rfl
theorem bq65 (l : Nat) (x y st : Int) (k : Nat) (hp : k < M.pcN x y st ∧ (1 : Int) ≤ st ∧ (0 : Int) ≤ x ∧ x ≤ y ∧ y ≤ (1000000000 : Int) ∧ R64 st) : Rq65 l x y st k := by
  unfold Rq65
  obtain ⟨hk, s1, x1, x2, y1, hb⟩ := id hp
  obtain ⟨-, hpc⟩ := M.pc_spec x2 s1
  obtain ⟨p1, p2, p3, p4, p5⟩ := hpc k hk
  have r1 : R64 (y - M.pcL x st k) := by unfold R64; omega
  have r3 : R64 (M.pcL x st k + st) ∨ y - M.pcL x st k ≤ st := by unfold R64; omega
  by_cases hl : y - M.pcL x st k ≤ st
  · have e1 : M.pcH x y st k = y := by omega
    have e2 := p1.1 hl
    simp [hl, e1, e2, r1, hk]
    try omega
  · have e1 : M.pcH x y st k = M.pcL x st k + st := by omega
    have e2 : k + 1 < M.pcN x y st := by
      rcases Nat.lt_or_ge (k + 1) (M.pcN x y st) with e | e
      · exact e
      · exact absurd (p1.2 (by omega)) hl
    have r4 : R64 (M.pcL x st k + st) := r3.resolve_right hl
    simp [hl, e1, e2, r1, r4, hk, s1, x1, x2, y1, hb, p4]
    try omega
theorem t65 (l : Nat) (x y st : Int) {F : Fence} (hF : FOK F) (Y : YEnv PP ((YS.mk true l (M.pcN x y st) (fun k => [.agg [SI (M.pcL x st k), SI (M.pcH x y st k)]])))) : ∀ Q A H nx, loopT true Try.f65.ntmps 0 (lp65 l x y st) (fun _ _ _ => (0 : Nat)) Q A H nx → WPS Y F Try.f65.ntmps 0 (.block 0 (blkAt 0 Try.f65)) Q A H nx :=
  loopW (E := []) (.nil) (O := [(47, pureE e47)]) (.cons (pureE_ok s47) (.nil)) (ck := true) (L := [0,1,2,4,5,6,24,36]) (f := Try.f65) (m := 0) (id := 0) (l := (lp65 l x y st)) (LI := fun i => []) Y hF (by kernel_rfl) (fun _ => .nil) (by
    rintro k hp
    exact Hold.of (q65 l x y st k) (bq65 l x y st k ((peq65 l x y st k).mp hp)))
def j65 : List SV → Option (List Prop × Nat × (Nat → List SV))
  | [.sptr 2 1 F_1 0 0, .sptr 1 1 F_2 0 0] => match F_1 0, F_2 0 with
    | [.int .i64 x, .int .i64 y], [.int .i64 st] => some ([1 ≤ st, 0 ≤ x, x ≤ y, y ≤ 1000000000, R64 st], ((M.pcN x y st)), ((fun k => [.agg [SI (M.pcL x st k), SI (M.pcH x y st k)]])))
    | _, _ => none
  | _ => none
def Rv65 (l : Nat) (x y st : Int) : Prop := (0 : Nat) < (1 : Nat) ∧ ((0 : Nat) < M.pcN x y st ∧ (1 : Int) ≤ st ∧ (0 : Int) ≤ x ∧ x ≤ y ∧ y ≤ (1000000000 : Int) ∧ R64 st) ∧ ((0 : Nat) = (0 : Nat) ∧ true = true ∧ Value.func (Fn.yield l) #[] #[] = Value.func (Fn.yield l) #[] #[] ∧ (1 : Nat) = (1 : Nat) ∧ (0 : Nat) = (0 : Nat) ∧ (∀ (q : Nat), q < (1 : Nat) → x = x ∧ y = y) ∧ (1 : Nat) = (1 : Nat) ∧ (0 : Nat) = (0 : Nat) ∧ (∀ (q : Nat), q < (1 : Nat) → st = st) ∧ x = M.pcL x st (0 : Nat) ∧ True) ∧ (∀ (k : Nat) (go : Bool), False → go = true → k = M.pcN x y st) ∧ ∀ (k : Nat) (go : Bool), (go = true → k = M.pcN x y st) → go = true → k = M.pcN x y st
theorem v65 (l : Nat) (x y st : Int) : VI true [] [(47, pureE e47)] Try.f65 [0,1,2,4,5,6,24,36] [(0, loopT true Try.f65.ntmps 0 (lp65 l x y st) (fun _ _ _ => (0 : Nat)))] [.sptr 2 1 (fun _ => [SI x, SI y]) 0 0, .sptr 1 1 (fun _ => [SI st]) 0 0] l ((M.pcN x y st)) ((fun k => [.agg [SI (M.pcL x st k), SI (M.pcH x y st k)]])) = Rv65 l x y st := by kernel_rfl
theorem bv65 (l : Nat) (x y st : Int) (hp : (1 ≤ st) ∧ (0 ≤ x) ∧ (x ≤ y) ∧ (y ≤ 1000000000) ∧ (R64 st) ∧ AllP []) : Rv65 l x y st := by
  unfold Rv65
  obtain ⟨s1, x1, x2, y1, hb, -⟩ := id hp
  have h1 := (M.pc_spec x2 s1).1
  have e0 : M.pcL x st 0 = x := by simp [M.pcL]
  exact ⟨by omega, ⟨h1, s1, x1, x2, y1, hb⟩, ⟨rfl, rfl, rfl, rfl, rfl, fun _ _ => ⟨rfl, rfl⟩, rfl, rfl, fun _ _ => rfl, e0.symm, trivial⟩, fun _ _ h => h.elim, fun _ _ h => h⟩
theorem i65 : IterOK PP 65 j65 := by
  intro xs ps n f h hp
  unfold j65 at h
  split at h
  · rename_i F_1 F_2
    split at h
    · rename_i x y st EF_1 EF_2
      simp only [Option.some.injEq, Prod.mk.injEq] at h
      obtain ⟨rfl, rfl, rfl⟩ := h
      simp only [AllP.cons] at hp
      refine Iter.args (ys := [.sptr 2 1 (fun _ => [SI x, SI y]) 0 0, .sptr 1 1 (fun _ => [SI st]) 0 0]) ?_ (.cons (.ref EF_1 (.refl _)) (.cons (.ref EF_2 (.refl _)) .nil))
      refine enterI (L := [0,1,2,4,5,6,24,36]) (LO := fun l => [(0, loopT true Try.f65.ntmps 0 (lp65 l x y st) (fun _ _ _ => (0 : Nat)))]) (E := []) (O := [(47, pureE e47)]) (ck := true) (.nil) (.cons (pureE_ok s47) (.nil)) (k := 65) (f := Try.f65) (xs := [.sptr 2 1 (fun _ => [SI x, SI y]) 0 0, .sptr 1 1 (fun _ => [SI st]) 0 0]) (by kernel_rfl) (by kernel_rfl) (fun _ => rfl) (fun l Y => .cons (by kernel_rfl) (t65 l x y st FOK.wide Y) (.nil)) fun l => ?_
      exact Hold.of (v65 l x y st) (bv65 l x y st hp)
    · cases h
  · cases h
end Go.Proofs.Ytpbgkohljjmbhaa.Sep
/-
  The highest levels and the windows of a span of times. Plain arithmetic. No condition. (This text proves no statement by itself.)
-/
namespace Go.Proofs.Ytpbgkohljjmbhaa.M
open Go
theorem tim_sub {mn : Int} {n : Nat} {am pe ph : Nat → Int} {x y a b : Int} (h : timE mn n am pe ph x y = 0) (h1 : x ≤ a) (h2 : a ≤ b) (h3 : b ≤ y) : timE mn n am pe ph a b = 0 := by
  obtain ⟨e1, e2, e3, e4⟩ := timE_iff.1 h
  exact timE_iff.2 ⟨e1, by omega, by omega, by omega⟩
theorem pc_in {x y st : Int} {k : Nat} (h : x ≤ y) (hs : 1 ≤ st) (hk : k < pcN x y st) : x ≤ pcL x st k ∧ pcL x st k ≤ pcH x y st k ∧ pcH x y st k ≤ y := by
  obtain ⟨-, h2⟩ := pc_spec h hs
  obtain ⟨-, p2, p3, -, p5⟩ := h2 k hk
  omega
def pkLo (mn : Int) (n : Nat) (am pe ph : Nat → Int) (x y st : Int) : Nat → Int
  | 0 => gLo mn n am pe ph x x
  | k + 1 => max (pkLo mn n am pe ph x y st k) (gLo mn n am pe ph (pcH x y st k) (pcH x y st k))
def pkHi (mn : Int) (n : Nat) (am pe ph : Nat → Int) (x y st h0 : Int) : Nat → Int
  | 0 => h0
  | k + 1 => max (pkHi mn n am pe ph x y st h0 k) (gHi mn n am pe ph (pcL x st k) (pcH x y st k))
/-- Whether a piece is low. -/
def isLow (mn : Int) (n : Nat) (am pe ph : Nat → Int) (x y st lv : Int) (k : Nat) : Bool := decide (gHi mn n am pe ph (pcL x st k) (pcH x y st k) ≤ lv)
/-- Whether the piece before is low. -/
def wasLow (p : Nat → Bool) : Nat → Bool
  | 0 => false
  | k + 1 => p k
/-- How many windows the first k pieces have. -/
def wN (p : Nat → Bool) : Nat → Nat
  | 0 => 0
  | k + 1 => bif p k && !wasLow p k then wN p k + 1 else wN p k
def wL (p : Nat → Bool) (lo : Nat → Int) : Nat → Nat → Int
  | 0, _ => 0
  | k + 1, j => bif p k && !wasLow p k then bif decide (j < wN p k) then wL p lo k j else lo k else wL p lo k j
def wH (p : Nat → Bool) (hi : Nat → Int) : Nat → Nat → Int
  | 0, _ => 0
  | k + 1, j => bif p k then bif wasLow p k then bif decide (j = wN p k - 1) then hi k else wH p hi k j else bif decide (j < wN p k) then wH p hi k j else hi k else wH p hi k j
theorem wN_le {p : Nat → Bool} : ∀ {k : Nat}, wN p k ≤ k
  | 0 => Nat.le_refl _
  | k + 1 => by
    have := wN_le (p := p) (k := k)
    simp only [wN]
    cases p k && !wasLow p k <;> simp <;> omega
theorem wN_pos {p : Nat → Bool} : ∀ {k : Nat}, wasLow p k = true → 1 ≤ wN p k
  | 0, h => by cases h
  | k + 1, h => by
    simp only [wasLow] at h
    simp only [wN, h, Bool.true_and]
    cases hw : wasLow p k
    · simp
    · simp; exact wN_pos hw
/-- The error of windows. -/
def winE (mn : Int) (n : Nat) (am pe ph : Nat → Int) (x y st lv : Int) : Int :=
  if stE mn n am pe ph x y st = 0 then if lv < -20000 then 3 else if 20000 < lv then 3 else 0 else stE mn n am pe ph x y st
def eqR (x y u v : Nat → Int) (k : Nat) : Bool := decide (x k = u k) && decide (y k = v k)
end Go.Proofs.Ytpbgkohljjmbhaa.M
/-
  Contracts of the highest levels. No condition. (This text proves no statement by itself.)
-/
namespace Go.Proofs.Ytpbgkohljjmbhaa.Sep
open Go
set_option linter.unusedVariables false
set_option linter.unusedSimpArgs false
def lp24 (mn : Int) (n : Nat) (am pe ph : Nat → Int) (x y st : Int) : RangeS where
  ι := Unit
  pre _ _ := (M.stE mn n am pe ph x y st) = 0 ∧ R64 st
  cnt _ := (M.pcN x y st)
  f _ k := [.agg [SI (M.pcL x st k), SI (M.pcH x y st k)]]
  SA _ := [(3, .ptr 0 0), (6, .ptr 1 0), (10, .ptr 2 0), (33, .fn 65 [] [.sptr 2 1 (fun _ => [SI x, SI y]) 0 0, .sptr 1 1 (fun _ => [SI st]) 0 0])]
  mf := 3
  n0 := 3
  SH _ k := [(0, .cells [SI mn, .sl 3 n (fun k => [SI (am k), SI (pe k), SI (ph k)])]), (1, .cells [.top, .top]), (2, .cells [SI (M.pkLo mn n am pe ph x y st k), SI (M.pkHi mn n am pe ph x y st (M.gHi mn n am pe ph x x) k)])]
def Rq24 (mn : Int) (n : Nat) (am pe ph : Nat → Int) (x y st : Int)  (k : Nat) : Prop := (∀ (k : Nat), k < n → am k = am k ∧ pe k = pe k ∧ ph k = ph k) ∧ M.timE mn n am pe ph (M.pcH x y st k) (M.pcH x y st k) = (0 : Int) ∧ (∀ (k : Nat), k < n → am k = am k ∧ pe k = pe k ∧ ph k = ph k) ∧ M.timE mn n am pe ph (M.pcL x st k) (M.pcH x y st k) = (0 : Int) ∧ (M.stE mn n am pe ph x y st = (0 : Int) ∧ R64 st) ∧ mn = mn ∧ (n = n ∧ ∀ (k : Nat), k < n → am k = am k ∧ pe k = pe k ∧ ph k = ph k) ∧ max (M.pkLo mn n am pe ph x y st k) (M.gLo mn n am pe ph (M.pcH x y st k) (M.pcH x y st k)) = M.pkLo mn n am pe ph x y st (k + (1 : Nat)) ∧ max (M.pkHi mn n am pe ph x y st (M.gHi mn n am pe ph x x) k) (M.gHi mn n am pe ph (M.pcL x st k) (M.pcH x y st k)) = M.pkHi mn n am pe ph x y st (M.gHi mn n am pe ph x x) (k + (1 : Nat)) ∧ True
theorem q24 (mn : Int) (n : Nat) (am pe ph : Nat → Int) (x y st : Int)  (k : Nat) : VR true [] [(45, pureE e45), (47, pureE e47)] YS.none Try.f24 [0,1,2,3,4,6,7,8,9,10,11,19,33,34] [] 0 (lp24 mn n am pe ph x y st) (()) k = Rq24 mn n am pe ph x y st k := by kernel_rfl
theorem peq24 (mn : Int) (n : Nat) (am pe ph : Nat → Int) (x y st : Int)  (k : Nat) : (lp24 mn n am pe ph x y st).pre (()) k = (M.stE mn n am pe ph x y st = (0 : Int) ∧ R64 st) := by kernel_rfl
theorem ceq24 (mn : Int) (n : Nat) (am pe ph : Nat → Int) (x y st : Int)  (k : Nat) : (k < (lp24 mn n am pe ph x y st).cnt (())) = (k < M.pcN x y st) := by kernel_rfl
theorem bq24 (mn : Int) (n : Nat) (am pe ph : Nat → Int) (x y st : Int)  (k : Nat) (hk : k < M.pcN x y st) (hp : M.stE mn n am pe ph x y st = (0 : Int) ∧ R64 st) : Rq24 mn n am pe ph x y st k := by
  unfold Rq24
  obtain ⟨hse, hr⟩ := id hp
  obtain ⟨ht, hst, hle⟩ := M.stE_iff.1 hse
  have hxy := (M.timE_iff.1 ht).2
  obtain ⟨i1, i2, i3⟩ := M.pc_in (x := x) (y := y) hxy.1 hst hk
  have t1 := M.tim_sub (a := M.pcH x y st k) (b := M.pcH x y st k) ht (by omega) (by omega) (by omega)
  have t2 := M.tim_sub (a := M.pcL x st k) (b := M.pcH x y st k) ht (by omega) (by omega) (by omega)
  simp [t1, t2, hse, hr, M.pkLo, M.pkHi]
theorem t24 (mn : Int) (n : Nat) (am pe ph : Nat → Int) (x y st : Int) {F : Fence} (hF : FOK F) (hr : F.round = none) (Y : YEnv PP YS.none) : ∀ Q A H nx, rangeT false Try.f24.ntmps 0 (rfFn (blkAt 0 Try.f24)) 65 j65 (lp24 mn n am pe ph x y st) (fun _ _ _ => ()) Q A H nx → WPS Y F Try.f24.ntmps 0 (.block 0 (blkAt 0 Try.f24)) Q A H nx :=
  rangeW (E := []) (.nil) (O := [(45, pureE e45), (47, pureE e47)]) (.cons (pureE_ok s45) (.cons (pureE_ok s47) (.nil))) (ck := true) (L := [0,1,2,3,4,6,7,8,9,10,11,19,33,34]) (f := Try.f24) (m := 0) (id := 0) (l := (lp24 mn n am pe ph x y st)) (LI := []) Y hF hr i65 (by kernel_rfl) (fun _ _ => by kernel_rfl) (by kernel_rfl) (fun _ => .nil) (fun _ => .nil) (by
    rintro ⟨⟩ k hk hp
    exact Hold.of (q24 mn n am pe ph x y st k) (bq24 mn n am pe ph x y st k ((ceq24 mn n am pe ph x y st k).mp hk) ((peq24 mn n am pe ph x y st k).mp hp)))
def e24 : List SV → Option (List Prop × SV)
  | [.agg [.int .i64 mn, .sl 3 n g_1], .agg [.int .i64 x, .int .i64 y], .int .i64 st] => some ([Row 3 n g_1, R64 n, R64 st], .tup [.agg [SI (if (M.stE mn n (cI g_1 0) (cI g_1 1) (cI g_1 2) x y st) = 0 then (M.pkLo mn n (cI g_1 0) (cI g_1 1) (cI g_1 2) x y st (M.pcN x y st)) else 0), SI (if (M.stE mn n (cI g_1 0) (cI g_1 1) (cI g_1 2) x y st) = 0 then (M.pkHi mn n (cI g_1 0) (cI g_1 1) (cI g_1 2) x y st (M.gHi mn n (cI g_1 0) (cI g_1 1) (cI g_1 2) x x) (M.pcN x y st)) else 0)], SI (M.stE mn n (cI g_1 0) (cI g_1 1) (cI g_1 2) x y st)])
  | _ => none
def Rr24 (mn : Int) (n : Nat) (am pe ph : Nat → Int) (x y st : Int) : Prop := (∀ (k : Nat), k < n → am k = am k ∧ pe k = pe k ∧ ph k = ph k) ∧ R64 (↑n : Int) ∧ ((!decide (M.stE mn n am pe ph x y st = (0 : Int))) = true → (((0 : Int) = if M.stE mn n am pe ph x y st = (0 : Int) then M.pkLo mn n am pe ph x y st (M.pcN x y st) else (0 : Int)) ∧ (0 : Int) = if M.stE mn n am pe ph x y st = (0 : Int) then M.pkHi mn n am pe ph x y st (M.gHi mn n am pe ph x x) (M.pcN x y st) else (0 : Int)) ∧ M.stE mn n am pe ph x y st = M.stE mn n am pe ph x y st) ∧ ((!decide (M.stE mn n am pe ph x y st = (0 : Int))) = false → (∀ (k : Nat), k < n → am k = am k ∧ pe k = pe k ∧ ph k = ph k) ∧ M.timE mn n am pe ph x x = (0 : Int) ∧ (M.stE mn n am pe ph x y st = (0 : Int) ∧ R64 st) ∧ ((1 : Nat) = (1 : Nat) ∧ (0 : Nat) = (0 : Nat) ∧ (∀ (q : Nat), q < (1 : Nat) → x = x ∧ y = y) ∧ (1 : Nat) = (1 : Nat) ∧ (0 : Nat) = (0 : Nat) ∧ (∀ (q : Nat), q < (1 : Nat) → st = st) ∧ mn = mn ∧ (n = n ∧ ∀ (k : Nat), k < n → am k = am k ∧ pe k = pe k ∧ ph k = ph k) ∧ M.gLo mn n am pe ph x x = M.pkLo mn n am pe ph x y st (0 : Nat) ∧ M.gHi mn n am pe ph x x = M.pkHi mn n am pe ph x y st (M.gHi mn n am pe ph x x) (0 : Nat) ∧ True) ∧ ((1 : Int) ≤ st ∧ (0 : Int) ≤ x ∧ x ≤ y ∧ y ≤ (1000000000 : Int) ∧ R64 st ∧ M.pcN x y st = M.pcN x y st ∧ ∀ (k : Nat), k < M.pcN x y st → [SV.agg [SV.int IntKind.i64 (M.pcL x st k), SV.int IntKind.i64 (M.pcH x y st k)]] = [SV.agg [SV.int IntKind.i64 (M.pcL x st k), SV.int IntKind.i64 (M.pcH x y st k)]]) ∧ (M.stE mn n am pe ph x y st = (0 : Int) ∧ R64 st → ((M.pkLo mn n am pe ph x y st (M.pcN x y st) = if M.stE mn n am pe ph x y st = (0 : Int) then M.pkLo mn n am pe ph x y st (M.pcN x y st) else (0 : Int)) ∧ M.pkHi mn n am pe ph x y st (M.gHi mn n am pe ph x x) (M.pcN x y st) = if M.stE mn n am pe ph x y st = (0 : Int) then M.pkHi mn n am pe ph x y st (M.gHi mn n am pe ph x x) (M.pcN x y st) else (0 : Int)) ∧ (0 : Int) = M.stE mn n am pe ph x y st) ∧ (∀ (k : Nat), k < M.pcN x y st → M.stE mn n am pe ph x y st = (0 : Int) ∧ R64 st → False → True → False) ∧ ∀ (k : Nat), k < M.pcN x y st → M.stE mn n am pe ph x y st = (0 : Int) ∧ R64 st → False → True → False)
theorem r24 (mn : Int) (n : Nat) (am pe ph : Nat → Int) (x y st : Int) : V true [] [(50, pureE e50), (51, pureE e51), (45, pureE e45), (47, pureE e47)] Try.f24 [0,1,2,3,4,6,7,8,9,10,11,19,33,34] [(0, rangeT false Try.f24.ntmps 0 (rfFn (blkAt 0 Try.f24)) 65 j65 (lp24 mn n am pe ph x y st) (fun _ _ _ => ()))] [.agg [SI mn, .sl 3 n (fun k => [SI (am k), SI (pe k), SI (ph k)])], .agg [SI x, SI y], SI st] (.tup [.agg [SI (if (M.stE mn n am pe ph x y st) = 0 then (M.pkLo mn n am pe ph x y st (M.pcN x y st)) else 0), SI (if (M.stE mn n am pe ph x y st) = 0 then (M.pkHi mn n am pe ph x y st (M.gHi mn n am pe ph x x) (M.pcN x y st)) else 0)], SI (M.stE mn n am pe ph x y st)]) = Rr24 mn n am pe ph x y st := by kernel_rfl
theorem br24 (mn : Int) (n : Nat) (am pe ph : Nat → Int) (x y st : Int) (hp : (R64 n) ∧ (R64 st) ∧ AllP []) : Rr24 mn n am pe ph x y st := by
  unfold Rr24
  have hn := hp.1
  have hr := hp.2.1
  by_cases hse : (M.stE mn n am pe ph x y st) = 0
  · obtain ⟨ht, hst, hle⟩ := M.stE_iff.1 hse
    have hxy := (M.timE_iff.1 ht).2
    have t1 := M.tim_sub (a := x) (b := x) ht (by omega) (by omega) (by omega)
    simp [hn, hr, hse, t1, hst, hxy, M.pkLo, M.pkHi]
  · simp [hn, hr, hse]
theorem s24 : PureOK PP 24 e24 := by
  intro xs ps res h hp
  unfold e24 at h
  split at h
  · rename_i mn n g_1 x y st
    simp only [Option.some.injEq, Prod.mk.injEq] at h
    obtain ⟨rfl, rfl⟩ := h
    simp only [AllP.cons] at hp
    obtain ⟨Hg_1, hp⟩ := hp
    refine Spec.args (ys := [.agg [SI mn, .sl 3 n (fun k => [SI ((cI g_1 0) k), SI ((cI g_1 1) k), SI ((cI g_1 2) k)])], .agg [SI x, SI y], SI st]) ?_ (.cons (.agg (.cons (.refl _) (.cons (.row Hg_1 fun _ => rfl) .nil))) (.cons (.refl _) (.cons (.refl _) .nil)))
    refine enter (L := [0,1,2,3,4,6,7,8,9,10,11,19,33,34]) (LO := [(0, rangeT false Try.f24.ntmps 0 (rfFn (blkAt 0 Try.f24)) 65 j65 (lp24 mn n (cI g_1 0) (cI g_1 1) (cI g_1 2) x y st) (fun _ _ _ => ()))]) (E := []) (O := [(50, pureE e50), (51, pureE e51), (45, pureE e45), (47, pureE e47)]) (ck := true) (.nil) (.cons (pureE_ok s50) (.cons (pureE_ok s51) (.cons (pureE_ok s45) (.cons (pureE_ok s47) (.nil))))) (k := 24) (f := Try.f24) (xs := [.agg [SI mn, .sl 3 n (fun k => [SI ((cI g_1 0) k), SI ((cI g_1 1) k), SI ((cI g_1 2) k)])], .agg [SI x, SI y], SI st]) (r := (.tup [.agg [SI (if (M.stE mn n (cI g_1 0) (cI g_1 1) (cI g_1 2) x y st) = 0 then (M.pkLo mn n (cI g_1 0) (cI g_1 1) (cI g_1 2) x y st (M.pcN x y st)) else 0), SI (if (M.stE mn n (cI g_1 0) (cI g_1 1) (cI g_1 2) x y st) = 0 then (M.pkHi mn n (cI g_1 0) (cI g_1 1) (cI g_1 2) x y st (M.gHi mn n (cI g_1 0) (cI g_1 1) (cI g_1 2) x x) (M.pcN x y st)) else 0)], SI (M.stE mn n (cI g_1 0) (cI g_1 1) (cI g_1 2) x y st)])) (by kernel_rfl) (by kernel_rfl) (fun Y => .cons (by kernel_rfl) (t24 mn n (cI g_1 0) (cI g_1 1) (cI g_1 2) x y st FOK.wide rfl Y) (.nil)) ?_
    exact Hold.of (r24 mn n (cI g_1 0) (cI g_1 1) (cI g_1 2) x y st) (br24 mn n (cI g_1 0) (cI g_1 1) (cI g_1 2) x y st hp)
  · cases h
def lp25 (mn : Int) (n : Nat) (am pe ph : Nat → Int) (x y st : Int) : LoopS where
  ι := Nat
  β := Unit
  pre k := k ≤ (M.pcN x y st) ∧ (M.stE mn n am pe ph x y st) = 0 ∧ R64 st
  μ k := (M.pcN x y st) - k
  next k _ _ _ := k + 1
  out _ := ()
  early _ := false
  SA k := [(3, .ptr 0 0), (6, .ptr 1 0), (8, .sl 2 (M.pcN x y st) (fun k => [SI (M.pcL x st k), SI (M.pcH x y st k)])), (10, .ptr 2 0), (11, SI k)]
  SH k := [(0, .cells [SI mn, .sl 3 n (fun k => [SI (am k), SI (pe k), SI (ph k)])]), (1, .cells [.top, .top]), (2, .cells [SI (M.pkLo mn n am pe ph x y st k), SI (M.pkHi mn n am pe ph x y st (M.gHi mn n am pe ph (M.pcL x st 0) (M.pcH x y st 0)) k)])]
  n0 := 3
  NA _ := [(6, .ptr 0 0), (10, .ptr 1 0)]
  NH _ := [(0, .cells [.top, .top]), (1, .cells [SI (M.pkLo mn n am pe ph x y st (M.pcN x y st)), SI (M.pkHi mn n am pe ph x y st (M.gHi mn n am pe ph (M.pcL x st 0) (M.pcH x y st 0)) (M.pcN x y st))])]
  n1 := 2
  RA _ := []
  RH _ := []
def Rq25 (mn : Int) (n : Nat) (am pe ph : Nat → Int) (x y st : Int) (k : Nat) : Prop := (decide ((↑k : Int) < (↑(M.pcN x y st) : Int)) = true → (0 : Int) ≤ (↑k : Int) ∧ (↑k : Int) < (↑(M.pcN x y st) : Int) ∧ Int.toNat (↑k : Int) < M.pcN x y st ∧ (0 : Int) ≤ (↑k : Int) ∧ (↑k : Int) < (↑(M.pcN x y st) : Int) ∧ Int.toNat (↑k : Int) < M.pcN x y st ∧ (∀ (k : Nat), k < n → am k = am k ∧ pe k = pe k ∧ ph k = ph k) ∧ M.timE mn n am pe ph (M.pcH x y st (Int.toNat (↑k : Int))) (M.pcH x y st (Int.toNat (↑k : Int))) = (0 : Int) ∧ (0 : Int) ≤ (↑k : Int) ∧ (↑k : Int) < (↑(M.pcN x y st) : Int) ∧ Int.toNat (↑k : Int) < M.pcN x y st ∧ (∀ (k : Nat), k < n → am k = am k ∧ pe k = pe k ∧ ph k = ph k) ∧ M.timE mn n am pe ph (M.pcL x st (Int.toNat (↑k : Int))) (M.pcH x y st (Int.toNat (↑k : Int))) = (0 : Int) ∧ R64 ((↑k : Int) + (1 : Int)) ∧ (k + (1 : Nat) ≤ M.pcN x y st ∧ M.stE mn n am pe ph x y st = (0 : Int) ∧ R64 st) ∧ M.pcN x y st - (k + (1 : Nat)) < M.pcN x y st - k ∧ () = () ∧ (M.pcN x y st = M.pcN x y st ∧ ∀ (k : Nat), k < M.pcN x y st → M.pcL x st k = M.pcL x st k ∧ M.pcH x y st k = M.pcH x y st k) ∧ (↑k : Int) + (1 : Int) = (↑(k + (1 : Nat)) : Int) ∧ mn = mn ∧ (n = n ∧ ∀ (k : Nat), k < n → am k = am k ∧ pe k = pe k ∧ ph k = ph k) ∧ max (M.pkLo mn n am pe ph x y st k) (M.gLo mn n am pe ph (M.pcH x y st (Int.toNat (↑k : Int))) (M.pcH x y st (Int.toNat (↑k : Int)))) = M.pkLo mn n am pe ph x y st (k + (1 : Nat)) ∧ max (M.pkHi mn n am pe ph x y st (M.gHi mn n am pe ph (M.pcL x st (0 : Nat)) (M.pcH x y st (0 : Nat))) k) (M.gHi mn n am pe ph (M.pcL x st (Int.toNat (↑k : Int))) (M.pcH x y st (Int.toNat (↑k : Int)))) = M.pkHi mn n am pe ph x y st (M.gHi mn n am pe ph (M.pcL x st (0 : Nat)) (M.pcH x y st (0 : Nat))) (k + (1 : Nat)) ∧ True) ∧ (decide ((↑k : Int) < (↑(M.pcN x y st) : Int)) = false → false = false ∧ M.pkLo mn n am pe ph x y st k = M.pkLo mn n am pe ph x y st (M.pcN x y st) ∧ M.pkHi mn n am pe ph x y st (M.gHi mn n am pe ph (M.pcL x st (0 : Nat)) (M.pcH x y st (0 : Nat))) k = M.pkHi mn n am pe ph x y st (M.gHi mn n am pe ph (M.pcL x st (0 : Nat)) (M.pcH x y st (0 : Nat))) (M.pcN x y st) ∧ True)
theorem q25 (mn : Int) (n : Nat) (am pe ph : Nat → Int) (x y st : Int) (k : Nat) : VL true [] [(46, pureE e46)] YS.none Try.f25 0 [0,1,2,3,4,6,7,8,9,10,11,20,41] [] 0 (lp25 mn n am pe ph x y st) (k) = Rq25 mn n am pe ph x y st k := by kernel_rfl
theorem peq25 (mn : Int) (n : Nat) (am pe ph : Nat → Int) (x y st : Int) (k : Nat) : (lp25 mn n am pe ph x y st).pre (k) = (k ≤ M.pcN x y st ∧ M.stE mn n am pe ph x y st = (0 : Int) ∧ R64 st) := by kernel_rfl
theorem bq25 (mn : Int) (n : Nat) (am pe ph : Nat → Int) (x y st : Int) (k : Nat) (hp : k ≤ M.pcN x y st ∧ M.stE mn n am pe ph x y st = (0 : Int) ∧ R64 st) : Rq25 mn n am pe ph x y st k := by
  unfold Rq25
  obtain ⟨hk, hse, hr⟩ := id hp
  obtain ⟨ht, hst, hle⟩ := M.stE_iff.1 hse
  have hxy := (M.timE_iff.1 ht).2
  have hN := M.pcN_le hst hle
  simp only [Int.toNat_natCast]
  by_cases hlt : k < (M.pcN x y st)
  · obtain ⟨i1, i2, i3⟩ := M.pc_in (x := x) (y := y) hxy.1 hst hlt
    have t1 := M.tim_sub (a := M.pcH x y st k) (b := M.pcH x y st k) ht (by omega) (by omega) (by omega)
    have t2 := M.tim_sub (a := M.pcL x st k) (b := M.pcH x y st k) ht (by omega) (by omega) (by omega)
    have r1 : R64 ((k : Int) + 1) := by unfold R64; omega
    simp [hlt, t1, t2, hse, hr, r1, M.pkLo, M.pkHi]
    omega
  · have e : k = (M.pcN x y st) := by omega
    simp [← e]
theorem t25 (mn : Int) (n : Nat) (am pe ph : Nat → Int) (x y st : Int) {F : Fence} (hF : FOK F) (Y : YEnv PP YS.none) : ∀ Q A H nx, loopT false Try.f25.ntmps 0 (lp25 mn n am pe ph x y st) (fun _ _ _ => (0 : Nat)) Q A H nx → WPS Y F Try.f25.ntmps 0 (.block 0 (blkAt 0 Try.f25)) Q A H nx :=
  loopW (E := []) (.nil) (O := [(46, pureE e46)]) (.cons (pureE_ok s46) (.nil)) (ck := true) (L := [0,1,2,3,4,6,7,8,9,10,11,20,41]) (f := Try.f25) (m := 0) (id := 0) (l := (lp25 mn n am pe ph x y st)) (LI := fun i => []) Y hF (by kernel_rfl) (fun _ => .nil) (by
    rintro k hp
    exact Hold.of (q25 mn n am pe ph x y st k) (bq25 mn n am pe ph x y st k ((peq25 mn n am pe ph x y st k).mp hp)))
def e25 : List SV → Option (List Prop × SV)
  | [.agg [.int .i64 mn, .sl 3 n g_1], .agg [.int .i64 x, .int .i64 y], .int .i64 st] => some ([Row 3 n g_1, R64 n, R64 st], .tup [.agg [SI (if (M.stE mn n (cI g_1 0) (cI g_1 1) (cI g_1 2) x y st) = 0 then (M.pkLo mn n (cI g_1 0) (cI g_1 1) (cI g_1 2) x y st (M.pcN x y st)) else 0), SI (if (M.stE mn n (cI g_1 0) (cI g_1 1) (cI g_1 2) x y st) = 0 then (M.pkHi mn n (cI g_1 0) (cI g_1 1) (cI g_1 2) x y st (M.gHi mn n (cI g_1 0) (cI g_1 1) (cI g_1 2) (M.pcL x st 0) (M.pcH x y st 0)) (M.pcN x y st)) else 0)], SI (M.stE mn n (cI g_1 0) (cI g_1 1) (cI g_1 2) x y st)])
  | _ => none
def Rr25 (mn : Int) (n : Nat) (am pe ph : Nat → Int) (x y st : Int) : Prop := (∀ (k : Nat), k < n → am k = am k ∧ pe k = pe k ∧ ph k = ph k) ∧ R64 (↑n : Int) ∧ ((!decide (M.stE mn n am pe ph x y st = (0 : Int))) = true → (((0 : Int) = if M.stE mn n am pe ph x y st = (0 : Int) then M.pkLo mn n am pe ph x y st (M.pcN x y st) else (0 : Int)) ∧ (0 : Int) = if M.stE mn n am pe ph x y st = (0 : Int) then M.pkHi mn n am pe ph x y st (M.gHi mn n am pe ph (M.pcL x st (0 : Nat)) (M.pcH x y st (0 : Nat))) (M.pcN x y st) else (0 : Int)) ∧ M.stE mn n am pe ph x y st = M.stE mn n am pe ph x y st) ∧ ((!decide (M.stE mn n am pe ph x y st = (0 : Int))) = false → (∀ (k : Nat), k < n → am k = am k ∧ pe k = pe k ∧ ph k = ph k) ∧ M.timE mn n am pe ph x x = (0 : Int) ∧ (0 : Int) ≤ (0 : Int) ∧ (0 : Int) < (↑(if M.stE mn n am pe ph x y st = (0 : Int) then M.pcN x y st else (0 : Nat)) : Int) ∧ (Int.toNat (0 : Int) < if M.stE mn n am pe ph x y st = (0 : Int) then M.pcN x y st else (0 : Nat)) ∧ (∀ (k : Nat), k < n → am k = am k ∧ pe k = pe k ∧ ph k = ph k) ∧ M.timE mn n am pe ph (M.pcL x st (Int.toNat (0 : Int))) (M.pcH x y st (Int.toNat (0 : Int))) = (0 : Int) ∧ ((0 : Nat) ≤ M.pcN x y st ∧ M.stE mn n am pe ph x y st = (0 : Int) ∧ R64 st) ∧ (((if M.stE mn n am pe ph x y st = (0 : Int) then M.pcN x y st else (0 : Nat)) = M.pcN x y st ∧ ∀ (k : Nat), (k < if M.stE mn n am pe ph x y st = (0 : Int) then M.pcN x y st else (0 : Nat)) → M.pcL x st k = M.pcL x st k ∧ M.pcH x y st k = M.pcH x y st k) ∧ (0 : Int) = (↑(0 : Nat) : Int) ∧ mn = mn ∧ (n = n ∧ ∀ (k : Nat), k < n → am k = am k ∧ pe k = pe k ∧ ph k = ph k) ∧ M.gLo mn n am pe ph x x = M.pkLo mn n am pe ph x y st (0 : Nat) ∧ M.gHi mn n am pe ph (M.pcL x st (Int.toNat (0 : Int))) (M.pcH x y st (Int.toNat (0 : Int))) = M.pkHi mn n am pe ph x y st (M.gHi mn n am pe ph (M.pcL x st (0 : Nat)) (M.pcH x y st (0 : Nat))) (0 : Nat) ∧ True) ∧ (false = false → ((M.pkLo mn n am pe ph x y st (M.pcN x y st) = if M.stE mn n am pe ph x y st = (0 : Int) then M.pkLo mn n am pe ph x y st (M.pcN x y st) else (0 : Int)) ∧ M.pkHi mn n am pe ph x y st (M.gHi mn n am pe ph (M.pcL x st (0 : Nat)) (M.pcH x y st (0 : Nat))) (M.pcN x y st) = if M.stE mn n am pe ph x y st = (0 : Int) then M.pkHi mn n am pe ph x y st (M.gHi mn n am pe ph (M.pcL x st (0 : Nat)) (M.pcH x y st (0 : Nat))) (M.pcN x y st) else (0 : Int)) ∧ (0 : Int) = M.stE mn n am pe ph x y st) ∧ (false = true → False))
theorem r25 (mn : Int) (n : Nat) (am pe ph : Nat → Int) (x y st : Int) : V true [] [(52, pureE e52), (46, pureE e46)] Try.f25 [0,1,2,3,4,6,7,8,9,10,11,20,41] [(0, loopT false Try.f25.ntmps 0 (lp25 mn n am pe ph x y st) (fun _ _ _ => (0 : Nat)))] [.agg [SI mn, .sl 3 n (fun k => [SI (am k), SI (pe k), SI (ph k)])], .agg [SI x, SI y], SI st] (.tup [.agg [SI (if (M.stE mn n am pe ph x y st) = 0 then (M.pkLo mn n am pe ph x y st (M.pcN x y st)) else 0), SI (if (M.stE mn n am pe ph x y st) = 0 then (M.pkHi mn n am pe ph x y st (M.gHi mn n am pe ph (M.pcL x st 0) (M.pcH x y st 0)) (M.pcN x y st)) else 0)], SI (M.stE mn n am pe ph x y st)]) = Rr25 mn n am pe ph x y st := by kernel_rfl
theorem br25 (mn : Int) (n : Nat) (am pe ph : Nat → Int) (x y st : Int) (hp : (R64 n) ∧ (R64 st) ∧ AllP []) : Rr25 mn n am pe ph x y st := by
  unfold Rr25
  have hn := hp.1
  have hr := hp.2.1
  by_cases hse : (M.stE mn n am pe ph x y st) = 0
  · obtain ⟨ht, hst, hle⟩ := M.stE_iff.1 hse
    have hxy := (M.timE_iff.1 ht).2
    have h1 := (M.pc_spec (lo := x) (hi := y) hxy.1 hst).1
    have h1' : 0 < (M.pcN x y st) := h1
    obtain ⟨i1, i2, i3⟩ := M.pc_in (x := x) (y := y) (k := 0) hxy.1 hst h1
    have t1 := M.tim_sub (a := x) (b := x) ht (by omega) (by omega) (by omega)
    have t2 := M.tim_sub (a := M.pcL x st 0) (b := M.pcH x y st 0) ht (by omega) (by omega) (by omega)
    simp [hn, hr, hse, t1, t2, h1', M.pkLo, M.pkHi]
  · simp [hn, hr, hse]
theorem s25 : PureOK PP 25 e25 := by
  intro xs ps res h hp
  unfold e25 at h
  split at h
  · rename_i mn n g_1 x y st
    simp only [Option.some.injEq, Prod.mk.injEq] at h
    obtain ⟨rfl, rfl⟩ := h
    simp only [AllP.cons] at hp
    obtain ⟨Hg_1, hp⟩ := hp
    refine Spec.args (ys := [.agg [SI mn, .sl 3 n (fun k => [SI ((cI g_1 0) k), SI ((cI g_1 1) k), SI ((cI g_1 2) k)])], .agg [SI x, SI y], SI st]) ?_ (.cons (.agg (.cons (.refl _) (.cons (.row Hg_1 fun _ => rfl) .nil))) (.cons (.refl _) (.cons (.refl _) .nil)))
    refine enter (L := [0,1,2,3,4,6,7,8,9,10,11,20,41]) (LO := [(0, loopT false Try.f25.ntmps 0 (lp25 mn n (cI g_1 0) (cI g_1 1) (cI g_1 2) x y st) (fun _ _ _ => (0 : Nat)))]) (E := []) (O := [(52, pureE e52), (46, pureE e46)]) (ck := true) (.nil) (.cons (pureE_ok s52) (.cons (pureE_ok s46) (.nil))) (k := 25) (f := Try.f25) (xs := [.agg [SI mn, .sl 3 n (fun k => [SI ((cI g_1 0) k), SI ((cI g_1 1) k), SI ((cI g_1 2) k)])], .agg [SI x, SI y], SI st]) (r := (.tup [.agg [SI (if (M.stE mn n (cI g_1 0) (cI g_1 1) (cI g_1 2) x y st) = 0 then (M.pkLo mn n (cI g_1 0) (cI g_1 1) (cI g_1 2) x y st (M.pcN x y st)) else 0), SI (if (M.stE mn n (cI g_1 0) (cI g_1 1) (cI g_1 2) x y st) = 0 then (M.pkHi mn n (cI g_1 0) (cI g_1 1) (cI g_1 2) x y st (M.gHi mn n (cI g_1 0) (cI g_1 1) (cI g_1 2) (M.pcL x st 0) (M.pcH x y st 0)) (M.pcN x y st)) else 0)], SI (M.stE mn n (cI g_1 0) (cI g_1 1) (cI g_1 2) x y st)])) (by kernel_rfl) (by kernel_rfl) (fun Y => .cons (by kernel_rfl) (t25 mn n (cI g_1 0) (cI g_1 1) (cI g_1 2) x y st FOK.wide Y) (.nil)) ?_
    exact Hold.of (r25 mn n (cI g_1 0) (cI g_1 1) (cI g_1 2) x y st) (br25 mn n (cI g_1 0) (cI g_1 1) (cI g_1 2) x y st hp)
  · cases h
end Go.Proofs.Ytpbgkohljjmbhaa.Sep
/-
  Contracts of the windows. No condition. (This text proves no statement by itself.)
-/
namespace Go.Proofs.Ytpbgkohljjmbhaa.Sep
open Go
set_option linter.unusedVariables false
set_option linter.unusedSimpArgs false
def lp26 (mn : Int) (n : Nat) (am pe ph : Nat → Int) (x y st lv : Int) : RangeS where
  ι := Unit
  pre _ _ := (M.stE mn n am pe ph x y st) = 0 ∧ R64 st
  cnt _ := (M.pcN x y st)
  f _ k := [.agg [SI (M.pcL x st k), SI (M.pcH x y st k)]]
  SA _ := [(4, .ptr 0 0), (7, .ptr 1 0), (12, .ptr 2 0), (13, .ptr 3 0), (33, .fn 65 [] [.sptr 2 1 (fun _ => [SI x, SI y]) 0 0, .sptr 1 1 (fun _ => [SI st]) 0 0])]
  mf := 4
  n0 := 5
  SH _ k := [(0, .cells [SI mn, .sl 3 n (fun k => [SI (am k), SI (pe k), SI (ph k)])]), (1, .cells [SI lv]), (2, .cells [.vec 4 2 0 (M.wN (M.isLow mn n am pe ph x y st lv) k)]), (3, .cells [.bool (M.wasLow (M.isLow mn n am pe ph x y st lv) k)]), (4, .row 2 (M.wN (M.isLow mn n am pe ph x y st lv) k) (fun j => [SI (M.wL (M.isLow mn n am pe ph x y st lv) (M.pcL x st) k j), SI (M.wH (M.isLow mn n am pe ph x y st lv) (M.pcH x y st) k j)]))]
def Rq26 (mn : Int) (n : Nat) (am pe ph : Nat → Int) (x y st lv : Int)  (k : Nat) : Prop := (∀ (k : Nat), k < n → am k = am k ∧ pe k = pe k ∧ ph k = ph k) ∧ M.timE mn n am pe ph (M.pcL x st k) (M.pcH x y st k) = (0 : Int) ∧ ((!decide (M.gHi mn n am pe ph (M.pcL x st k) (M.pcH x y st k) ≤ lv)) = true → (M.stE mn n am pe ph x y st = (0 : Int) ∧ R64 st) ∧ mn = mn ∧ (n = n ∧ ∀ (k : Nat), k < n → am k = am k ∧ pe k = pe k ∧ ph k = ph k) ∧ lv = lv ∧ (0 : Nat) = (0 : Nat) ∧ M.wN (M.isLow mn n am pe ph x y st lv) k = M.wN (M.isLow mn n am pe ph x y st lv) (k + (1 : Nat)) ∧ decide (M.gHi mn n am pe ph (M.pcL x st k) (M.pcH x y st k) ≤ lv) = M.wasLow (M.isLow mn n am pe ph x y st lv) (k + (1 : Nat)) ∧ M.wN (M.isLow mn n am pe ph x y st lv) (k + (1 : Nat)) ≤ M.wN (M.isLow mn n am pe ph x y st lv) k ∧ (∀ (k_1 : Nat), k_1 < M.wN (M.isLow mn n am pe ph x y st lv) (k + (1 : Nat)) → M.wL (M.isLow mn n am pe ph x y st lv) (M.pcL x st) k k_1 = M.wL (M.isLow mn n am pe ph x y st lv) (M.pcL x st) (k + (1 : Nat)) k_1 ∧ M.wH (M.isLow mn n am pe ph x y st lv) (M.pcH x y st) k k_1 = M.wH (M.isLow mn n am pe ph x y st lv) (M.pcH x y st) (k + (1 : Nat)) k_1) ∧ True) ∧ ((!decide (M.gHi mn n am pe ph (M.pcL x st k) (M.pcH x y st k) ≤ lv)) = false → (M.wasLow (M.isLow mn n am pe ph x y st lv) k = true → R64 ((↑(M.wN (M.isLow mn n am pe ph x y st lv) k) : Int) - (1 : Int)) ∧ (0 : Int) ≤ (↑(M.wN (M.isLow mn n am pe ph x y st lv) k) : Int) - (1 : Int) ∧ (↑(M.wN (M.isLow mn n am pe ph x y st lv) k) : Int) - (1 : Int) < (↑(M.wN (M.isLow mn n am pe ph x y st lv) k) : Int) ∧ (0 : Nat) + Int.toNat ((↑(M.wN (M.isLow mn n am pe ph x y st lv) k) : Int) - (1 : Int)) < M.wN (M.isLow mn n am pe ph x y st lv) k ∧ (M.stE mn n am pe ph x y st = (0 : Int) ∧ R64 st) ∧ mn = mn ∧ (n = n ∧ ∀ (k : Nat), k < n → am k = am k ∧ pe k = pe k ∧ ph k = ph k) ∧ lv = lv ∧ (0 : Nat) = (0 : Nat) ∧ M.wN (M.isLow mn n am pe ph x y st lv) k = M.wN (M.isLow mn n am pe ph x y st lv) (k + (1 : Nat)) ∧ decide (M.gHi mn n am pe ph (M.pcL x st k) (M.pcH x y st k) ≤ lv) = M.wasLow (M.isLow mn n am pe ph x y st lv) (k + (1 : Nat)) ∧ M.wN (M.isLow mn n am pe ph x y st lv) (k + (1 : Nat)) ≤ M.wN (M.isLow mn n am pe ph x y st lv) k ∧ (∀ (k_1 : Nat), k_1 < M.wN (M.isLow mn n am pe ph x y st lv) (k + (1 : Nat)) → (bif decide (k_1 = (0 : Nat) + Int.toNat ((↑(M.wN (M.isLow mn n am pe ph x y st lv) k) : Int) - (1 : Int))) then M.wL (M.isLow mn n am pe ph x y st lv) (M.pcL x st) k ((0 : Nat) + Int.toNat ((↑(M.wN (M.isLow mn n am pe ph x y st lv) k) : Int) - (1 : Int))) else M.wL (M.isLow mn n am pe ph x y st lv) (M.pcL x st) k k_1) = M.wL (M.isLow mn n am pe ph x y st lv) (M.pcL x st) (k + (1 : Nat)) k_1 ∧ (bif decide (k_1 = (0 : Nat) + Int.toNat ((↑(M.wN (M.isLow mn n am pe ph x y st lv) k) : Int) - (1 : Int))) then M.pcH x y st k else M.wH (M.isLow mn n am pe ph x y st lv) (M.pcH x y st) k k_1) = M.wH (M.isLow mn n am pe ph x y st lv) (M.pcH x y st) (k + (1 : Nat)) k_1) ∧ True) ∧ (M.wasLow (M.isLow mn n am pe ph x y st lv) k = false → (0 : Nat) + (1 : Nat) ≤ (1 : Nat) ∧ (∀ (k : Nat), k < (1 : Nat) → true = true) ∧ M.wN (M.isLow mn n am pe ph x y st lv) k ≤ M.wN (M.isLow mn n am pe ph x y st lv) k ∧ (M.wN (M.isLow mn n am pe ph x y st lv) k + (1 : Nat)) * (16 : Nat) ≤ (140737488355328 : Nat) ∧ (M.stE mn n am pe ph x y st = (0 : Int) ∧ R64 st) ∧ mn = mn ∧ (n = n ∧ ∀ (k : Nat), k < n → am k = am k ∧ pe k = pe k ∧ ph k = ph k) ∧ lv = lv ∧ (0 : Nat) = (0 : Nat) ∧ M.wN (M.isLow mn n am pe ph x y st lv) k + (1 : Nat) = M.wN (M.isLow mn n am pe ph x y st lv) (k + (1 : Nat)) ∧ decide (M.gHi mn n am pe ph (M.pcL x st k) (M.pcH x y st k) ≤ lv) = M.wasLow (M.isLow mn n am pe ph x y st lv) (k + (1 : Nat)) ∧ M.wN (M.isLow mn n am pe ph x y st lv) (k + (1 : Nat)) ≤ M.wN (M.isLow mn n am pe ph x y st lv) k + (1 : Nat) ∧ (∀ (k_1 : Nat), k_1 < M.wN (M.isLow mn n am pe ph x y st lv) (k + (1 : Nat)) → (bif decide (k_1 < M.wN (M.isLow mn n am pe ph x y st lv) k) then M.wL (M.isLow mn n am pe ph x y st lv) (M.pcL x st) k k_1 else M.pcL x st k) = M.wL (M.isLow mn n am pe ph x y st lv) (M.pcL x st) (k + (1 : Nat)) k_1 ∧ (bif decide (k_1 < M.wN (M.isLow mn n am pe ph x y st lv) k) then M.wH (M.isLow mn n am pe ph x y st lv) (M.pcH x y st) k k_1 else M.pcH x y st k) = M.wH (M.isLow mn n am pe ph x y st lv) (M.pcH x y st) (k + (1 : Nat)) k_1) ∧ True))
theorem q26 (mn : Int) (n : Nat) (am pe ph : Nat → Int) (x y st lv : Int)  (k : Nat) : VR true [] [(45, pureE e45), (47, pureE e47)] YS.none Try.f26 [0,1,2,3,4,5,7,8,9,10,11,12,13,14,15,23,30,33,34,44,45] [] 0 (lp26 mn n am pe ph x y st lv) (()) k = Rq26 mn n am pe ph x y st lv k := by kernel_rfl
theorem peq26 (mn : Int) (n : Nat) (am pe ph : Nat → Int) (x y st lv : Int)  (k : Nat) : (lp26 mn n am pe ph x y st lv).pre (()) k = (M.stE mn n am pe ph x y st = (0 : Int) ∧ R64 st) := by kernel_rfl
theorem ceq26 (mn : Int) (n : Nat) (am pe ph : Nat → Int) (x y st lv : Int)  (k : Nat) : (k < (lp26 mn n am pe ph x y st lv).cnt (())) = (k < M.pcN x y st) := by kernel_rfl
theorem bq26 (mn : Int) (n : Nat) (am pe ph : Nat → Int) (x y st lv : Int)  (k : Nat) (hk : k < M.pcN x y st) (hp : M.stE mn n am pe ph x y st = (0 : Int) ∧ R64 st) : Rq26 mn n am pe ph x y st lv k := by
  unfold Rq26
  obtain ⟨hse, hr⟩ := id hp
  obtain ⟨ht, hst, hle⟩ := M.stE_iff.1 hse
  have hxy := (M.timE_iff.1 ht).2
  have hN := M.pcN_le hst hle
  obtain ⟨i1, i2, i3⟩ := M.pc_in (x := x) (y := y) hxy.1 hst hk
  have t2 := M.tim_sub (a := M.pcL x st k) (b := M.pcH x y st k) ht (by omega) (by omega) (by omega)
  have e : decide (M.gHi mn n am pe ph (M.pcL x st k) (M.pcH x y st k) ≤ lv) = (M.isLow mn n am pe ph x y st lv) k := rfl
  simp only [e]
  have hwl := @M.wN_le (M.isLow mn n am pe ph x y st lv) k
  have hwp := @M.wN_pos (M.isLow mn n am pe ph x y st lv) k
  have s1 : M.wN (M.isLow mn n am pe ph x y st lv) (k + 1) = bif (M.isLow mn n am pe ph x y st lv) k && !M.wasLow (M.isLow mn n am pe ph x y st lv) k then M.wN (M.isLow mn n am pe ph x y st lv) k + 1 else M.wN (M.isLow mn n am pe ph x y st lv) k := rfl
  have s2 : M.wasLow (M.isLow mn n am pe ph x y st lv) (k + 1) = (M.isLow mn n am pe ph x y st lv) k := rfl
  have s3 : ∀ j, M.wL (M.isLow mn n am pe ph x y st lv) (M.pcL x st) (k + 1) j = bif (M.isLow mn n am pe ph x y st lv) k && !M.wasLow (M.isLow mn n am pe ph x y st lv) k then bif decide (j < M.wN (M.isLow mn n am pe ph x y st lv) k) then M.wL (M.isLow mn n am pe ph x y st lv) (M.pcL x st) k j else M.pcL x st k else M.wL (M.isLow mn n am pe ph x y st lv) (M.pcL x st) k j := fun _ => rfl
  have s4 : ∀ j, M.wH (M.isLow mn n am pe ph x y st lv) (M.pcH x y st) (k + 1) j = bif (M.isLow mn n am pe ph x y st lv) k then bif M.wasLow (M.isLow mn n am pe ph x y st lv) k then bif decide (j = M.wN (M.isLow mn n am pe ph x y st lv) k - 1) then M.pcH x y st k else M.wH (M.isLow mn n am pe ph x y st lv) (M.pcH x y st) k j else bif decide (j < M.wN (M.isLow mn n am pe ph x y st lv) k) then M.wH (M.isLow mn n am pe ph x y st lv) (M.pcH x y st) k j else M.pcH x y st k else M.wH (M.isLow mn n am pe ph x y st lv) (M.pcH x y st) k j := fun _ => rfl
  simp only [s1, s2, s3, s4]
  clear s1 s2 s3 s4 e
  cases hpk : (M.isLow mn n am pe ph x y st lv) k
  · simp [t2, hse, hr]
  · cases hw : M.wasLow (M.isLow mn n am pe ph x y st lv) k
    · simp [t2, hse, hr]
      omega
    · have h1 := hwp hw
      have e1 : ((M.wN (M.isLow mn n am pe ph x y st lv) k : Nat) : Int) - 1 = ((M.wN (M.isLow mn n am pe ph x y st lv) k - 1 : Nat) : Int) := by omega
      have r1 : R64 ((M.wN (M.isLow mn n am pe ph x y st lv) k - 1 : Nat) : Int) := by unfold R64; omega
      simp only [e1, Int.toNat_natCast, Nat.zero_add]
      simp [t2, hse, hr, r1]
      refine ⟨by omega, fun j hj => ?_⟩
      by_cases h : j = M.wN (M.isLow mn n am pe ph x y st lv) k - 1
      · simp [h]
      · simp [h]
theorem t26 (mn : Int) (n : Nat) (am pe ph : Nat → Int) (x y st lv : Int) {F : Fence} (hF : FOK F) (hr : F.round = none) (Y : YEnv PP YS.none) : ∀ Q A H nx, rangeT false Try.f26.ntmps 0 (rfFn (blkAt 0 Try.f26)) 65 j65 (lp26 mn n am pe ph x y st lv) (fun _ _ _ => ()) Q A H nx → WPS Y F Try.f26.ntmps 0 (.block 0 (blkAt 0 Try.f26)) Q A H nx :=
  rangeW (E := []) (.nil) (O := [(45, pureE e45), (47, pureE e47)]) (.cons (pureE_ok s45) (.cons (pureE_ok s47) (.nil))) (ck := true) (L := [0,1,2,3,4,5,7,8,9,10,11,12,13,14,15,23,30,33,34,44,45]) (f := Try.f26) (m := 0) (id := 0) (l := (lp26 mn n am pe ph x y st lv)) (LI := []) Y hF hr i65 (by kernel_rfl) (fun _ _ => by kernel_rfl) (by kernel_rfl) (fun _ => .nil) (fun _ => .nil) (by
    rintro ⟨⟩ k hk hp
    exact Hold.of (q26 mn n am pe ph x y st lv k) (bq26 mn n am pe ph x y st lv k ((ceq26 mn n am pe ph x y st lv k).mp hk) ((peq26 mn n am pe ph x y st lv k).mp hp)))
def e26 : List SV → Option (List Prop × SV)
  | [.agg [.int .i64 mn, .sl 3 n g_1], .agg [.int .i64 x, .int .i64 y], .int .i64 st, .int .i64 lv] => some ([Row 3 n g_1, R64 n, R64 st], .tup [.sl 2 (if (M.winE mn n (cI g_1 0) (cI g_1 1) (cI g_1 2) x y st lv) = 0 then M.wN (M.isLow mn n (cI g_1 0) (cI g_1 1) (cI g_1 2) x y st lv) (M.pcN x y st) else 0) (fun j => [SI (M.wL (M.isLow mn n (cI g_1 0) (cI g_1 1) (cI g_1 2) x y st lv) (M.pcL x st) (M.pcN x y st) j), SI (M.wH (M.isLow mn n (cI g_1 0) (cI g_1 1) (cI g_1 2) x y st lv) (M.pcH x y st) (M.pcN x y st) j)]), SI (M.winE mn n (cI g_1 0) (cI g_1 1) (cI g_1 2) x y st lv)])
  | _ => none
def Rr26 (mn : Int) (n : Nat) (am pe ph : Nat → Int) (x y st lv : Int) : Prop := (∀ (k : Nat), k < n → am k = am k ∧ pe k = pe k ∧ ph k = ph k) ∧ R64 (↑n : Int) ∧ ((!decide (M.stE mn n am pe ph x y st = (0 : Int))) = true → (if M.winE mn n am pe ph x y st lv = (0 : Int) then M.wN (M.isLow mn n am pe ph x y st lv) (M.pcN x y st) else (0 : Nat)) = (0 : Nat) ∧ M.stE mn n am pe ph x y st = M.winE mn n am pe ph x y st lv) ∧ ((!decide (M.stE mn n am pe ph x y st = (0 : Int))) = false → ((!decide (lv < (-20000 : Int))) = true → (!decide (lv < (-20000 : Int))) = true) ∧ (decide (lv < (-20000 : Int)) = false → (!decide (lv < (-20000 : Int))) = true) ∧ ((bif decide (lv < (-20000 : Int)) then true else decide ((20000 : Int) < lv)) = true → (if M.winE mn n am pe ph x y st lv = (0 : Int) then M.wN (M.isLow mn n am pe ph x y st lv) (M.pcN x y st) else (0 : Nat)) = (0 : Nat) ∧ (3 : Int) = M.winE mn n am pe ph x y st lv) ∧ ((bif decide (lv < (-20000 : Int)) then true else decide ((20000 : Int) < lv)) = false → (M.stE mn n am pe ph x y st = (0 : Int) ∧ R64 st) ∧ ((1 : Nat) = (1 : Nat) ∧ (0 : Nat) = (0 : Nat) ∧ (∀ (q : Nat), q < (1 : Nat) → x = x ∧ y = y) ∧ (1 : Nat) = (1 : Nat) ∧ (0 : Nat) = (0 : Nat) ∧ (∀ (q : Nat), q < (1 : Nat) → st = st) ∧ mn = mn ∧ (n = n ∧ ∀ (k : Nat), k < n → am k = am k ∧ pe k = pe k ∧ ph k = ph k) ∧ lv = lv ∧ M.wN (M.isLow mn n am pe ph x y st lv) (0 : Nat) = (0 : Nat) ∧ false = M.wasLow (M.isLow mn n am pe ph x y st lv) (0 : Nat) ∧ M.wN (M.isLow mn n am pe ph x y st lv) (0 : Nat) = (0 : Nat) ∧ True) ∧ ((1 : Int) ≤ st ∧ (0 : Int) ≤ x ∧ x ≤ y ∧ y ≤ (1000000000 : Int) ∧ R64 st ∧ M.pcN x y st = M.pcN x y st ∧ ∀ (k : Nat), k < M.pcN x y st → [SV.agg [SV.int IntKind.i64 (M.pcL x st k), SV.int IntKind.i64 (M.pcH x y st k)]] = [SV.agg [SV.int IntKind.i64 (M.pcL x st k), SV.int IntKind.i64 (M.pcH x y st k)]]) ∧ (M.stE mn n am pe ph x y st = (0 : Int) ∧ R64 st → (0 : Nat) + M.wN (M.isLow mn n am pe ph x y st lv) (M.pcN x y st) ≤ M.wN (M.isLow mn n am pe ph x y st lv) (M.pcN x y st) ∧ ((M.wN (M.isLow mn n am pe ph x y st lv) (M.pcN x y st) = if M.winE mn n am pe ph x y st lv = (0 : Int) then M.wN (M.isLow mn n am pe ph x y st lv) (M.pcN x y st) else (0 : Nat)) ∧ ∀ (k : Nat), k < M.wN (M.isLow mn n am pe ph x y st lv) (M.pcN x y st) → M.wL (M.isLow mn n am pe ph x y st lv) (M.pcL x st) (M.pcN x y st) ((0 : Nat) + k) = M.wL (M.isLow mn n am pe ph x y st lv) (M.pcL x st) (M.pcN x y st) k ∧ M.wH (M.isLow mn n am pe ph x y st lv) (M.pcH x y st) (M.pcN x y st) ((0 : Nat) + k) = M.wH (M.isLow mn n am pe ph x y st lv) (M.pcH x y st) (M.pcN x y st) k) ∧ (0 : Int) = M.winE mn n am pe ph x y st lv) ∧ (∀ (k : Nat), k < M.pcN x y st → M.stE mn n am pe ph x y st = (0 : Int) ∧ R64 st → False → True → False) ∧ ∀ (k : Nat), k < M.pcN x y st → M.stE mn n am pe ph x y st = (0 : Int) ∧ R64 st → False → True → False))
theorem r26 (mn : Int) (n : Nat) (am pe ph : Nat → Int) (x y st lv : Int) : V true [] [(50, pureE e50), (51, pureE e51)] Try.f26 [0,1,2,3,4,5,7,8,9,10,11,12,13,14,15,23,30,33,34,44,45] [(0, rangeT false Try.f26.ntmps 0 (rfFn (blkAt 0 Try.f26)) 65 j65 (lp26 mn n am pe ph x y st lv) (fun _ _ _ => ()))] [.agg [SI mn, .sl 3 n (fun k => [SI (am k), SI (pe k), SI (ph k)])], .agg [SI x, SI y], SI st, SI lv] (.tup [.sl 2 (if (M.winE mn n am pe ph x y st lv) = 0 then M.wN (M.isLow mn n am pe ph x y st lv) (M.pcN x y st) else 0) (fun j => [SI (M.wL (M.isLow mn n am pe ph x y st lv) (M.pcL x st) (M.pcN x y st) j), SI (M.wH (M.isLow mn n am pe ph x y st lv) (M.pcH x y st) (M.pcN x y st) j)]), SI (M.winE mn n am pe ph x y st lv)]) = Rr26 mn n am pe ph x y st lv := by kernel_rfl
theorem br26 (mn : Int) (n : Nat) (am pe ph : Nat → Int) (x y st lv : Int) (hp : (R64 n) ∧ (R64 st) ∧ AllP []) : Rr26 mn n am pe ph x y st lv := by
  unfold Rr26
  have hn := hp.1
  have hr := hp.2.1
  have hW : (M.winE mn n am pe ph x y st lv) = if (M.stE mn n am pe ph x y st) = 0 then if lv < -20000 then 3 else if 20000 < lv then 3 else 0 else (M.stE mn n am pe ph x y st) := rfl
  have w0 : M.wN (M.isLow mn n am pe ph x y st lv) 0 = 0 := rfl
  have w1 : M.wasLow (M.isLow mn n am pe ph x y st lv) 0 = false := rfl
  by_cases hse : (M.stE mn n am pe ph x y st) = 0
  · obtain ⟨ht, hst, hle⟩ := M.stE_iff.1 hse
    have hxy := (M.timE_iff.1 ht).2
    by_cases h1 : lv < -20000
    · simp [hn, hse, hW, h1]
    · by_cases h2 : 20000 < lv
      · simp [hn, hse, hW, h1, h2]
      · simp [hn, hr, hse, hW, h1, h2, hst, hxy, w0, w1]
  · simp [hn, hse, hW]
theorem s26 : PureOK PP 26 e26 := by
  intro xs ps res h hp
  unfold e26 at h
  split at h
  · rename_i mn n g_1 x y st lv
    simp only [Option.some.injEq, Prod.mk.injEq] at h
    obtain ⟨rfl, rfl⟩ := h
    simp only [AllP.cons] at hp
    obtain ⟨Hg_1, hp⟩ := hp
    refine Spec.args (ys := [.agg [SI mn, .sl 3 n (fun k => [SI ((cI g_1 0) k), SI ((cI g_1 1) k), SI ((cI g_1 2) k)])], .agg [SI x, SI y], SI st, SI lv]) ?_ (.cons (.agg (.cons (.refl _) (.cons (.row Hg_1 fun _ => rfl) .nil))) (.cons (.refl _) (.cons (.refl _) (.cons (.refl _) .nil))))
    refine enter (L := [0,1,2,3,4,5,7,8,9,10,11,12,13,14,15,23,30,33,34,44,45]) (LO := [(0, rangeT false Try.f26.ntmps 0 (rfFn (blkAt 0 Try.f26)) 65 j65 (lp26 mn n (cI g_1 0) (cI g_1 1) (cI g_1 2) x y st lv) (fun _ _ _ => ()))]) (E := []) (O := [(50, pureE e50), (51, pureE e51)]) (ck := true) (.nil) (.cons (pureE_ok s50) (.cons (pureE_ok s51) (.nil))) (k := 26) (f := Try.f26) (xs := [.agg [SI mn, .sl 3 n (fun k => [SI ((cI g_1 0) k), SI ((cI g_1 1) k), SI ((cI g_1 2) k)])], .agg [SI x, SI y], SI st, SI lv]) (r := (.tup [.sl 2 (if (M.winE mn n (cI g_1 0) (cI g_1 1) (cI g_1 2) x y st lv) = 0 then M.wN (M.isLow mn n (cI g_1 0) (cI g_1 1) (cI g_1 2) x y st lv) (M.pcN x y st) else 0) (fun j => [SI (M.wL (M.isLow mn n (cI g_1 0) (cI g_1 1) (cI g_1 2) x y st lv) (M.pcL x st) (M.pcN x y st) j), SI (M.wH (M.isLow mn n (cI g_1 0) (cI g_1 1) (cI g_1 2) x y st lv) (M.pcH x y st) (M.pcN x y st) j)]), SI (M.winE mn n (cI g_1 0) (cI g_1 1) (cI g_1 2) x y st lv)])) (by kernel_rfl) (by kernel_rfl) (fun Y => .cons (by kernel_rfl) (t26 mn n (cI g_1 0) (cI g_1 1) (cI g_1 2) x y st lv FOK.wide rfl Y) (.nil)) ?_
    exact Hold.of (r26 mn n (cI g_1 0) (cI g_1 1) (cI g_1 2) x y st lv) (br26 mn n (cI g_1 0) (cI g_1 1) (cI g_1 2) x y st lv hp)
  · cases h
end Go.Proofs.Ytpbgkohljjmbhaa.Sep
/-
  Contracts of the windows of the reference, and of equal lists. No condition. (This text proves no statement by itself.)
-/
namespace Go.Proofs.Ytpbgkohljjmbhaa.Sep
open Go
set_option linter.unusedVariables false
set_option linter.unusedSimpArgs false
def lp27 (mn : Int) (n : Nat) (am pe ph : Nat → Int) (x y st lv : Int) : LoopS where
  ι := Nat
  β := Unit
  pre k := k ≤ (M.pcN x y st) ∧ (M.stE mn n am pe ph x y st) = 0 ∧ R64 st
  μ k := (M.pcN x y st) - k
  next k _ _ _ := k + 1
  out _ := ()
  early _ := false
  SA k := [(3, SI lv), (4, .ptr 0 0), (10, .sl 2 (M.pcN x y st) (fun k => [SI (M.pcL x st k), SI (M.pcH x y st k)])), (12, .vec 1 2 0 (M.wN (M.isLow mn n am pe ph x y st lv) k)), (13, .bool (M.wasLow (M.isLow mn n am pe ph x y st lv) k)), (14, SI k)]
  SH k := [(0, .cells [SI mn, .sl 3 n (fun k => [SI (am k), SI (pe k), SI (ph k)])]), (1, .row 2 (M.wN (M.isLow mn n am pe ph x y st lv) k) (fun j => [SI (M.wL (M.isLow mn n am pe ph x y st lv) (M.pcL x st) k j), SI (M.wH (M.isLow mn n am pe ph x y st lv) (M.pcH x y st) k j)]))]
  n0 := 2
  NA _ := [(12, .vec 0 2 0 (M.wN (M.isLow mn n am pe ph x y st lv) (M.pcN x y st)))]
  NH _ := [(0, .row 2 (M.wN (M.isLow mn n am pe ph x y st lv) (M.pcN x y st)) (fun j => [SI (M.wL (M.isLow mn n am pe ph x y st lv) (M.pcL x st) (M.pcN x y st) j), SI (M.wH (M.isLow mn n am pe ph x y st lv) (M.pcH x y st) (M.pcN x y st) j)]))]
  n1 := 1
  RA _ := []
  RH _ := []
def Rq27 (mn : Int) (n : Nat) (am pe ph : Nat → Int) (x y st lv : Int) (k : Nat) : Prop := (decide ((↑k : Int) < (↑(M.pcN x y st) : Int)) = true → (0 : Int) ≤ (↑k : Int) ∧ (↑k : Int) < (↑(M.pcN x y st) : Int) ∧ Int.toNat (↑k : Int) < M.pcN x y st ∧ (∀ (k : Nat), k < n → am k = am k ∧ pe k = pe k ∧ ph k = ph k) ∧ M.timE mn n am pe ph (M.pcL x st (Int.toNat (↑k : Int))) (M.pcH x y st (Int.toNat (↑k : Int))) = (0 : Int) ∧ (decide (M.gHi mn n am pe ph (M.pcL x st (Int.toNat (↑k : Int))) (M.pcH x y st (Int.toNat (↑k : Int))) ≤ lv) = true → decide (M.gHi mn n am pe ph (M.pcL x st (Int.toNat (↑k : Int))) (M.pcH x y st (Int.toNat (↑k : Int))) ≤ lv) = true) ∧ ((bif decide (M.gHi mn n am pe ph (M.pcL x st (Int.toNat (↑k : Int))) (M.pcH x y st (Int.toNat (↑k : Int))) ≤ lv) then M.wasLow (M.isLow mn n am pe ph x y st lv) k else false) = true → R64 ((↑(M.wN (M.isLow mn n am pe ph x y st lv) k) : Int) - (1 : Int)) ∧ (0 : Int) ≤ (↑k : Int) ∧ (↑k : Int) < (↑(M.pcN x y st) : Int) ∧ Int.toNat (↑k : Int) < M.pcN x y st ∧ (0 : Int) ≤ (↑(M.wN (M.isLow mn n am pe ph x y st lv) k) : Int) - (1 : Int) ∧ (↑(M.wN (M.isLow mn n am pe ph x y st lv) k) : Int) - (1 : Int) < (↑(M.wN (M.isLow mn n am pe ph x y st lv) k) : Int) ∧ (0 : Nat) + Int.toNat ((↑(M.wN (M.isLow mn n am pe ph x y st lv) k) : Int) - (1 : Int)) < M.wN (M.isLow mn n am pe ph x y st lv) k ∧ R64 ((↑k : Int) + (1 : Int)) ∧ (k + (1 : Nat) ≤ M.pcN x y st ∧ M.stE mn n am pe ph x y st = (0 : Int) ∧ R64 st) ∧ M.pcN x y st - (k + (1 : Nat)) < M.pcN x y st - k ∧ () = () ∧ lv = lv ∧ (M.pcN x y st = M.pcN x y st ∧ ∀ (k : Nat), k < M.pcN x y st → M.pcL x st k = M.pcL x st k ∧ M.pcH x y st k = M.pcH x y st k) ∧ (0 : Nat) = (0 : Nat) ∧ M.wN (M.isLow mn n am pe ph x y st lv) k = M.wN (M.isLow mn n am pe ph x y st lv) (k + (1 : Nat)) ∧ decide (M.gHi mn n am pe ph (M.pcL x st (Int.toNat (↑k : Int))) (M.pcH x y st (Int.toNat (↑k : Int))) ≤ lv) = M.wasLow (M.isLow mn n am pe ph x y st lv) (k + (1 : Nat)) ∧ (↑k : Int) + (1 : Int) = (↑(k + (1 : Nat)) : Int) ∧ mn = mn ∧ (n = n ∧ ∀ (k : Nat), k < n → am k = am k ∧ pe k = pe k ∧ ph k = ph k) ∧ M.wN (M.isLow mn n am pe ph x y st lv) (k + (1 : Nat)) ≤ M.wN (M.isLow mn n am pe ph x y st lv) k ∧ (∀ (k_1 : Nat), k_1 < M.wN (M.isLow mn n am pe ph x y st lv) (k + (1 : Nat)) → (bif decide (k_1 = (0 : Nat) + Int.toNat ((↑(M.wN (M.isLow mn n am pe ph x y st lv) k) : Int) - (1 : Int))) then M.wL (M.isLow mn n am pe ph x y st lv) (M.pcL x st) k ((0 : Nat) + Int.toNat ((↑(M.wN (M.isLow mn n am pe ph x y st lv) k) : Int) - (1 : Int))) else M.wL (M.isLow mn n am pe ph x y st lv) (M.pcL x st) k k_1) = M.wL (M.isLow mn n am pe ph x y st lv) (M.pcL x st) (k + (1 : Nat)) k_1 ∧ (bif decide (k_1 = (0 : Nat) + Int.toNat ((↑(M.wN (M.isLow mn n am pe ph x y st lv) k) : Int) - (1 : Int))) then M.pcH x y st (Int.toNat (↑k : Int)) else M.wH (M.isLow mn n am pe ph x y st lv) (M.pcH x y st) k k_1) = M.wH (M.isLow mn n am pe ph x y st lv) (M.pcH x y st) (k + (1 : Nat)) k_1) ∧ True) ∧ ((bif decide (M.gHi mn n am pe ph (M.pcL x st (Int.toNat (↑k : Int))) (M.pcH x y st (Int.toNat (↑k : Int))) ≤ lv) then M.wasLow (M.isLow mn n am pe ph x y st lv) k else false) = false → (decide (M.gHi mn n am pe ph (M.pcL x st (Int.toNat (↑k : Int))) (M.pcH x y st (Int.toNat (↑k : Int))) ≤ lv) = true → (0 : Int) ≤ (↑k : Int) ∧ (↑k : Int) < (↑(M.pcN x y st) : Int) ∧ Int.toNat (↑k : Int) < M.pcN x y st ∧ (0 : Nat) + (1 : Nat) ≤ (1 : Nat) ∧ (∀ (k : Nat), k < (1 : Nat) → true = true) ∧ M.wN (M.isLow mn n am pe ph x y st lv) k ≤ M.wN (M.isLow mn n am pe ph x y st lv) k ∧ (M.wN (M.isLow mn n am pe ph x y st lv) k + (1 : Nat)) * (16 : Nat) ≤ (140737488355328 : Nat) ∧ R64 ((↑k : Int) + (1 : Int)) ∧ (k + (1 : Nat) ≤ M.pcN x y st ∧ M.stE mn n am pe ph x y st = (0 : Int) ∧ R64 st) ∧ M.pcN x y st - (k + (1 : Nat)) < M.pcN x y st - k ∧ () = () ∧ lv = lv ∧ (M.pcN x y st = M.pcN x y st ∧ ∀ (k : Nat), k < M.pcN x y st → M.pcL x st k = M.pcL x st k ∧ M.pcH x y st k = M.pcH x y st k) ∧ (0 : Nat) = (0 : Nat) ∧ M.wN (M.isLow mn n am pe ph x y st lv) k + (1 : Nat) = M.wN (M.isLow mn n am pe ph x y st lv) (k + (1 : Nat)) ∧ decide (M.gHi mn n am pe ph (M.pcL x st (Int.toNat (↑k : Int))) (M.pcH x y st (Int.toNat (↑k : Int))) ≤ lv) = M.wasLow (M.isLow mn n am pe ph x y st lv) (k + (1 : Nat)) ∧ (↑k : Int) + (1 : Int) = (↑(k + (1 : Nat)) : Int) ∧ mn = mn ∧ (n = n ∧ ∀ (k : Nat), k < n → am k = am k ∧ pe k = pe k ∧ ph k = ph k) ∧ M.wN (M.isLow mn n am pe ph x y st lv) (k + (1 : Nat)) ≤ M.wN (M.isLow mn n am pe ph x y st lv) k + (1 : Nat) ∧ (∀ (k_1 : Nat), k_1 < M.wN (M.isLow mn n am pe ph x y st lv) (k + (1 : Nat)) → (bif decide (k_1 < M.wN (M.isLow mn n am pe ph x y st lv) k) then M.wL (M.isLow mn n am pe ph x y st lv) (M.pcL x st) k k_1 else M.pcL x st (Int.toNat (↑k : Int))) = M.wL (M.isLow mn n am pe ph x y st lv) (M.pcL x st) (k + (1 : Nat)) k_1 ∧ (bif decide (k_1 < M.wN (M.isLow mn n am pe ph x y st lv) k) then M.wH (M.isLow mn n am pe ph x y st lv) (M.pcH x y st) k k_1 else M.pcH x y st (Int.toNat (↑k : Int))) = M.wH (M.isLow mn n am pe ph x y st lv) (M.pcH x y st) (k + (1 : Nat)) k_1) ∧ True) ∧ (decide (M.gHi mn n am pe ph (M.pcL x st (Int.toNat (↑k : Int))) (M.pcH x y st (Int.toNat (↑k : Int))) ≤ lv) = false → R64 ((↑k : Int) + (1 : Int)) ∧ (k + (1 : Nat) ≤ M.pcN x y st ∧ M.stE mn n am pe ph x y st = (0 : Int) ∧ R64 st) ∧ M.pcN x y st - (k + (1 : Nat)) < M.pcN x y st - k ∧ () = () ∧ lv = lv ∧ (M.pcN x y st = M.pcN x y st ∧ ∀ (k : Nat), k < M.pcN x y st → M.pcL x st k = M.pcL x st k ∧ M.pcH x y st k = M.pcH x y st k) ∧ (0 : Nat) = (0 : Nat) ∧ M.wN (M.isLow mn n am pe ph x y st lv) k = M.wN (M.isLow mn n am pe ph x y st lv) (k + (1 : Nat)) ∧ decide (M.gHi mn n am pe ph (M.pcL x st (Int.toNat (↑k : Int))) (M.pcH x y st (Int.toNat (↑k : Int))) ≤ lv) = M.wasLow (M.isLow mn n am pe ph x y st lv) (k + (1 : Nat)) ∧ (↑k : Int) + (1 : Int) = (↑(k + (1 : Nat)) : Int) ∧ mn = mn ∧ (n = n ∧ ∀ (k : Nat), k < n → am k = am k ∧ pe k = pe k ∧ ph k = ph k) ∧ M.wN (M.isLow mn n am pe ph x y st lv) (k + (1 : Nat)) ≤ M.wN (M.isLow mn n am pe ph x y st lv) k ∧ (∀ (k_1 : Nat), k_1 < M.wN (M.isLow mn n am pe ph x y st lv) (k + (1 : Nat)) → M.wL (M.isLow mn n am pe ph x y st lv) (M.pcL x st) k k_1 = M.wL (M.isLow mn n am pe ph x y st lv) (M.pcL x st) (k + (1 : Nat)) k_1 ∧ M.wH (M.isLow mn n am pe ph x y st lv) (M.pcH x y st) k k_1 = M.wH (M.isLow mn n am pe ph x y st lv) (M.pcH x y st) (k + (1 : Nat)) k_1) ∧ True))) ∧ (decide ((↑k : Int) < (↑(M.pcN x y st) : Int)) = false → false = false ∧ (0 : Nat) = (0 : Nat) ∧ M.wN (M.isLow mn n am pe ph x y st lv) k = M.wN (M.isLow mn n am pe ph x y st lv) (M.pcN x y st) ∧ M.wN (M.isLow mn n am pe ph x y st lv) (M.pcN x y st) ≤ M.wN (M.isLow mn n am pe ph x y st lv) k ∧ (∀ (k_1 : Nat), k_1 < M.wN (M.isLow mn n am pe ph x y st lv) (M.pcN x y st) → M.wL (M.isLow mn n am pe ph x y st lv) (M.pcL x st) k k_1 = M.wL (M.isLow mn n am pe ph x y st lv) (M.pcL x st) (M.pcN x y st) k_1 ∧ M.wH (M.isLow mn n am pe ph x y st lv) (M.pcH x y st) k k_1 = M.wH (M.isLow mn n am pe ph x y st lv) (M.pcH x y st) (M.pcN x y st) k_1) ∧ True)
theorem q27 (mn : Int) (n : Nat) (am pe ph : Nat → Int) (x y st lv : Int) (k : Nat) : VL true [] [(46, pureE e46)] YS.none Try.f27 0 [0,1,2,3,4,5,8,9,10,11,12,13,14,15,24,31,35,47,63] [] 0 (lp27 mn n am pe ph x y st lv) (k) = Rq27 mn n am pe ph x y st lv k := by kernel_rfl
theorem peq27 (mn : Int) (n : Nat) (am pe ph : Nat → Int) (x y st lv : Int) (k : Nat) : (lp27 mn n am pe ph x y st lv).pre (k) = (k ≤ M.pcN x y st ∧ M.stE mn n am pe ph x y st = (0 : Int) ∧ R64 st) := by kernel_rfl
theorem bq27 (mn : Int) (n : Nat) (am pe ph : Nat → Int) (x y st lv : Int) (k : Nat) (hp : k ≤ M.pcN x y st ∧ M.stE mn n am pe ph x y st = (0 : Int) ∧ R64 st) : Rq27 mn n am pe ph x y st lv k := by
  unfold Rq27
  obtain ⟨hk, hse, hr⟩ := id hp
  obtain ⟨ht, hst, hle⟩ := M.stE_iff.1 hse
  have hxy := (M.timE_iff.1 ht).2
  have hN := M.pcN_le hst hle
  simp only [Int.toNat_natCast]
  by_cases hlt : k < (M.pcN x y st)
  · have r2 : R64 ((k : Int) + 1) := by unfold R64; omega
    obtain ⟨i1, i2, i3⟩ := M.pc_in (x := x) (y := y) hxy.1 hst hlt
    have t2 := M.tim_sub (a := M.pcL x st k) (b := M.pcH x y st k) ht (by omega) (by omega) (by omega)
    have e : decide (M.gHi mn n am pe ph (M.pcL x st k) (M.pcH x y st k) ≤ lv) = (M.isLow mn n am pe ph x y st lv) k := rfl
    simp only [e]
    have hwl := @M.wN_le (M.isLow mn n am pe ph x y st lv) k
    have hwp := @M.wN_pos (M.isLow mn n am pe ph x y st lv) k
    have s1 : M.wN (M.isLow mn n am pe ph x y st lv) (k + 1) = bif (M.isLow mn n am pe ph x y st lv) k && !M.wasLow (M.isLow mn n am pe ph x y st lv) k then M.wN (M.isLow mn n am pe ph x y st lv) k + 1 else M.wN (M.isLow mn n am pe ph x y st lv) k := rfl
    have s2 : M.wasLow (M.isLow mn n am pe ph x y st lv) (k + 1) = (M.isLow mn n am pe ph x y st lv) k := rfl
    have s3 : ∀ j, M.wL (M.isLow mn n am pe ph x y st lv) (M.pcL x st) (k + 1) j = bif (M.isLow mn n am pe ph x y st lv) k && !M.wasLow (M.isLow mn n am pe ph x y st lv) k then bif decide (j < M.wN (M.isLow mn n am pe ph x y st lv) k) then M.wL (M.isLow mn n am pe ph x y st lv) (M.pcL x st) k j else M.pcL x st k else M.wL (M.isLow mn n am pe ph x y st lv) (M.pcL x st) k j := fun _ => rfl
    have s4 : ∀ j, M.wH (M.isLow mn n am pe ph x y st lv) (M.pcH x y st) (k + 1) j = bif (M.isLow mn n am pe ph x y st lv) k then bif M.wasLow (M.isLow mn n am pe ph x y st lv) k then bif decide (j = M.wN (M.isLow mn n am pe ph x y st lv) k - 1) then M.pcH x y st k else M.wH (M.isLow mn n am pe ph x y st lv) (M.pcH x y st) k j else bif decide (j < M.wN (M.isLow mn n am pe ph x y st lv) k) then M.wH (M.isLow mn n am pe ph x y st lv) (M.pcH x y st) k j else M.pcH x y st k else M.wH (M.isLow mn n am pe ph x y st lv) (M.pcH x y st) k j := fun _ => rfl
    simp only [s1, s2, s3, s4]
    clear s1 s2 s3 s4 e
    cases hpk : (M.isLow mn n am pe ph x y st lv) k
    · simp [hlt, t2, hse, hr, r2]
      omega
    · cases hw : M.wasLow (M.isLow mn n am pe ph x y st lv) k
      · simp [hlt, t2, hse, hr, r2]
        omega
      · have h1 := hwp hw
        have e1 : ((M.wN (M.isLow mn n am pe ph x y st lv) k : Nat) : Int) - 1 = ((M.wN (M.isLow mn n am pe ph x y st lv) k - 1 : Nat) : Int) := by omega
        have r1 : R64 ((M.wN (M.isLow mn n am pe ph x y st lv) k - 1 : Nat) : Int) := by unfold R64; omega
        simp only [e1, Int.toNat_natCast, Nat.zero_add]
        simp [hlt, t2, hse, hr, r1, r2]
        refine ⟨by omega, by omega, by omega, fun j hj => ?_⟩
        by_cases h : j = M.wN (M.isLow mn n am pe ph x y st lv) k - 1
        · simp [h]
        · simp [h]
  · have e : k = (M.pcN x y st) := by omega
    simp [← e]
theorem t27 (mn : Int) (n : Nat) (am pe ph : Nat → Int) (x y st lv : Int) {F : Fence} (hF : FOK F) (Y : YEnv PP YS.none) : ∀ Q A H nx, loopT false Try.f27.ntmps 0 (lp27 mn n am pe ph x y st lv) (fun _ _ _ => (0 : Nat)) Q A H nx → WPS Y F Try.f27.ntmps 0 (.block 0 (blkAt 0 Try.f27)) Q A H nx :=
  loopW (E := []) (.nil) (O := [(46, pureE e46)]) (.cons (pureE_ok s46) (.nil)) (ck := true) (L := [0,1,2,3,4,5,8,9,10,11,12,13,14,15,24,31,35,47,63]) (f := Try.f27) (m := 0) (id := 0) (l := (lp27 mn n am pe ph x y st lv)) (LI := fun i => []) Y hF (by kernel_rfl) (fun _ => .nil) (by
    rintro k hp
    exact Hold.of (q27 mn n am pe ph x y st lv k) (bq27 mn n am pe ph x y st lv k ((peq27 mn n am pe ph x y st lv k).mp hp)))
def e27 : List SV → Option (List Prop × SV)
  | [.agg [.int .i64 mn, .sl 3 n g_1], .agg [.int .i64 x, .int .i64 y], .int .i64 st, .int .i64 lv] => some ([Row 3 n g_1, R64 n, R64 st], .tup [.sl 2 (if (M.winE mn n (cI g_1 0) (cI g_1 1) (cI g_1 2) x y st lv) = 0 then M.wN (M.isLow mn n (cI g_1 0) (cI g_1 1) (cI g_1 2) x y st lv) (M.pcN x y st) else 0) (fun j => [SI (M.wL (M.isLow mn n (cI g_1 0) (cI g_1 1) (cI g_1 2) x y st lv) (M.pcL x st) (M.pcN x y st) j), SI (M.wH (M.isLow mn n (cI g_1 0) (cI g_1 1) (cI g_1 2) x y st lv) (M.pcH x y st) (M.pcN x y st) j)]), SI (M.winE mn n (cI g_1 0) (cI g_1 1) (cI g_1 2) x y st lv)])
  | _ => none
def Rr27 (mn : Int) (n : Nat) (am pe ph : Nat → Int) (x y st lv : Int) : Prop := (∀ (k : Nat), k < n → am k = am k ∧ pe k = pe k ∧ ph k = ph k) ∧ R64 (↑n : Int) ∧ ((!decide (M.stE mn n am pe ph x y st = (0 : Int))) = true → (if M.winE mn n am pe ph x y st lv = (0 : Int) then M.wN (M.isLow mn n am pe ph x y st lv) (M.pcN x y st) else (0 : Nat)) = (0 : Nat) ∧ M.stE mn n am pe ph x y st = M.winE mn n am pe ph x y st lv) ∧ ((!decide (M.stE mn n am pe ph x y st = (0 : Int))) = false → ((!decide (lv < (-20000 : Int))) = true → (!decide (lv < (-20000 : Int))) = true) ∧ (decide (lv < (-20000 : Int)) = false → (!decide (lv < (-20000 : Int))) = true) ∧ ((bif decide (lv < (-20000 : Int)) then true else decide ((20000 : Int) < lv)) = true → (if M.winE mn n am pe ph x y st lv = (0 : Int) then M.wN (M.isLow mn n am pe ph x y st lv) (M.pcN x y st) else (0 : Nat)) = (0 : Nat) ∧ (3 : Int) = M.winE mn n am pe ph x y st lv) ∧ ((bif decide (lv < (-20000 : Int)) then true else decide ((20000 : Int) < lv)) = false → ((0 : Nat) ≤ M.pcN x y st ∧ M.stE mn n am pe ph x y st = (0 : Int) ∧ R64 st) ∧ (lv = lv ∧ ((if M.stE mn n am pe ph x y st = (0 : Int) then M.pcN x y st else (0 : Nat)) = M.pcN x y st ∧ ∀ (k : Nat), (k < if M.stE mn n am pe ph x y st = (0 : Int) then M.pcN x y st else (0 : Nat)) → M.pcL x st k = M.pcL x st k ∧ M.pcH x y st k = M.pcH x y st k) ∧ M.wN (M.isLow mn n am pe ph x y st lv) (0 : Nat) = (0 : Nat) ∧ false = M.wasLow (M.isLow mn n am pe ph x y st lv) (0 : Nat) ∧ (0 : Int) = (↑(0 : Nat) : Int) ∧ mn = mn ∧ (n = n ∧ ∀ (k : Nat), k < n → am k = am k ∧ pe k = pe k ∧ ph k = ph k) ∧ M.wN (M.isLow mn n am pe ph x y st lv) (0 : Nat) = (0 : Nat) ∧ True) ∧ (false = false → (0 : Nat) + M.wN (M.isLow mn n am pe ph x y st lv) (M.pcN x y st) ≤ M.wN (M.isLow mn n am pe ph x y st lv) (M.pcN x y st) ∧ ((M.wN (M.isLow mn n am pe ph x y st lv) (M.pcN x y st) = if M.winE mn n am pe ph x y st lv = (0 : Int) then M.wN (M.isLow mn n am pe ph x y st lv) (M.pcN x y st) else (0 : Nat)) ∧ ∀ (k : Nat), k < M.wN (M.isLow mn n am pe ph x y st lv) (M.pcN x y st) → M.wL (M.isLow mn n am pe ph x y st lv) (M.pcL x st) (M.pcN x y st) ((0 : Nat) + k) = M.wL (M.isLow mn n am pe ph x y st lv) (M.pcL x st) (M.pcN x y st) k ∧ M.wH (M.isLow mn n am pe ph x y st lv) (M.pcH x y st) (M.pcN x y st) ((0 : Nat) + k) = M.wH (M.isLow mn n am pe ph x y st lv) (M.pcH x y st) (M.pcN x y st) k) ∧ (0 : Int) = M.winE mn n am pe ph x y st lv) ∧ (false = true → False)))
theorem r27 (mn : Int) (n : Nat) (am pe ph : Nat → Int) (x y st lv : Int) : V true [] [(52, pureE e52)] Try.f27 [0,1,2,3,4,5,8,9,10,11,12,13,14,15,24,31,35,47,63] [(0, loopT false Try.f27.ntmps 0 (lp27 mn n am pe ph x y st lv) (fun _ _ _ => (0 : Nat)))] [.agg [SI mn, .sl 3 n (fun k => [SI (am k), SI (pe k), SI (ph k)])], .agg [SI x, SI y], SI st, SI lv] (.tup [.sl 2 (if (M.winE mn n am pe ph x y st lv) = 0 then M.wN (M.isLow mn n am pe ph x y st lv) (M.pcN x y st) else 0) (fun j => [SI (M.wL (M.isLow mn n am pe ph x y st lv) (M.pcL x st) (M.pcN x y st) j), SI (M.wH (M.isLow mn n am pe ph x y st lv) (M.pcH x y st) (M.pcN x y st) j)]), SI (M.winE mn n am pe ph x y st lv)]) = Rr27 mn n am pe ph x y st lv := by kernel_rfl
theorem br27 (mn : Int) (n : Nat) (am pe ph : Nat → Int) (x y st lv : Int) (hp : (R64 n) ∧ (R64 st) ∧ AllP []) : Rr27 mn n am pe ph x y st lv := by
  unfold Rr27
  have hn := hp.1
  have hr := hp.2.1
  have hW : (M.winE mn n am pe ph x y st lv) = if (M.stE mn n am pe ph x y st) = 0 then if lv < -20000 then 3 else if 20000 < lv then 3 else 0 else (M.stE mn n am pe ph x y st) := rfl
  have w0 : M.wN (M.isLow mn n am pe ph x y st lv) 0 = 0 := rfl
  have w1 : M.wasLow (M.isLow mn n am pe ph x y st lv) 0 = false := rfl
  by_cases hse : (M.stE mn n am pe ph x y st) = 0
  · by_cases h1 : lv < -20000
    · simp [hn, hse, hW, h1]
    · by_cases h2 : 20000 < lv
      · simp [hn, hse, hW, h1, h2]
      · simp [hn, hr, hse, hW, h1, h2, w0, w1]
  · simp [hn, hse, hW]
theorem s27 : PureOK PP 27 e27 := by
  intro xs ps res h hp
  unfold e27 at h
  split at h
  · rename_i mn n g_1 x y st lv
    simp only [Option.some.injEq, Prod.mk.injEq] at h
    obtain ⟨rfl, rfl⟩ := h
    simp only [AllP.cons] at hp
    obtain ⟨Hg_1, hp⟩ := hp
    refine Spec.args (ys := [.agg [SI mn, .sl 3 n (fun k => [SI ((cI g_1 0) k), SI ((cI g_1 1) k), SI ((cI g_1 2) k)])], .agg [SI x, SI y], SI st, SI lv]) ?_ (.cons (.agg (.cons (.refl _) (.cons (.row Hg_1 fun _ => rfl) .nil))) (.cons (.refl _) (.cons (.refl _) (.cons (.refl _) .nil))))
    refine enter (L := [0,1,2,3,4,5,8,9,10,11,12,13,14,15,24,31,35,47,63]) (LO := [(0, loopT false Try.f27.ntmps 0 (lp27 mn n (cI g_1 0) (cI g_1 1) (cI g_1 2) x y st lv) (fun _ _ _ => (0 : Nat)))]) (E := []) (O := [(52, pureE e52)]) (ck := true) (.nil) (.cons (pureE_ok s52) (.nil)) (k := 27) (f := Try.f27) (xs := [.agg [SI mn, .sl 3 n (fun k => [SI ((cI g_1 0) k), SI ((cI g_1 1) k), SI ((cI g_1 2) k)])], .agg [SI x, SI y], SI st, SI lv]) (r := (.tup [.sl 2 (if (M.winE mn n (cI g_1 0) (cI g_1 1) (cI g_1 2) x y st lv) = 0 then M.wN (M.isLow mn n (cI g_1 0) (cI g_1 1) (cI g_1 2) x y st lv) (M.pcN x y st) else 0) (fun j => [SI (M.wL (M.isLow mn n (cI g_1 0) (cI g_1 1) (cI g_1 2) x y st lv) (M.pcL x st) (M.pcN x y st) j), SI (M.wH (M.isLow mn n (cI g_1 0) (cI g_1 1) (cI g_1 2) x y st lv) (M.pcH x y st) (M.pcN x y st) j)]), SI (M.winE mn n (cI g_1 0) (cI g_1 1) (cI g_1 2) x y st lv)])) (by kernel_rfl) (by kernel_rfl) (fun Y => .cons (by kernel_rfl) (t27 mn n (cI g_1 0) (cI g_1 1) (cI g_1 2) x y st lv FOK.wide Y) (.nil)) ?_
    exact Hold.of (r27 mn n (cI g_1 0) (cI g_1 1) (cI g_1 2) x y st lv) (br27 mn n (cI g_1 0) (cI g_1 1) (cI g_1 2) x y st lv hp)
  · cases h
def lp28 (n : Nat) (x y : Nat → Int) (m : Nat) (u v : Nat → Int) : LoopS where
  ι := Nat
  β := Unit
  pre k := (k ≤ n ∧ n = m ∧ R64 n) ∧ ∀ j, j < k → M.eqR x y u v j = true
  μ k := n - k
  next k _ _ _ := k + 1
  out _ := ()
  early _ := !M.allB (M.eqR x y u v) n
  SA k := [(0, .sl 2 n (fun k => [SI (x k), SI (y k)])), (1, .sl 2 m (fun k => [SI (u k), SI (v k)])), (5, SI k)]
  SH _ := []
  n0 := 0
  NA _ := []
  NH _ := []
  n1 := 0
  RA _ := [(4, .bool false)]
  RH _ := []
def Rq28 (n : Nat) (x y : Nat → Int) (m : Nat) (u v : Nat → Int) (k : Nat) : Prop := (decide ((↑k : Int) < (↑n : Int)) = true → (0 : Int) ≤ (↑k : Int) ∧ (↑k : Int) < (↑n : Int) ∧ Int.toNat (↑k : Int) < n ∧ (0 : Int) ≤ (↑k : Int) ∧ (↑k : Int) < (↑m : Int) ∧ Int.toNat (↑k : Int) < m ∧ ((!(decide (x (Int.toNat (↑k : Int)) = u (Int.toNat (↑k : Int))) && (decide (y (Int.toNat (↑k : Int)) = v (Int.toNat (↑k : Int))) && true))) = true → (!M.allB (M.eqR x y u v) n) = true ∧ false = false ∧ True) ∧ ((!(decide (x (Int.toNat (↑k : Int)) = u (Int.toNat (↑k : Int))) && (decide (y (Int.toNat (↑k : Int)) = v (Int.toNat (↑k : Int))) && true))) = false → R64 ((↑k : Int) + (1 : Int)) ∧ ((k + (1 : Nat) ≤ n ∧ n = m ∧ R64 (↑n : Int)) ∧ ∀ (j : Nat), j < k + (1 : Nat) → M.eqR x y u v j = true) ∧ n - (k + (1 : Nat)) < n - k ∧ () = () ∧ (n = n ∧ ∀ (k : Nat), k < n → x k = x k ∧ y k = y k) ∧ (m = m ∧ ∀ (k : Nat), k < m → u k = u k ∧ v k = v k) ∧ (↑k : Int) + (1 : Int) = (↑(k + (1 : Nat)) : Int) ∧ True)) ∧ (decide ((↑k : Int) < (↑n : Int)) = false → (!M.allB (M.eqR x y u v) n) = false ∧ True)
theorem q28 (n : Nat) (x y : Nat → Int) (m : Nat) (u v : Nat → Int) (k : Nat) : VL true eqs [] YS.none Try.f28 0 [0,1,4,5,10,14,25] [] 0 (lp28 n x y m u v) (k) = Rq28 n x y m u v k := by kernel_rfl
theorem peq28 (n : Nat) (x y : Nat → Int) (m : Nat) (u v : Nat → Int) (k : Nat) : (lp28 n x y m u v).pre (k) = ((k ≤ n ∧ n = m ∧ R64 (↑n : Int)) ∧ ∀ (j : Nat), j < k → M.eqR x y u v j = true) := by kernel_rfl
theorem bq28 (n : Nat) (x y : Nat → Int) (m : Nat) (u v : Nat → Int) (k : Nat) (hp : (k ≤ n ∧ n = m ∧ R64 (↑n : Int)) ∧ ∀ (j : Nat), j < k → M.eqR x y u v j = true) : Rq28 n x y m u v k := by
  unfold Rq28
  obtain ⟨⟨hk, hnm, hR⟩, ho⟩ := hp
  have e : M.eqR x y u v k = (decide (x k = u k) && decide (y k = v k)) := rfl
  have ha := @M.allB_iff (M.eqR x y u v) n
  simp only [Int.toNat_natCast, Bool.and_true, ← e]
  unfold R64 at *
  refine ⟨fun hlt => ?_, fun hlt => ?_⟩
  · simp only [decide_eq_true_eq] at hlt
    cases hb : M.eqR x y u v k
    · have : M.allB (M.eqR x y u v) n = false := by
        rw [Bool.eq_false_iff]
        intro h
        have := ha.1 h k (by omega)
        rw [hb] at this; cases this
      simp [this]
      omega
    · have hn : ∀ j, j < k + 1 → M.eqR x y u v j = true := fun j hj => by
        by_cases e' : j = k
        · subst e'; exact hb
        · exact ho j (by omega)
      simp
      repeat' apply And.intro
      all_goals first | omega | exact hn
  · simp only [decide_eq_false_iff_not] at hlt
    have := ha.2 (fun j hj => ho j (by omega))
    simp [this]
theorem t28 (n : Nat) (x y : Nat → Int) (m : Nat) (u v : Nat → Int) {F : Fence} (hF : FOK F) (Y : YEnv PP YS.none) : ∀ Q A H nx, loopT false Try.f28.ntmps 0 (lp28 n x y m u v) (fun _ _ _ => (0 : Nat)) Q A H nx → WPS Y F Try.f28.ntmps 0 (.block 0 (blkAt 0 Try.f28)) Q A H nx :=
  loopW (E := eqs) (eqsok) (O := []) (.nil) (ck := true) (L := [0,1,4,5,10,14,25]) (f := Try.f28) (m := 0) (id := 0) (l := (lp28 n x y m u v)) (LI := fun i => []) Y hF (by kernel_rfl) (fun _ => .nil) (by
    rintro k hp
    exact Hold.of (q28 n x y m u v k) (bq28 n x y m u v k ((peq28 n x y m u v k).mp hp)))
def e28 : List SV → Option (List Prop × SV)
  | [.sl 2 n g_1, .sl 2 m g_2] => some ([Row 2 n g_1, Row 2 m g_2, R64 n, R64 m], .bool (decide (n = m) && M.allB (M.eqR (cI g_1 0) (cI g_1 1) (cI g_2 0) (cI g_2 1)) n))
  | _ => none
def Rr28 (n : Nat) (x y : Nat → Int) (m : Nat) (u v : Nat → Int) : Prop := ((!decide ((↑n : Int) = (↑m : Int))) = true → false = (decide (n = m) && M.allB (M.eqR x y u v) n)) ∧ ((!decide ((↑n : Int) = (↑m : Int))) = false → (((0 : Nat) ≤ n ∧ n = m ∧ R64 (↑n : Int)) ∧ ∀ (j : Nat), j < (0 : Nat) → M.eqR x y u v j = true) ∧ ((n = n ∧ ∀ (k : Nat), k < n → x k = x k ∧ y k = y k) ∧ (m = m ∧ ∀ (k : Nat), k < m → u k = u k ∧ v k = v k) ∧ (0 : Int) = (↑(0 : Nat) : Int) ∧ True) ∧ ((!M.allB (M.eqR x y u v) n) = false → true = (decide (n = m) && M.allB (M.eqR x y u v) n)) ∧ ((!M.allB (M.eqR x y u v) n) = true → false = (decide (n = m) && M.allB (M.eqR x y u v) n)))
theorem r28 (n : Nat) (x y : Nat → Int) (m : Nat) (u v : Nat → Int) : V true eqs [] Try.f28 [0,1,4,5,10,14,25] [(0, loopT false Try.f28.ntmps 0 (lp28 n x y m u v) (fun _ _ _ => (0 : Nat)))] [.sl 2 n (fun k => [SI (x k), SI (y k)]), .sl 2 m (fun k => [SI (u k), SI (v k)])] (.bool (decide (n = m) && M.allB (M.eqR x y u v) n)) = Rr28 n x y m u v := by kernel_rfl
theorem br28 (n : Nat) (x y : Nat → Int) (m : Nat) (u v : Nat → Int) (hp : (R64 n) ∧ (R64 m) ∧ AllP []) : Rr28 n x y m u v := by
  unfold Rr28
  have h1 := hp.1
  have e : ((n : Int) = (m : Int)) = (n = m) := by rw [eq_iff_iff]; omega
  simp only [e]
  by_cases h : n = m
  · subst h
    cases M.allB (M.eqR x y u v) n <;> simp [h1]
  · simp [h]
theorem s28 : PureOK PP 28 e28 := by
  intro xs ps res h hp
  unfold e28 at h
  split at h
  · rename_i n g_1 m g_2
    simp only [Option.some.injEq, Prod.mk.injEq] at h
    obtain ⟨rfl, rfl⟩ := h
    simp only [AllP.cons] at hp
    obtain ⟨Hg_1, hp⟩ := hp
    obtain ⟨Hg_2, hp⟩ := hp
    refine Spec.args (ys := [.sl 2 n (fun k => [SI ((cI g_1 0) k), SI ((cI g_1 1) k)]), .sl 2 m (fun k => [SI ((cI g_2 0) k), SI ((cI g_2 1) k)])]) ?_ (.cons (.row Hg_1 fun _ => rfl) (.cons (.row Hg_2 fun _ => rfl) .nil))
    refine enter (L := [0,1,4,5,10,14,25]) (LO := [(0, loopT false Try.f28.ntmps 0 (lp28 n (cI g_1 0) (cI g_1 1) m (cI g_2 0) (cI g_2 1)) (fun _ _ _ => (0 : Nat)))]) (E := eqs) (O := []) (ck := true) (eqsok) (.nil) (k := 28) (f := Try.f28) (xs := [.sl 2 n (fun k => [SI ((cI g_1 0) k), SI ((cI g_1 1) k)]), .sl 2 m (fun k => [SI ((cI g_2 0) k), SI ((cI g_2 1) k)])]) (r := (.bool (decide (n = m) && M.allB (M.eqR (cI g_1 0) (cI g_1 1) (cI g_2 0) (cI g_2 1)) n))) (by kernel_rfl) (by kernel_rfl) (fun Y => .cons (by kernel_rfl) (t28 n (cI g_1 0) (cI g_1 1) m (cI g_2 0) (cI g_2 1) FOK.wide Y) (.nil)) ?_
    exact Hold.of (r28 n (cI g_1 0) (cI g_1 1) m (cI g_2 0) (cI g_2 1)) (br28 n (cI g_1 0) (cI g_1 1) m (cI g_2 0) (cI g_2 1) hp)
  · cases h
end Go.Proofs.Ytpbgkohljjmbhaa.Sep
/-
  The example that every law of the stage 'tide' tries: its numbers. No condition. (This text proves no statement by itself.)
-/
namespace Go.Proofs.Ytpbgkohljjmbhaa.M
open Go
def eq3 (x y z u v w : Nat → Int) (k : Nat) : Bool := decide (x k = u k) && decide (y k = v k) && decide (z k = w k)
def xa (k : Nat) : Int := if k = 0 then 100 else 50
def xp (k : Nat) : Int := if k = 0 then 3600000 else 7200000
def xh (k : Nat) : Int := if k = 0 then 0 else 900
set_option maxRecDepth 100000
theorem w1 : cosE 450 450 = 0 ∧ bLo 450 450 = 46340 ∧ bHi 450 450 = 46341 := by decide +kernel
theorem w2 : cosE (-10) 10 = 0 ∧ bLo (-10) 10 = 65526 ∧ bHi (-10) 10 = 65536 := by decide +kernel
theorem w3 : cosE 600 3000 = 0 ∧ bLo 600 3000 = -65536 ∧ bHi 600 3000 = 32768 := by decide +kernel
theorem w0 : modE 10 2 xa xp xh = 0 ∧ amS xa 2 = 150 := by decide +kernel
theorem w4 : timE 10 2 xa xp xh 1800000 1800000 = 0 ∧ gLo 10 2 xa xp xh 1800000 1800000 = -40 ∧ gHi 10 2 xa xp xh 1800000 1800000 = -40 := by decide +kernel
theorem w5 : timE 10 2 xa xp xh 900000 900000 = 0 ∧ gLo 10 2 xa xp xh 900000 900000 = 45 ∧ gHi 10 2 xa xp xh 900000 900000 = 46 := by decide +kernel
theorem w6 : timE 10 2 xa xp xh 0 3600000 = 0 ∧ gLo 10 2 xa xp xh 0 3600000 = -90 ∧ gHi 10 2 xa xp xh 0 3600000 = 160 := by decide +kernel
theorem w7 : stE 10 2 xa xp xh 0 3600000 600000 = 0 ∧ pcN 0 3600000 600000 = 6 := by decide +kernel
theorem w8 : pkLo 10 2 xa xp xh 0 3600000 600000 6 = 110 ∧ pkHi 10 2 xa xp xh 0 3600000 600000 (gHi 10 2 xa xp xh 0 0) 6 = 135 := by decide +kernel
theorem w9 : winE 10 2 xa xp xh 0 3600000 600000 20 = 0 ∧ wN (isLow 10 2 xa xp xh 0 3600000 600000 20) 6 = 1 ∧ wL (isLow 10 2 xa xp xh 0 3600000 600000 20) (pcL 0 600000) 6 0 = 1200000 ∧ wH (isLow 10 2 xa xp xh 0 3600000 600000 20) (pcH 0 3600000 600000) 6 0 = 2400000 := by decide +kernel
theorem w10 : joinE 10 2 xa xp xh 10 2 xa xp xh = 0 ∧ ws 10 10 = 20 := by decide +kernel
end Go.Proofs.Ytpbgkohljjmbhaa.M
