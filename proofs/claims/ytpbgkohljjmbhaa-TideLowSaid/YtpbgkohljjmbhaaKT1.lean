/-
  The arithmetic of the cosines of the stage 'tide': numbers with 62 digits behind the point, terms and sums. Plain arithmetic. No condition. (This text proves no statement by itself.)
-/
import Derived.Test.YtpbgkohljjmbhaaKSep12
import Derived.Test.YtpbgkohljjmbhaaKSep21

namespace Go.Proofs.Ytpbgkohljjmbhaa.M
open Go
theorem wrapU (n : Int) : IntKind.wrap .u64 n = n % 18446744073709551616 := by
  simp [IntKind.wrap, IntKind.bits, IntKind.signed]
theorem wrapU_in {n : Int} (h : 0 ≤ n) (h' : n < 18446744073709551616) : IntKind.wrap .u64 n = n := by
  rw [wrapU]; exact Int.emod_eq_of_lt h h'
theorem ofIntN (n : Nat) (h : n < 18446744073709551616) : (BitVec.ofInt 64 (n : Int)).toNat = n := by
  simp; omega
theorem andU {a : Int} (h : 0 ≤ a) (h' : a < 18446744073709551616) : IntKind.wrap .u64 (((BitVec.ofInt (IntKind.bits .u64) a &&& BitVec.ofInt (IntKind.bits .u64) 4294967295).toNat : Nat) : Int) = a % 4294967296 := by
  obtain ⟨n, rfl⟩ := Int.eq_ofNat_of_zero_le h
  have e : (BitVec.ofInt (IntKind.bits .u64) (n : Int) &&& BitVec.ofInt (IntKind.bits .u64) 4294967295).toNat = n % 4294967296 := by
    show (BitVec.ofInt 64 (n : Int) &&& BitVec.ofInt 64 4294967295).toNat = _
    rw [BitVec.toNat_and, ofIntN n (by omega), show (BitVec.ofInt 64 4294967295).toNat = 2 ^ 32 - 1 from rfl, Nat.and_two_pow_sub_one_eq_mod]
  rw [e, wrapU_in (by omega) (by omega)]
  omega
theorem orU {a b : Int} (i : Nat) (hi : i ≤ 64) (h : 0 ≤ a) (h' : a * 2 ^ i < 18446744073709551616) (hb : 0 ≤ b) (hb' : b < 2 ^ i) : IntKind.wrap .u64 (((BitVec.ofInt (IntKind.bits .u64) (a * 2 ^ i) ||| BitVec.ofInt (IntKind.bits .u64) b).toNat : Nat) : Int) = a * 2 ^ i + b := by
  obtain ⟨n, rfl⟩ := Int.eq_ofNat_of_zero_le h
  obtain ⟨m, rfl⟩ := Int.eq_ofNat_of_zero_le hb
  have hp : ((2 ^ i : Nat) : Int) = (2 : Int) ^ i := by simp
  have h1 : n * 2 ^ i < 18446744073709551616 := by
    have : ((n * 2 ^ i : Nat) : Int) < 18446744073709551616 := by rw [Int.natCast_mul, hp]; exact h'
    omega
  have h2 : m < 2 ^ i := by
    have : (m : Int) < ((2 ^ i : Nat) : Int) := by rw [hp]; exact hb'
    omega
  have hle : (2 : Nat) ^ i ≤ 2 ^ 64 := Nat.pow_le_pow_right (by omega) hi
  have h3 : m < 18446744073709551616 := by
    have : (2 : Nat) ^ 64 = 18446744073709551616 := rfl
    omega
  have e : (BitVec.ofInt (IntKind.bits .u64) ((n : Int) * 2 ^ i) ||| BitVec.ofInt (IntKind.bits .u64) (m : Int)).toNat = n * 2 ^ i + m := by
    show (BitVec.ofInt 64 ((n : Int) * 2 ^ i) ||| BitVec.ofInt 64 (m : Int)).toNat = _
    rw [← hp, ← Int.natCast_mul, BitVec.toNat_or, ofIntN _ h1, ofIntN _ h3, Nat.mul_comm, Nat.two_pow_add_eq_or_of_lt h2]
  rw [e, ← hp]
  have hs : n * 2 ^ i + m < 18446744073709551616 := by
    have : (n + 1) * 2 ^ i ≤ 18446744073709551616 := by
      have d : 2 ^ i ∣ 2 ^ 64 := Nat.pow_dvd_pow 2 hi
      obtain ⟨q, hq⟩ := d
      have : n * 2 ^ i < q * 2 ^ i := by rw [Nat.mul_comm q, ← hq]; exact h1
      have : n < q := Nat.lt_of_mul_lt_mul_right this
      calc (n + 1) * 2 ^ i ≤ q * 2 ^ i := Nat.mul_le_mul_right _ (by omega)
        _ = 2 ^ 64 := by rw [Nat.mul_comm, ← hq]
        _ = 18446744073709551616 := rfl
    rw [Nat.add_mul] at this
    omega
  rw [wrapU_in (by omega) (by omega)]
  simp
/-- A product of numbers with 62 digits behind the point. -/
def tm (a b : Int) : Int := a * b / 4611686018427387904 % 18446744073709551616
def rad (k : Int) : Int := 14488038916154245684 * k / 1800
def nxt (t s n : Int) : Int := tm t s / ((n + 1) * (n + 2))
def tk (t s n : Int) : Nat → Int
  | 0 => t
  | k + 1 => nxt (tk t s n k) s (n + 2 * k)
def sm (t s n : Int) (j : Nat) : Nat → Int
  | 0 => 0
  | k + 1 => bif decide (k % 2 = j) then (sm t s n j k + tk t s n k) % 18446744073709551616 else sm t s n j k
def cntT (t s n : Int) : Nat → Nat → Nat
  | 0, k => k
  | f + 1, k => if tk t s n k = 0 then k else cntT t s n f (k + 1)
def sumV (t s n : Int) : Int := (sm t s n 0 (cntT t s n 64 0) - sm t s n 1 (cntT t s n 64 0)) % 18446744073709551616
theorem tm_le {a s : Int} (ha : 0 ≤ a) (ha' : a ≤ 4611686018427387904) (hs : 0 ≤ s) (hs' : s ≤ 4611686018427387904) : 0 ≤ tm a s ∧ tm a s ≤ a := by
  have h1 : 0 ≤ a * s := Int.mul_nonneg ha hs
  have h2 : a * s ≤ a * 4611686018427387904 := Int.mul_le_mul_of_nonneg_left hs' ha
  unfold tm
  omega
theorem nxt_le {a s n : Int} (ha : 0 ≤ a) (ha' : a ≤ 4611686018427387904) (hs : 0 ≤ s) (hs' : s ≤ 4611686018427387904) (hn : 0 ≤ n) : 0 ≤ nxt a s n ∧ 2 * nxt a s n ≤ a := by
  obtain ⟨h1, h2⟩ := tm_le ha ha' hs hs'
  have hd : 2 ≤ (n + 1) * (n + 2) := by
    have : 1 * 2 ≤ (n + 1) * (n + 2) := Int.mul_le_mul (by omega) (by omega) (by omega) (by omega)
    omega
  unfold nxt
  generalize (n + 1) * (n + 2) = d at *
  have h3 : 0 ≤ tm a s / d := Int.ediv_nonneg h1 (by omega)
  have h4 : tm a s / d * d ≤ tm a s := Int.ediv_mul_le _ (by omega)
  have h5 : tm a s / d * 2 ≤ tm a s / d * d := Int.mul_le_mul_of_nonneg_left hd h3
  omega
theorem tk_le {t s n : Int} (ht : 0 ≤ t) (ht' : t ≤ 4611686018427387904) (hs : 0 ≤ s) (hs' : s ≤ 4611686018427387904) (hn : 0 ≤ n) : ∀ k, 0 ≤ tk t s n k ∧ tk t s n k * 2 ^ k ≤ t ∧ tk t s n k ≤ 4611686018427387904
  | 0 => by simp [tk]; omega
  | k + 1 => by
    obtain ⟨h1, h2, h3⟩ := tk_le ht ht' hs hs' hn k
    obtain ⟨h4, h5⟩ := nxt_le (n := n + 2 * k) h1 h3 hs hs' (by omega)
    simp only [tk]
    refine ⟨h4, ?_, by omega⟩
    have hp : (0 : Int) ≤ 2 ^ k := Int.pow_nonneg (by omega)
    have := Int.mul_le_mul_of_nonneg_right h5 hp
    rw [Int.pow_succ, ← Int.mul_assoc, Int.mul_comm _ 2, ← Int.mul_assoc]
    omega
theorem tk_63 {t s n : Int} (ht : 0 ≤ t) (ht' : t ≤ 4611686018427387904) (hs : 0 ≤ s) (hs' : s ≤ 4611686018427387904) (hn : 0 ≤ n) : tk t s n 63 = 0 := by
  obtain ⟨h1, h2, -⟩ := tk_le ht ht' hs hs' hn 63
  have : (2 : Int) ^ 63 = 9223372036854775808 := rfl
  rw [this] at h2
  omega
theorem cntT_spec {t s n : Int} : ∀ (f k : Nat), (∃ j, k ≤ j ∧ j < k + f ∧ tk t s n j = 0) → k ≤ cntT t s n f k ∧ cntT t s n f k < k + f ∧ tk t s n (cntT t s n f k) = 0 ∧ ∀ j, k ≤ j → j < cntT t s n f k → tk t s n j ≠ 0
  | 0, k, ⟨j, h1, h2, _⟩ => by omega
  | f + 1, k, ⟨j, h1, h2, h3⟩ => by
    simp only [cntT]
    split
    · rename_i h; exact ⟨Nat.le_refl _, by omega, h, fun i a b => by omega⟩
    · rename_i h
      have hj : k + 1 ≤ j := by
        rcases Nat.eq_or_lt_of_le h1 with e | e
        · subst e; exact absurd h3 h
        · exact e
      obtain ⟨g1, g2, g3, g4⟩ := cntT_spec f (k + 1) ⟨j, hj, by omega, h3⟩
      refine ⟨by omega, by omega, g3, fun i a b => ?_⟩
      rcases Nat.eq_or_lt_of_le a with e | e
      · subst e; exact h
      · exact g4 i e b
def K (t s n : Int) : Nat := cntT t s n 64 0
theorem K_spec {t s n : Int} (ht : 0 ≤ t) (ht' : t ≤ 4611686018427387904) (hs : 0 ≤ s) (hs' : s ≤ 4611686018427387904) (hn : 0 ≤ n) : K t s n < 64 ∧ tk t s n (K t s n) = 0 ∧ ∀ j, j < K t s n → tk t s n j ≠ 0 := by
  obtain ⟨-, h2, h3, h4⟩ := cntT_spec (t := t) (s := s) (n := n) 64 0 ⟨63, by omega, by omega, tk_63 ht ht' hs hs' hn⟩
  exact ⟨by unfold K; omega, h3, fun j hj => h4 j (by omega) hj⟩
theorem sm_bd {t s n : Int} {j : Nat} : ∀ k, 0 ≤ sm t s n j k ∧ sm t s n j k < 18446744073709551616
  | 0 => by simp [sm]
  | k + 1 => by
    have := sm_bd (t := t) (s := s) (n := n) (j := j) k
    simp only [sm]
    cases decide (k % 2 = j) <;> simp only [cond_true, cond_false] <;> omega
/-- A quarter of a turn. -/
def qv (k : Int) : Int := if k ≤ 450 then sumV 4611686018427387904 (tm (rad k) (rad k)) 0 else sumV (rad (900 - k)) (tm (rad (900 - k)) (rad (900 - k))) 1
def sgn (x : Int) : Int := if 9223372036854775808 ≤ x then x - 18446744073709551616 else x
def qlo (k : Int) : Int := if k = 0 then 65536 else if k = 600 then 32768 else if k = 900 then 0 else (qv k - 1024) % 18446744073709551616 / 70368744177664
def qhi (k : Int) : Int := if k = 0 then 65536 else if k = 600 then 32768 else if k = 900 then 0 else (qv k + 1024) % 18446744073709551616 / 70368744177664 + 1
end Go.Proofs.Ytpbgkohljjmbhaa.M
/-
  Contracts of the numbers with 62 digits behind the point. No condition. (This text proves no statement by itself.)
-/
namespace Go.Proofs.Ytpbgkohljjmbhaa.Sep
open Go
set_option linter.unusedVariables false
set_option linter.unusedSimpArgs false
theorem sh32 : (2 : Int) ^ min (Int.toNat 32) (IntKind.bits .u64) = 4294967296 := rfl
theorem sh62 : (2 : Int) ^ min (Int.toNat 62) (IntKind.bits .u64) = 4611686018427387904 := rfl
theorem sh2 : (2 : Int) ^ min (Int.toNat 2) (IntKind.bits .u64) = 4 := rfl
theorem fdiv_lit {a b : Int} (hb : 0 < b) : Int.fdiv a b = a / b := Int.fdiv_eq_ediv_of_nonneg a (by omega)
theorem prod_bd {a b m n : Int} (ha : 0 ≤ a) (ha' : a ≤ m) (hb : 0 ≤ b) (hb' : b ≤ n) : 0 ≤ a * b ∧ a * b ≤ m * n := ⟨Int.mul_nonneg ha hb, Int.mul_le_mul ha' hb' hb (by omega)⟩
def e75 : List SV → Option (List Prop × SV)
  | [.int .u64 a, .int .u64 b] => some ([0 ≤ a, a < 18446744073709551616, 0 ≤ b, b < 18446744073709551616], .tup [.int .u64 (a * b / 18446744073709551616), .int .u64 (a * b % 18446744073709551616)])
  | _ => none
def Rr75 (a b : Int) : Prop := (0 : Int) ≤ (32 : Int) ∧ (0 : Int) ≤ (32 : Int) ∧ (0 : Int) ≤ (32 : Int) ∧ (0 : Int) ≤ (32 : Int) ∧ (0 : Int) ≤ (32 : Int) ∧ IntKind.wrap IntKind.u64 (IntKind.wrap IntKind.u64 (IntKind.wrap IntKind.u64 (Int.fdiv a ((2 : Int) ^ min (Int.toNat (32 : Int)) (IntKind.bits IntKind.u64)) * Int.fdiv b ((2 : Int) ^ min (Int.toNat (32 : Int)) (IntKind.bits IntKind.u64))) + Int.fdiv (IntKind.wrap IntKind.u64 (IntKind.wrap IntKind.u64 (Int.fdiv a ((2 : Int) ^ min (Int.toNat (32 : Int)) (IntKind.bits IntKind.u64)) * IntKind.wrap IntKind.u64 (↑(BitVec.toNat (BitVec.ofInt (IntKind.bits IntKind.u64) b &&& BitVec.ofInt (IntKind.bits IntKind.u64) (4294967295 : Int))) : Int)) + Int.fdiv (IntKind.wrap IntKind.u64 (IntKind.wrap IntKind.u64 (↑(BitVec.toNat (BitVec.ofInt (IntKind.bits IntKind.u64) a &&& BitVec.ofInt (IntKind.bits IntKind.u64) (4294967295 : Int))) : Int) * IntKind.wrap IntKind.u64 (↑(BitVec.toNat (BitVec.ofInt (IntKind.bits IntKind.u64) b &&& BitVec.ofInt (IntKind.bits IntKind.u64) (4294967295 : Int))) : Int))) ((2 : Int) ^ min (Int.toNat (32 : Int)) (IntKind.bits IntKind.u64)))) ((2 : Int) ^ min (Int.toNat (32 : Int)) (IntKind.bits IntKind.u64))) + Int.fdiv (IntKind.wrap IntKind.u64 (IntKind.wrap IntKind.u64 (↑(BitVec.toNat (BitVec.ofInt (IntKind.bits IntKind.u64) (IntKind.wrap IntKind.u64 (IntKind.wrap IntKind.u64 (Int.fdiv a ((2 : Int) ^ min (Int.toNat (32 : Int)) (IntKind.bits IntKind.u64)) * IntKind.wrap IntKind.u64 (↑(BitVec.toNat (BitVec.ofInt (IntKind.bits IntKind.u64) b &&& BitVec.ofInt (IntKind.bits IntKind.u64) (4294967295 : Int))) : Int)) + Int.fdiv (IntKind.wrap IntKind.u64 (IntKind.wrap IntKind.u64 (↑(BitVec.toNat (BitVec.ofInt (IntKind.bits IntKind.u64) a &&& BitVec.ofInt (IntKind.bits IntKind.u64) (4294967295 : Int))) : Int) * IntKind.wrap IntKind.u64 (↑(BitVec.toNat (BitVec.ofInt (IntKind.bits IntKind.u64) b &&& BitVec.ofInt (IntKind.bits IntKind.u64) (4294967295 : Int))) : Int))) ((2 : Int) ^ min (Int.toNat (32 : Int)) (IntKind.bits IntKind.u64)))) &&& BitVec.ofInt (IntKind.bits IntKind.u64) (4294967295 : Int))) : Int) + IntKind.wrap IntKind.u64 (IntKind.wrap IntKind.u64 (↑(BitVec.toNat (BitVec.ofInt (IntKind.bits IntKind.u64) a &&& BitVec.ofInt (IntKind.bits IntKind.u64) (4294967295 : Int))) : Int) * Int.fdiv b ((2 : Int) ^ min (Int.toNat (32 : Int)) (IntKind.bits IntKind.u64))))) ((2 : Int) ^ min (Int.toNat (32 : Int)) (IntKind.bits IntKind.u64))) = a * b / (18446744073709551616 : Int) ∧ IntKind.wrap IntKind.u64 (a * b) = a * b % (18446744073709551616 : Int)
theorem r75 (a b : Int) : V true [] [] Try.f75 [0,1,4,5,6,7,8,9,10,11,12,13] [] [.int .u64 a, .int .u64 b] (.tup [.int .u64 (a * b / 18446744073709551616), .int .u64 (a * b % 18446744073709551616)]) = Rr75 a b := by kernel_rfl
theorem br75 (a b : Int) (hp : (0 ≤ a) ∧ (a < 18446744073709551616) ∧ (0 ≤ b) ∧ (b < 18446744073709551616) ∧ AllP []) : Rr75 a b := by
  unfold Rr75
  obtain ⟨a1, a2, b1, b2, -⟩ := hp
  simp only [sh32, M.andU a1 a2, M.andU b1 b2, fdiv_lit (show (0 : Int) < 4294967296 by omega)]
  obtain ⟨x0, x1, hx0, hx1⟩ : ∃ x0 x1 : Int, a % 4294967296 = x0 ∧ a / 4294967296 = x1 := ⟨_, _, rfl, rfl⟩
  obtain ⟨y0, y1, hy0, hy1⟩ : ∃ y0 y1 : Int, b % 4294967296 = y0 ∧ b / 4294967296 = y1 := ⟨_, _, rfl, rfl⟩
  simp only [hx0, hx1, hy0, hy1]
  have ea : a = x1 * 4294967296 + x0 := by omega
  have eb : b = y1 * 4294967296 + y0 := by omega
  have p0 := prod_bd (a := x0) (b := y0) (m := 4294967295) (n := 4294967295) (by omega) (by omega) (by omega) (by omega)
  have p1 := prod_bd (a := x1) (b := y0) (m := 4294967295) (n := 4294967295) (by omega) (by omega) (by omega) (by omega)
  have p2 := prod_bd (a := x0) (b := y1) (m := 4294967295) (n := 4294967295) (by omega) (by omega) (by omega) (by omega)
  have p3 := prod_bd (a := x1) (b := y1) (m := 4294967295) (n := 4294967295) (by omega) (by omega) (by omega) (by omega)
  have eab : a * b = (x1 * y1) * 18446744073709551616 + (x1 * y0 + x0 * y1) * 4294967296 + x0 * y0 := by
    rw [ea, eb]; simp only [Int.add_mul, Int.mul_add]
    have h1 : x1 * 4294967296 * (y1 * 4294967296) = x1 * y1 * 18446744073709551616 := by
      rw [Int.mul_comm y1, ← Int.mul_assoc, Int.mul_assoc x1, Int.mul_assoc x1, Int.mul_comm _ y1, ← Int.mul_assoc]; rfl
    have h2 : x1 * 4294967296 * y0 = x1 * y0 * 4294967296 := by rw [Int.mul_assoc, Int.mul_comm _ y0, ← Int.mul_assoc]
    have h3 : x0 * (y1 * 4294967296) = x0 * y1 * 4294967296 := by rw [← Int.mul_assoc]
    rw [h1, h2, h3]; omega
  clear ea eb hx0 hx1 hy0 hy1 a1 a2 b1 b2
  rw [eab]
  clear eab
  generalize x0 * y0 = P at *
  generalize x1 * y0 = Q at *
  generalize x0 * y1 = R at *
  generalize x1 * y1 = T at *
  simp only [Int.reduceMul] at p0 p1 p2 p3
  rw [M.wrapU_in (n := P) (by omega) (by omega), M.wrapU_in (n := Q) (by omega) (by omega), M.wrapU_in (n := R) (by omega) (by omega), M.wrapU_in (n := T) (by omega) (by omega)]
  rw [M.wrapU_in (n := Q + P / 4294967296) (by omega) (by omega)]
  rw [M.andU (a := Q + P / 4294967296) (by omega) (by omega)]
  rw [M.wrapU_in (n := (Q + P / 4294967296) % 4294967296 + R) (by omega) (by omega)]
  rw [M.wrapU_in (n := T + (Q + P / 4294967296) / 4294967296) (by omega) (by omega), M.wrapU]
  have hh : T + (Q + P / 4294967296) / 4294967296 + ((Q + P / 4294967296) % 4294967296 + R) / 4294967296 = (T * 18446744073709551616 + (Q + R) * 4294967296 + P) / 18446744073709551616 := by omega
  rw [hh, M.wrapU]
  exact ⟨by omega, by omega, by omega, by omega, by omega, by omega, rfl⟩
theorem s75 : PureOK PP 75 e75 := by
  intro xs ps res h hp
  unfold e75 at h
  split at h
  · rename_i a b
    simp only [Option.some.injEq, Prod.mk.injEq] at h
    obtain ⟨rfl, rfl⟩ := h
    simp only [AllP.cons] at hp
    refine enter (L := [0,1,4,5,6,7,8,9,10,11,12,13]) (LO := []) (E := []) (O := []) (ck := true) (.nil) (.nil) (k := 75) (f := Try.f75) (xs := [.int .u64 a, .int .u64 b]) (r := (.tup [.int .u64 (a * b / 18446744073709551616), .int .u64 (a * b % 18446744073709551616)])) (by kernel_rfl) (by kernel_rfl) (fun _ => .nil) ?_
    exact Hold.of (r75 a b) (br75 a b hp)
  · cases h
def e73 : List SV → Option (List Prop × SV)
  | [.int .u64 a, .int .u64 b] => some ([0 ≤ a, a < 18446744073709551616, 0 ≤ b, b < 18446744073709551616], .int .u64 (M.tm a b))
  | _ => none
def Rr73 (a b : Int) : Prop := (0 : Int) ≤ a ∧ a < (18446744073709551616 : Int) ∧ (0 : Int) ≤ b ∧ b < (18446744073709551616 : Int) ∧ (0 : Int) ≤ (2 : Int) ∧ (0 : Int) ≤ (62 : Int) ∧ IntKind.wrap IntKind.u64 (↑(BitVec.toNat (BitVec.ofInt (IntKind.bits IntKind.u64) (IntKind.wrap IntKind.u64 (a * b / (18446744073709551616 : Int) * (2 : Int) ^ min (Int.toNat (2 : Int)) (IntKind.bits IntKind.u64))) ||| BitVec.ofInt (IntKind.bits IntKind.u64) (Int.fdiv (a * b % (18446744073709551616 : Int)) ((2 : Int) ^ min (Int.toNat (62 : Int)) (IntKind.bits IntKind.u64))))) : Int) = M.tm a b
theorem r73 (a b : Int) : V true [] [(75, pureE e75)] Try.f73 [0,1,4,5,6] [] [.int .u64 a, .int .u64 b] (.int .u64 (M.tm a b)) = Rr73 a b := by kernel_rfl
theorem br73 (a b : Int) (hp : (0 ≤ a) ∧ (a < 18446744073709551616) ∧ (0 ≤ b) ∧ (b < 18446744073709551616) ∧ AllP []) : Rr73 a b := by
  unfold Rr73
  obtain ⟨a1, a2, b1, b2, -⟩ := hp
  have p0 := prod_bd (a := a) (b := b) (m := 18446744073709551615) (n := 18446744073709551615) (by omega) (by omega) (by omega) (by omega)
  simp only [Int.reduceMul] at p0
  simp only [sh62, sh2, fdiv_lit (show (0 : Int) < 4611686018427387904 by omega), M.tm]
  generalize a * b = p at *
  have e : IntKind.wrap .u64 (p / 18446744073709551616 * 4) = (p / 18446744073709551616 % 4611686018427387904) * 2 ^ 2 := by
    rw [M.wrapU]; omega
  have e2 := M.orU (a := p / 18446744073709551616 % 4611686018427387904) (b := p % 18446744073709551616 / 4611686018427387904) 2 (by omega) (by omega) (by omega) (by omega) (by omega)
  rw [e, e2]
  refine ⟨a1, a2, b1, b2, by omega, by omega, by omega⟩
theorem s73 : PureOK PP 73 e73 := by
  intro xs ps res h hp
  unfold e73 at h
  split at h
  · rename_i a b
    simp only [Option.some.injEq, Prod.mk.injEq] at h
    obtain ⟨rfl, rfl⟩ := h
    simp only [AllP.cons] at hp
    refine enter (L := [0,1,4,5,6]) (LO := []) (E := []) (O := [(75, pureE e75)]) (ck := true) (.nil) (.cons (pureE_ok s75) (.nil)) (k := 73) (f := Try.f73) (xs := [.int .u64 a, .int .u64 b]) (r := (.int .u64 (M.tm a b))) (by kernel_rfl) (by kernel_rfl) (fun _ => .nil) ?_
    exact Hold.of (r73 a b) (br73 a b hp)
  · cases h
abbrev e78 := atArgs [.int .u64 1800] (SI 11)
def Rr78  : Prop := (decide ((4294967296 : Int) ≤ (1800 : Int)) = true → (0 : Int) ≤ (32 : Int) ∧ (decide ((65536 : Int) ≤ Int.fdiv (1800 : Int) ((2 : Int) ^ min (Int.toNat (32 : Int)) (IntKind.bits IntKind.u64))) = true → (0 : Int) ≤ (16 : Int) ∧ R64 ((32 : Int) + (16 : Int)) ∧ (decide ((256 : Int) ≤ Int.fdiv (Int.fdiv (1800 : Int) ((2 : Int) ^ min (Int.toNat (32 : Int)) (IntKind.bits IntKind.u64))) ((2 : Int) ^ min (Int.toNat (16 : Int)) (IntKind.bits IntKind.u64))) = true → (0 : Int) ≤ (8 : Int) ∧ R64 ((32 : Int) + (16 : Int) + (8 : Int)) ∧ (0 : Int) ≤ IntKind.wrap IntKind.u8 (Int.fdiv (Int.fdiv (Int.fdiv (1800 : Int) ((2 : Int) ^ min (Int.toNat (32 : Int)) (IntKind.bits IntKind.u64))) ((2 : Int) ^ min (Int.toNat (16 : Int)) (IntKind.bits IntKind.u64))) ((2 : Int) ^ min (Int.toNat (8 : Int)) (IntKind.bits IntKind.u64))) ∧ IntKind.wrap IntKind.u8 (Int.fdiv (Int.fdiv (Int.fdiv (1800 : Int) ((2 : Int) ^ min (Int.toNat (32 : Int)) (IntKind.bits IntKind.u64))) ((2 : Int) ^ min (Int.toNat (16 : Int)) (IntKind.bits IntKind.u64))) ((2 : Int) ^ min (Int.toNat (8 : Int)) (IntKind.bits IntKind.u64))) < (↑(ByteArray.size (ByteArray.mk (List.toArray (List.append (List.append [(0 : UInt8), (1 : UInt8), (2 : UInt8), (2 : UInt8), (3 : UInt8), (3 : UInt8), (3 : UInt8), (3 : UInt8), (4 : UInt8), (4 : UInt8), (4 : UInt8), (4 : UInt8), (4 : UInt8), (4 : UInt8), (4 : UInt8), (4 : UInt8), (5 : UInt8), (5 : UInt8), (5 : UInt8), (5 : UInt8), (5 : UInt8), (5 : UInt8), (5 : UInt8), (5 : UInt8), (5 : UInt8), (5 : UInt8), (5 : UInt8), (5 : UInt8), (5 : UInt8), (5 : UInt8), (5 : UInt8), (5 : UInt8), (6 : UInt8), (6 : UInt8), (6 : UInt8), (6 : UInt8), (6 : UInt8), (6 : UInt8), (6 : UInt8), (6 : UInt8), (6 : UInt8), (6 : UInt8), (6 : UInt8), (6 : UInt8), (6 : UInt8), (6 : UInt8), (6 : UInt8), (6 : UInt8), (6 : UInt8), (6 : UInt8), (6 : UInt8), (6 : UInt8), (6 : UInt8), (6 : UInt8), (6 : UInt8), (6 : UInt8), (6 : UInt8), (6 : UInt8), (6 : UInt8), (6 : UInt8), (6 : UInt8), (6 : UInt8), (6 : UInt8), (6 : UInt8)] [(7 : UInt8), (7 : UInt8), (7 : UInt8), (7 : UInt8), (7 : UInt8), (7 : UInt8), (7 : UInt8), (7 : UInt8), (7 : UInt8), (7 : UInt8), (7 : UInt8), (7 : UInt8), (7 : UInt8), (7 : UInt8), (7 : UInt8), (7 : UInt8), (7 : UInt8), (7 : UInt8), (7 : UInt8), (7 : UInt8), (7 : UInt8), (7 : UInt8), (7 : UInt8), (7 : UInt8), (7 : UInt8), (7 : UInt8), (7 : UInt8), (7 : UInt8), (7 : UInt8), (7 : UInt8), (7 : UInt8), (7 : UInt8), (7 : UInt8), (7 : UInt8), (7 : UInt8), (7 : UInt8), (7 : UInt8), (7 : UInt8), (7 : UInt8), (7 : UInt8), (7 : UInt8), (7 : UInt8), (7 : UInt8), (7 : UInt8), (7 : UInt8), (7 : UInt8), (7 : UInt8), (7 : UInt8), (7 : UInt8), (7 : UInt8), (7 : UInt8), (7 : UInt8), (7 : UInt8), (7 : UInt8), (7 : UInt8), (7 : UInt8), (7 : UInt8), (7 : UInt8), (7 : UInt8), (7 : UInt8), (7 : UInt8), (7 : UInt8), (7 : UInt8), (7 : UInt8)]) (List.append [(8 : UInt8), (8 : UInt8), (8 : UInt8), (8 : UInt8), (8 : UInt8), (8 : UInt8), (8 : UInt8), (8 : UInt8), (8 : UInt8), (8 : UInt8), (8 : UInt8), (8 : UInt8), (8 : UInt8), (8 : UInt8), (8 : UInt8), (8 : UInt8), (8 : UInt8), (8 : UInt8), (8 : UInt8), (8 : UInt8), (8 : UInt8), (8 : UInt8), (8 : UInt8), (8 : UInt8), (8 : UInt8), (8 : UInt8), (8 : UInt8), (8 : UInt8), (8 : UInt8), (8 : UInt8), (8 : UInt8), (8 : UInt8), (8 : UInt8), (8 : UInt8), (8 : UInt8), (8 : UInt8), (8 : UInt8), (8 : UInt8), (8 : UInt8), (8 : UInt8), (8 : UInt8), (8 : UInt8), (8 : UInt8), (8 : UInt8), (8 : UInt8), (8 : UInt8), (8 : UInt8), (8 : UInt8), (8 : UInt8), (8 : UInt8), (8 : UInt8), (8 : UInt8), (8 : UInt8), (8 : UInt8), (8 : UInt8), (8 : UInt8), (8 : UInt8), (8 : UInt8), (8 : UInt8), (8 : UInt8), (8 : UInt8), (8 : UInt8), (8 : UInt8), (8 : UInt8)] [(8 : UInt8), (8 : UInt8), (8 : UInt8), (8 : UInt8), (8 : UInt8), (8 : UInt8), (8 : UInt8), (8 : UInt8), (8 : UInt8), (8 : UInt8), (8 : UInt8), (8 : UInt8), (8 : UInt8), (8 : UInt8), (8 : UInt8), (8 : UInt8), (8 : UInt8), (8 : UInt8), (8 : UInt8), (8 : UInt8), (8 : UInt8), (8 : UInt8), (8 : UInt8), (8 : UInt8), (8 : UInt8), (8 : UInt8), (8 : UInt8), (8 : UInt8), (8 : UInt8), (8 : UInt8), (8 : UInt8), (8 : UInt8), (8 : UInt8), (8 : UInt8), (8 : UInt8), (8 : UInt8), (8 : UInt8), (8 : UInt8), (8 : UInt8), (8 : UInt8), (8 : UInt8), (8 : UInt8), (8 : UInt8), (8 : UInt8), (8 : UInt8), (8 : UInt8), (8 : UInt8), (8 : UInt8), (8 : UInt8), (8 : UInt8), (8 : UInt8), (8 : UInt8), (8 : UInt8), (8 : UInt8), (8 : UInt8), (8 : UInt8), (8 : UInt8), (8 : UInt8), (8 : UInt8), (8 : UInt8), (8 : UInt8), (8 : UInt8), (8 : UInt8), (8 : UInt8)]))))) : Int) ∧ R64 (↑(UInt8.toNat (UInt8.ofBitVec (BitVec.ofNat (8 : Nat) (0 : Nat)))) : Int) ∧ R64 ((32 : Int) + (16 : Int) + (8 : Int) + (↑(UInt8.toNat (UInt8.ofBitVec (BitVec.ofNat (8 : Nat) (0 : Nat)))) : Int)) ∧ (32 : Int) + (16 : Int) + (8 : Int) + (↑(UInt8.toNat (UInt8.ofBitVec (BitVec.ofNat (8 : Nat) (0 : Nat)))) : Int) = (11 : Int)) ∧ (decide ((256 : Int) ≤ Int.fdiv (Int.fdiv (1800 : Int) ((2 : Int) ^ min (Int.toNat (32 : Int)) (IntKind.bits IntKind.u64))) ((2 : Int) ^ min (Int.toNat (16 : Int)) (IntKind.bits IntKind.u64))) = false → (0 : Int) ≤ IntKind.wrap IntKind.u8 (Int.fdiv (Int.fdiv (1800 : Int) ((2 : Int) ^ min (Int.toNat (32 : Int)) (IntKind.bits IntKind.u64))) ((2 : Int) ^ min (Int.toNat (16 : Int)) (IntKind.bits IntKind.u64))) ∧ IntKind.wrap IntKind.u8 (Int.fdiv (Int.fdiv (1800 : Int) ((2 : Int) ^ min (Int.toNat (32 : Int)) (IntKind.bits IntKind.u64))) ((2 : Int) ^ min (Int.toNat (16 : Int)) (IntKind.bits IntKind.u64))) < (↑(ByteArray.size (ByteArray.mk (List.toArray (List.append (List.append [(0 : UInt8), (1 : UInt8), (2 : UInt8), (2 : UInt8), (3 : UInt8), (3 : UInt8), (3 : UInt8), (3 : UInt8), (4 : UInt8), (4 : UInt8), (4 : UInt8), (4 : UInt8), (4 : UInt8), (4 : UInt8), (4 : UInt8), (4 : UInt8), (5 : UInt8), (5 : UInt8), (5 : UInt8), (5 : UInt8), (5 : UInt8), (5 : UInt8), (5 : UInt8), (5 : UInt8), (5 : UInt8), (5 : UInt8), (5 : UInt8), (5 : UInt8), (5 : UInt8), (5 : UInt8), (5 : UInt8), (5 : UInt8), (6 : UInt8), (6 : UInt8), (6 : UInt8), (6 : UInt8), (6 : UInt8), (6 : UInt8), (6 : UInt8), (6 : UInt8), (6 : UInt8), (6 : UInt8), (6 : UInt8), (6 : UInt8), (6 : UInt8), (6 : UInt8), (6 : UInt8), (6 : UInt8), (6 : UInt8), (6 : UInt8), (6 : UInt8), (6 : UInt8), (6 : UInt8), (6 : UInt8), (6 : UInt8), (6 : UInt8), (6 : UInt8), (6 : UInt8), (6 : UInt8), (6 : UInt8), (6 : UInt8), (6 : UInt8), (6 : UInt8), (6 : UInt8)] [(7 : UInt8), (7 : UInt8), (7 : UInt8), (7 : UInt8), (7 : UInt8), (7 : UInt8), (7 : UInt8), (7 : UInt8), (7 : UInt8), (7 : UInt8), (7 : UInt8), (7 : UInt8), (7 : UInt8), (7 : UInt8), (7 : UInt8), (7 : UInt8), (7 : UInt8), (7 : UInt8), (7 : UInt8), (7 : UInt8), (7 : UInt8), (7 : UInt8), (7 : UInt8), (7 : UInt8), (7 : UInt8), (7 : UInt8), (7 : UInt8), (7 : UInt8), (7 : UInt8), (7 : UInt8), (7 : UInt8), (7 : UInt8), (7 : UInt8), (7 : UInt8), (7 : UInt8), (7 : UInt8), (7 : UInt8), (7 : UInt8), (7 : UInt8), (7 : UInt8), (7 : UInt8), (7 : UInt8), (7 : UInt8), (7 : UInt8), (7 : UInt8), (7 : UInt8), (7 : UInt8), (7 : UInt8), (7 : UInt8), (7 : UInt8), (7 : UInt8), (7 : UInt8), (7 : UInt8), (7 : UInt8), (7 : UInt8), (7 : UInt8), (7 : UInt8), (7 : UInt8), (7 : UInt8), (7 : UInt8), (7 : UInt8), (7 : UInt8), (7 : UInt8), (7 : UInt8)]) (List.append [(8 : UInt8), (8 : UInt8), (8 : UInt8), (8 : UInt8), (8 : UInt8), (8 : UInt8), (8 : UInt8), (8 : UInt8), (8 : UInt8), (8 : UInt8), (8 : UInt8), (8 : UInt8), (8 : UInt8), (8 : UInt8), (8 : UInt8), (8 : UInt8), (8 : UInt8), (8 : UInt8), (8 : UInt8), (8 : UInt8), (8 : UInt8), (8 : UInt8), (8 : UInt8), (8 : UInt8), (8 : UInt8), (8 : UInt8), (8 : UInt8), (8 : UInt8), (8 : UInt8), (8 : UInt8), (8 : UInt8), (8 : UInt8), (8 : UInt8), (8 : UInt8), (8 : UInt8), (8 : UInt8), (8 : UInt8), (8 : UInt8), (8 : UInt8), (8 : UInt8), (8 : UInt8), (8 : UInt8), (8 : UInt8), (8 : UInt8), (8 : UInt8), (8 : UInt8), (8 : UInt8), (8 : UInt8), (8 : UInt8), (8 : UInt8), (8 : UInt8), (8 : UInt8), (8 : UInt8), (8 : UInt8), (8 : UInt8), (8 : UInt8), (8 : UInt8), (8 : UInt8), (8 : UInt8), (8 : UInt8), (8 : UInt8), (8 : UInt8), (8 : UInt8), (8 : UInt8)] [(8 : UInt8), (8 : UInt8), (8 : UInt8), (8 : UInt8), (8 : UInt8), (8 : UInt8), (8 : UInt8), (8 : UInt8), (8 : UInt8), (8 : UInt8), (8 : UInt8), (8 : UInt8), (8 : UInt8), (8 : UInt8), (8 : UInt8), (8 : UInt8), (8 : UInt8), (8 : UInt8), (8 : UInt8), (8 : UInt8), (8 : UInt8), (8 : UInt8), (8 : UInt8), (8 : UInt8), (8 : UInt8), (8 : UInt8), (8 : UInt8), (8 : UInt8), (8 : UInt8), (8 : UInt8), (8 : UInt8), (8 : UInt8), (8 : UInt8), (8 : UInt8), (8 : UInt8), (8 : UInt8), (8 : UInt8), (8 : UInt8), (8 : UInt8), (8 : UInt8), (8 : UInt8), (8 : UInt8), (8 : UInt8), (8 : UInt8), (8 : UInt8), (8 : UInt8), (8 : UInt8), (8 : UInt8), (8 : UInt8), (8 : UInt8), (8 : UInt8), (8 : UInt8), (8 : UInt8), (8 : UInt8), (8 : UInt8), (8 : UInt8), (8 : UInt8), (8 : UInt8), (8 : UInt8), (8 : UInt8), (8 : UInt8), (8 : UInt8), (8 : UInt8), (8 : UInt8)]))))) : Int) ∧ R64 (↑(UInt8.toNat (UInt8.ofBitVec (BitVec.ofNat (8 : Nat) (0 : Nat)))) : Int) ∧ R64 ((32 : Int) + (16 : Int) + (↑(UInt8.toNat (UInt8.ofBitVec (BitVec.ofNat (8 : Nat) (0 : Nat)))) : Int)) ∧ (32 : Int) + (16 : Int) + (↑(UInt8.toNat (UInt8.ofBitVec (BitVec.ofNat (8 : Nat) (0 : Nat)))) : Int) = (11 : Int))) ∧ (decide ((65536 : Int) ≤ Int.fdiv (1800 : Int) ((2 : Int) ^ min (Int.toNat (32 : Int)) (IntKind.bits IntKind.u64))) = false → (decide ((256 : Int) ≤ Int.fdiv (1800 : Int) ((2 : Int) ^ min (Int.toNat (32 : Int)) (IntKind.bits IntKind.u64))) = true → (0 : Int) ≤ (8 : Int) ∧ R64 ((32 : Int) + (8 : Int)) ∧ (0 : Int) ≤ IntKind.wrap IntKind.u8 (Int.fdiv (Int.fdiv (1800 : Int) ((2 : Int) ^ min (Int.toNat (32 : Int)) (IntKind.bits IntKind.u64))) ((2 : Int) ^ min (Int.toNat (8 : Int)) (IntKind.bits IntKind.u64))) ∧ IntKind.wrap IntKind.u8 (Int.fdiv (Int.fdiv (1800 : Int) ((2 : Int) ^ min (Int.toNat (32 : Int)) (IntKind.bits IntKind.u64))) ((2 : Int) ^ min (Int.toNat (8 : Int)) (IntKind.bits IntKind.u64))) < (↑(ByteArray.size (ByteArray.mk (List.toArray (List.append (List.append [(0 : UInt8), (1 : UInt8), (2 : UInt8), (2 : UInt8), (3 : UInt8), (3 : UInt8), (3 : UInt8), (3 : UInt8), (4 : UInt8), (4 : UInt8), (4 : UInt8), (4 : UInt8), (4 : UInt8), (4 : UInt8), (4 : UInt8), (4 : UInt8), (5 : UInt8), (5 : UInt8), (5 : UInt8), (5 : UInt8), (5 : UInt8), (5 : UInt8), (5 : UInt8), (5 : UInt8), (5 : UInt8), (5 : UInt8), (5 : UInt8), (5 : UInt8), (5 : UInt8), (5 : UInt8), (5 : UInt8), (5 : UInt8), (6 : UInt8), (6 : UInt8), (6 : UInt8), (6 : UInt8), (6 : UInt8), (6 : UInt8), (6 : UInt8), (6 : UInt8), (6 : UInt8), (6 : UInt8), (6 : UInt8), (6 : UInt8), (6 : UInt8), (6 : UInt8), (6 : UInt8), (6 : UInt8), (6 : UInt8), (6 : UInt8), (6 : UInt8), (6 : UInt8), (6 : UInt8), (6 : UInt8), (6 : UInt8), (6 : UInt8), (6 : UInt8), (6 : UInt8), (6 : UInt8), (6 : UInt8), (6 : UInt8), (6 : UInt8), (6 : UInt8), (6 : UInt8)] [(7 : UInt8), (7 : UInt8), (7 : UInt8), (7 : UInt8), (7 : UInt8), (7 : UInt8), (7 : UInt8), (7 : UInt8), (7 : UInt8), (7 : UInt8), (7 : UInt8), (7 : UInt8), (7 : UInt8), (7 : UInt8), (7 : UInt8), (7 : UInt8), (7 : UInt8), (7 : UInt8), (7 : UInt8), (7 : UInt8), (7 : UInt8), (7 : UInt8), (7 : UInt8), (7 : UInt8), (7 : UInt8), (7 : UInt8), (7 : UInt8), (7 : UInt8), (7 : UInt8), (7 : UInt8), (7 : UInt8), (7 : UInt8), (7 : UInt8), (7 : UInt8), (7 : UInt8), (7 : UInt8), (7 : UInt8), (7 : UInt8), (7 : UInt8), (7 : UInt8), (7 : UInt8), (7 : UInt8), (7 : UInt8), (7 : UInt8), (7 : UInt8), (7 : UInt8), (7 : UInt8), (7 : UInt8), (7 : UInt8), (7 : UInt8), (7 : UInt8), (7 : UInt8), (7 : UInt8), (7 : UInt8), (7 : UInt8), (7 : UInt8), (7 : UInt8), (7 : UInt8), (7 : UInt8), (7 : UInt8), (7 : UInt8), (7 : UInt8), (7 : UInt8), (7 : UInt8)]) (List.append [(8 : UInt8), (8 : UInt8), (8 : UInt8), (8 : UInt8), (8 : UInt8), (8 : UInt8), (8 : UInt8), (8 : UInt8), (8 : UInt8), (8 : UInt8), (8 : UInt8), (8 : UInt8), (8 : UInt8), (8 : UInt8), (8 : UInt8), (8 : UInt8), (8 : UInt8), (8 : UInt8), (8 : UInt8), (8 : UInt8), (8 : UInt8), (8 : UInt8), (8 : UInt8), (8 : UInt8), (8 : UInt8), (8 : UInt8), (8 : UInt8), (8 : UInt8), (8 : UInt8), (8 : UInt8), (8 : UInt8), (8 : UInt8), (8 : UInt8), (8 : UInt8), (8 : UInt8), (8 : UInt8), (8 : UInt8), (8 : UInt8), (8 : UInt8), (8 : UInt8), (8 : UInt8), (8 : UInt8), (8 : UInt8), (8 : UInt8), (8 : UInt8), (8 : UInt8), (8 : UInt8), (8 : UInt8), (8 : UInt8), (8 : UInt8), (8 : UInt8), (8 : UInt8), (8 : UInt8), (8 : UInt8), (8 : UInt8), (8 : UInt8), (8 : UInt8), (8 : UInt8), (8 : UInt8), (8 : UInt8), (8 : UInt8), (8 : UInt8), (8 : UInt8), (8 : UInt8)] [(8 : UInt8), (8 : UInt8), (8 : UInt8), (8 : UInt8), (8 : UInt8), (8 : UInt8), (8 : UInt8), (8 : UInt8), (8 : UInt8), (8 : UInt8), (8 : UInt8), (8 : UInt8), (8 : UInt8), (8 : UInt8), (8 : UInt8), (8 : UInt8), (8 : UInt8), (8 : UInt8), (8 : UInt8), (8 : UInt8), (8 : UInt8), (8 : UInt8), (8 : UInt8), (8 : UInt8), (8 : UInt8), (8 : UInt8), (8 : UInt8), (8 : UInt8), (8 : UInt8), (8 : UInt8), (8 : UInt8), (8 : UInt8), (8 : UInt8), (8 : UInt8), (8 : UInt8), (8 : UInt8), (8 : UInt8), (8 : UInt8), (8 : UInt8), (8 : UInt8), (8 : UInt8), (8 : UInt8), (8 : UInt8), (8 : UInt8), (8 : UInt8), (8 : UInt8), (8 : UInt8), (8 : UInt8), (8 : UInt8), (8 : UInt8), (8 : UInt8), (8 : UInt8), (8 : UInt8), (8 : UInt8), (8 : UInt8), (8 : UInt8), (8 : UInt8), (8 : UInt8), (8 : UInt8), (8 : UInt8), (8 : UInt8), (8 : UInt8), (8 : UInt8), (8 : UInt8)]))))) : Int) ∧ R64 (↑(UInt8.toNat (UInt8.ofBitVec (BitVec.ofNat (8 : Nat) (0 : Nat)))) : Int) ∧ R64 ((32 : Int) + (8 : Int) + (↑(UInt8.toNat (UInt8.ofBitVec (BitVec.ofNat (8 : Nat) (0 : Nat)))) : Int)) ∧ (32 : Int) + (8 : Int) + (↑(UInt8.toNat (UInt8.ofBitVec (BitVec.ofNat (8 : Nat) (0 : Nat)))) : Int) = (11 : Int)) ∧ (decide ((256 : Int) ≤ Int.fdiv (1800 : Int) ((2 : Int) ^ min (Int.toNat (32 : Int)) (IntKind.bits IntKind.u64))) = false → (0 : Int) ≤ IntKind.wrap IntKind.u8 (Int.fdiv (1800 : Int) ((2 : Int) ^ min (Int.toNat (32 : Int)) (IntKind.bits IntKind.u64))) ∧ IntKind.wrap IntKind.u8 (Int.fdiv (1800 : Int) ((2 : Int) ^ min (Int.toNat (32 : Int)) (IntKind.bits IntKind.u64))) < (↑(ByteArray.size (ByteArray.mk (List.toArray (List.append (List.append [(0 : UInt8), (1 : UInt8), (2 : UInt8), (2 : UInt8), (3 : UInt8), (3 : UInt8), (3 : UInt8), (3 : UInt8), (4 : UInt8), (4 : UInt8), (4 : UInt8), (4 : UInt8), (4 : UInt8), (4 : UInt8), (4 : UInt8), (4 : UInt8), (5 : UInt8), (5 : UInt8), (5 : UInt8), (5 : UInt8), (5 : UInt8), (5 : UInt8), (5 : UInt8), (5 : UInt8), (5 : UInt8), (5 : UInt8), (5 : UInt8), (5 : UInt8), (5 : UInt8), (5 : UInt8), (5 : UInt8), (5 : UInt8), (6 : UInt8), (6 : UInt8), (6 : UInt8), (6 : UInt8), (6 : UInt8), (6 : UInt8), (6 : UInt8), (6 : UInt8), (6 : UInt8), (6 : UInt8), (6 : UInt8), (6 : UInt8), (6 : UInt8), (6 : UInt8), (6 : UInt8), (6 : UInt8), (6 : UInt8), (6 : UInt8), (6 : UInt8), (6 : UInt8), (6 : UInt8), (6 : UInt8), (6 : UInt8), (6 : UInt8), (6 : UInt8), (6 : UInt8), (6 : UInt8), (6 : UInt8), (6 : UInt8), (6 : UInt8), (6 : UInt8), (6 : UInt8)] [(7 : UInt8), (7 : UInt8), (7 : UInt8), (7 : UInt8), (7 : UInt8), (7 : UInt8), (7 : UInt8), (7 : UInt8), (7 : UInt8), (7 : UInt8), (7 : UInt8), (7 : UInt8), (7 : UInt8), (7 : UInt8), (7 : UInt8), (7 : UInt8), (7 : UInt8), (7 : UInt8), (7 : UInt8), (7 : UInt8), (7 : UInt8), (7 : UInt8), (7 : UInt8), (7 : UInt8), (7 : UInt8), (7 : UInt8), (7 : UInt8), (7 : UInt8), (7 : UInt8), (7 : UInt8), (7 : UInt8), (7 : UInt8), (7 : UInt8), (7 : UInt8), (7 : UInt8), (7 : UInt8), (7 : UInt8), (7 : UInt8), (7 : UInt8), (7 : UInt8), (7 : UInt8), (7 : UInt8), (7 : UInt8), (7 : UInt8), (7 : UInt8), (7 : UInt8), (7 : UInt8), (7 : UInt8), (7 : UInt8), (7 : UInt8), (7 : UInt8), (7 : UInt8), (7 : UInt8), (7 : UInt8), (7 : UInt8), (7 : UInt8), (7 : UInt8), (7 : UInt8), (7 : UInt8), (7 : UInt8), (7 : UInt8), (7 : UInt8), (7 : UInt8), (7 : UInt8)]) (List.append [(8 : UInt8), (8 : UInt8), (8 : UInt8), (8 : UInt8), (8 : UInt8), (8 : UInt8), (8 : UInt8), (8 : UInt8), (8 : UInt8), (8 : UInt8), (8 : UInt8), (8 : UInt8), (8 : UInt8), (8 : UInt8), (8 : UInt8), (8 : UInt8), (8 : UInt8), (8 : UInt8), (8 : UInt8), (8 : UInt8), (8 : UInt8), (8 : UInt8), (8 : UInt8), (8 : UInt8), (8 : UInt8), (8 : UInt8), (8 : UInt8), (8 : UInt8), (8 : UInt8), (8 : UInt8), (8 : UInt8), (8 : UInt8), (8 : UInt8), (8 : UInt8), (8 : UInt8), (8 : UInt8), (8 : UInt8), (8 : UInt8), (8 : UInt8), (8 : UInt8), (8 : UInt8), (8 : UInt8), (8 : UInt8), (8 : UInt8), (8 : UInt8), (8 : UInt8), (8 : UInt8), (8 : UInt8), (8 : UInt8), (8 : UInt8), (8 : UInt8), (8 : UInt8), (8 : UInt8), (8 : UInt8), (8 : UInt8), (8 : UInt8), (8 : UInt8), (8 : UInt8), (8 : UInt8), (8 : UInt8), (8 : UInt8), (8 : UInt8), (8 : UInt8), (8 : UInt8)] [(8 : UInt8), (8 : UInt8), (8 : UInt8), (8 : UInt8), (8 : UInt8), (8 : UInt8), (8 : UInt8), (8 : UInt8), (8 : UInt8), (8 : UInt8), (8 : UInt8), (8 : UInt8), (8 : UInt8), (8 : UInt8), (8 : UInt8), (8 : UInt8), (8 : UInt8), (8 : UInt8), (8 : UInt8), (8 : UInt8), (8 : UInt8), (8 : UInt8), (8 : UInt8), (8 : UInt8), (8 : UInt8), (8 : UInt8), (8 : UInt8), (8 : UInt8), (8 : UInt8), (8 : UInt8), (8 : UInt8), (8 : UInt8), (8 : UInt8), (8 : UInt8), (8 : UInt8), (8 : UInt8), (8 : UInt8), (8 : UInt8), (8 : UInt8), (8 : UInt8), (8 : UInt8), (8 : UInt8), (8 : UInt8), (8 : UInt8), (8 : UInt8), (8 : UInt8), (8 : UInt8), (8 : UInt8), (8 : UInt8), (8 : UInt8), (8 : UInt8), (8 : UInt8), (8 : UInt8), (8 : UInt8), (8 : UInt8), (8 : UInt8), (8 : UInt8), (8 : UInt8), (8 : UInt8), (8 : UInt8), (8 : UInt8), (8 : UInt8), (8 : UInt8), (8 : UInt8)]))))) : Int) ∧ R64 (↑(UInt8.toNat (UInt8.ofBitVec (BitVec.ofNat (8 : Nat) (0 : Nat)))) : Int) ∧ R64 ((32 : Int) + (↑(UInt8.toNat (UInt8.ofBitVec (BitVec.ofNat (8 : Nat) (0 : Nat)))) : Int)) ∧ (32 : Int) + (↑(UInt8.toNat (UInt8.ofBitVec (BitVec.ofNat (8 : Nat) (0 : Nat)))) : Int) = (11 : Int)))) ∧ (decide ((4294967296 : Int) ≤ (1800 : Int)) = false → (decide ((65536 : Int) ≤ (1800 : Int)) = true → (0 : Int) ≤ (16 : Int) ∧ R64 ((0 : Int) + (16 : Int)) ∧ (decide ((256 : Int) ≤ Int.fdiv (1800 : Int) ((2 : Int) ^ min (Int.toNat (16 : Int)) (IntKind.bits IntKind.u64))) = true → (0 : Int) ≤ (8 : Int) ∧ R64 ((0 : Int) + (16 : Int) + (8 : Int)) ∧ (0 : Int) ≤ IntKind.wrap IntKind.u8 (Int.fdiv (Int.fdiv (1800 : Int) ((2 : Int) ^ min (Int.toNat (16 : Int)) (IntKind.bits IntKind.u64))) ((2 : Int) ^ min (Int.toNat (8 : Int)) (IntKind.bits IntKind.u64))) ∧ IntKind.wrap IntKind.u8 (Int.fdiv (Int.fdiv (1800 : Int) ((2 : Int) ^ min (Int.toNat (16 : Int)) (IntKind.bits IntKind.u64))) ((2 : Int) ^ min (Int.toNat (8 : Int)) (IntKind.bits IntKind.u64))) < (↑(ByteArray.size (ByteArray.mk (List.toArray (List.append (List.append [(0 : UInt8), (1 : UInt8), (2 : UInt8), (2 : UInt8), (3 : UInt8), (3 : UInt8), (3 : UInt8), (3 : UInt8), (4 : UInt8), (4 : UInt8), (4 : UInt8), (4 : UInt8), (4 : UInt8), (4 : UInt8), (4 : UInt8), (4 : UInt8), (5 : UInt8), (5 : UInt8), (5 : UInt8), (5 : UInt8), (5 : UInt8), (5 : UInt8), (5 : UInt8), (5 : UInt8), (5 : UInt8), (5 : UInt8), (5 : UInt8), (5 : UInt8), (5 : UInt8), (5 : UInt8), (5 : UInt8), (5 : UInt8), (6 : UInt8), (6 : UInt8), (6 : UInt8), (6 : UInt8), (6 : UInt8), (6 : UInt8), (6 : UInt8), (6 : UInt8), (6 : UInt8), (6 : UInt8), (6 : UInt8), (6 : UInt8), (6 : UInt8), (6 : UInt8), (6 : UInt8), (6 : UInt8), (6 : UInt8), (6 : UInt8), (6 : UInt8), (6 : UInt8), (6 : UInt8), (6 : UInt8), (6 : UInt8), (6 : UInt8), (6 : UInt8), (6 : UInt8), (6 : UInt8), (6 : UInt8), (6 : UInt8), (6 : UInt8), (6 : UInt8), (6 : UInt8)] [(7 : UInt8), (7 : UInt8), (7 : UInt8), (7 : UInt8), (7 : UInt8), (7 : UInt8), (7 : UInt8), (7 : UInt8), (7 : UInt8), (7 : UInt8), (7 : UInt8), (7 : UInt8), (7 : UInt8), (7 : UInt8), (7 : UInt8), (7 : UInt8), (7 : UInt8), (7 : UInt8), (7 : UInt8), (7 : UInt8), (7 : UInt8), (7 : UInt8), (7 : UInt8), (7 : UInt8), (7 : UInt8), (7 : UInt8), (7 : UInt8), (7 : UInt8), (7 : UInt8), (7 : UInt8), (7 : UInt8), (7 : UInt8), (7 : UInt8), (7 : UInt8), (7 : UInt8), (7 : UInt8), (7 : UInt8), (7 : UInt8), (7 : UInt8), (7 : UInt8), (7 : UInt8), (7 : UInt8), (7 : UInt8), (7 : UInt8), (7 : UInt8), (7 : UInt8), (7 : UInt8), (7 : UInt8), (7 : UInt8), (7 : UInt8), (7 : UInt8), (7 : UInt8), (7 : UInt8), (7 : UInt8), (7 : UInt8), (7 : UInt8), (7 : UInt8), (7 : UInt8), (7 : UInt8), (7 : UInt8), (7 : UInt8), (7 : UInt8), (7 : UInt8), (7 : UInt8)]) (List.append [(8 : UInt8), (8 : UInt8), (8 : UInt8), (8 : UInt8), (8 : UInt8), (8 : UInt8), (8 : UInt8), (8 : UInt8), (8 : UInt8), (8 : UInt8), (8 : UInt8), (8 : UInt8), (8 : UInt8), (8 : UInt8), (8 : UInt8), (8 : UInt8), (8 : UInt8), (8 : UInt8), (8 : UInt8), (8 : UInt8), (8 : UInt8), (8 : UInt8), (8 : UInt8), (8 : UInt8), (8 : UInt8), (8 : UInt8), (8 : UInt8), (8 : UInt8), (8 : UInt8), (8 : UInt8), (8 : UInt8), (8 : UInt8), (8 : UInt8), (8 : UInt8), (8 : UInt8), (8 : UInt8), (8 : UInt8), (8 : UInt8), (8 : UInt8), (8 : UInt8), (8 : UInt8), (8 : UInt8), (8 : UInt8), (8 : UInt8), (8 : UInt8), (8 : UInt8), (8 : UInt8), (8 : UInt8), (8 : UInt8), (8 : UInt8), (8 : UInt8), (8 : UInt8), (8 : UInt8), (8 : UInt8), (8 : UInt8), (8 : UInt8), (8 : UInt8), (8 : UInt8), (8 : UInt8), (8 : UInt8), (8 : UInt8), (8 : UInt8), (8 : UInt8), (8 : UInt8)] [(8 : UInt8), (8 : UInt8), (8 : UInt8), (8 : UInt8), (8 : UInt8), (8 : UInt8), (8 : UInt8), (8 : UInt8), (8 : UInt8), (8 : UInt8), (8 : UInt8), (8 : UInt8), (8 : UInt8), (8 : UInt8), (8 : UInt8), (8 : UInt8), (8 : UInt8), (8 : UInt8), (8 : UInt8), (8 : UInt8), (8 : UInt8), (8 : UInt8), (8 : UInt8), (8 : UInt8), (8 : UInt8), (8 : UInt8), (8 : UInt8), (8 : UInt8), (8 : UInt8), (8 : UInt8), (8 : UInt8), (8 : UInt8), (8 : UInt8), (8 : UInt8), (8 : UInt8), (8 : UInt8), (8 : UInt8), (8 : UInt8), (8 : UInt8), (8 : UInt8), (8 : UInt8), (8 : UInt8), (8 : UInt8), (8 : UInt8), (8 : UInt8), (8 : UInt8), (8 : UInt8), (8 : UInt8), (8 : UInt8), (8 : UInt8), (8 : UInt8), (8 : UInt8), (8 : UInt8), (8 : UInt8), (8 : UInt8), (8 : UInt8), (8 : UInt8), (8 : UInt8), (8 : UInt8), (8 : UInt8), (8 : UInt8), (8 : UInt8), (8 : UInt8), (8 : UInt8)]))))) : Int) ∧ R64 (↑(UInt8.toNat (UInt8.ofBitVec (BitVec.ofNat (8 : Nat) (0 : Nat)))) : Int) ∧ R64 ((0 : Int) + (16 : Int) + (8 : Int) + (↑(UInt8.toNat (UInt8.ofBitVec (BitVec.ofNat (8 : Nat) (0 : Nat)))) : Int)) ∧ (0 : Int) + (16 : Int) + (8 : Int) + (↑(UInt8.toNat (UInt8.ofBitVec (BitVec.ofNat (8 : Nat) (0 : Nat)))) : Int) = (11 : Int)) ∧ (decide ((256 : Int) ≤ Int.fdiv (1800 : Int) ((2 : Int) ^ min (Int.toNat (16 : Int)) (IntKind.bits IntKind.u64))) = false → (0 : Int) ≤ IntKind.wrap IntKind.u8 (Int.fdiv (1800 : Int) ((2 : Int) ^ min (Int.toNat (16 : Int)) (IntKind.bits IntKind.u64))) ∧ IntKind.wrap IntKind.u8 (Int.fdiv (1800 : Int) ((2 : Int) ^ min (Int.toNat (16 : Int)) (IntKind.bits IntKind.u64))) < (↑(ByteArray.size (ByteArray.mk (List.toArray (List.append (List.append [(0 : UInt8), (1 : UInt8), (2 : UInt8), (2 : UInt8), (3 : UInt8), (3 : UInt8), (3 : UInt8), (3 : UInt8), (4 : UInt8), (4 : UInt8), (4 : UInt8), (4 : UInt8), (4 : UInt8), (4 : UInt8), (4 : UInt8), (4 : UInt8), (5 : UInt8), (5 : UInt8), (5 : UInt8), (5 : UInt8), (5 : UInt8), (5 : UInt8), (5 : UInt8), (5 : UInt8), (5 : UInt8), (5 : UInt8), (5 : UInt8), (5 : UInt8), (5 : UInt8), (5 : UInt8), (5 : UInt8), (5 : UInt8), (6 : UInt8), (6 : UInt8), (6 : UInt8), (6 : UInt8), (6 : UInt8), (6 : UInt8), (6 : UInt8), (6 : UInt8), (6 : UInt8), (6 : UInt8), (6 : UInt8), (6 : UInt8), (6 : UInt8), (6 : UInt8), (6 : UInt8), (6 : UInt8), (6 : UInt8), (6 : UInt8), (6 : UInt8), (6 : UInt8), (6 : UInt8), (6 : UInt8), (6 : UInt8), (6 : UInt8), (6 : UInt8), (6 : UInt8), (6 : UInt8), (6 : UInt8), (6 : UInt8), (6 : UInt8), (6 : UInt8), (6 : UInt8)] [(7 : UInt8), (7 : UInt8), (7 : UInt8), (7 : UInt8), (7 : UInt8), (7 : UInt8), (7 : UInt8), (7 : UInt8), (7 : UInt8), (7 : UInt8), (7 : UInt8), (7 : UInt8), (7 : UInt8), (7 : UInt8), (7 : UInt8), (7 : UInt8), (7 : UInt8), (7 : UInt8), (7 : UInt8), (7 : UInt8), (7 : UInt8), (7 : UInt8), (7 : UInt8), (7 : UInt8), (7 : UInt8), (7 : UInt8), (7 : UInt8), (7 : UInt8), (7 : UInt8), (7 : UInt8), (7 : UInt8), (7 : UInt8), (7 : UInt8), (7 : UInt8), (7 : UInt8), (7 : UInt8), (7 : UInt8), (7 : UInt8), (7 : UInt8), (7 : UInt8), (7 : UInt8), (7 : UInt8), (7 : UInt8), (7 : UInt8), (7 : UInt8), (7 : UInt8), (7 : UInt8), (7 : UInt8), (7 : UInt8), (7 : UInt8), (7 : UInt8), (7 : UInt8), (7 : UInt8), (7 : UInt8), (7 : UInt8), (7 : UInt8), (7 : UInt8), (7 : UInt8), (7 : UInt8), (7 : UInt8), (7 : UInt8), (7 : UInt8), (7 : UInt8), (7 : UInt8)]) (List.append [(8 : UInt8), (8 : UInt8), (8 : UInt8), (8 : UInt8), (8 : UInt8), (8 : UInt8), (8 : UInt8), (8 : UInt8), (8 : UInt8), (8 : UInt8), (8 : UInt8), (8 : UInt8), (8 : UInt8), (8 : UInt8), (8 : UInt8), (8 : UInt8), (8 : UInt8), (8 : UInt8), (8 : UInt8), (8 : UInt8), (8 : UInt8), (8 : UInt8), (8 : UInt8), (8 : UInt8), (8 : UInt8), (8 : UInt8), (8 : UInt8), (8 : UInt8), (8 : UInt8), (8 : UInt8), (8 : UInt8), (8 : UInt8), (8 : UInt8), (8 : UInt8), (8 : UInt8), (8 : UInt8), (8 : UInt8), (8 : UInt8), (8 : UInt8), (8 : UInt8), (8 : UInt8), (8 : UInt8), (8 : UInt8), (8 : UInt8), (8 : UInt8), (8 : UInt8), (8 : UInt8), (8 : UInt8), (8 : UInt8), (8 : UInt8), (8 : UInt8), (8 : UInt8), (8 : UInt8), (8 : UInt8), (8 : UInt8), (8 : UInt8), (8 : UInt8), (8 : UInt8), (8 : UInt8), (8 : UInt8), (8 : UInt8), (8 : UInt8), (8 : UInt8), (8 : UInt8)] [(8 : UInt8), (8 : UInt8), (8 : UInt8), (8 : UInt8), (8 : UInt8), (8 : UInt8), (8 : UInt8), (8 : UInt8), (8 : UInt8), (8 : UInt8), (8 : UInt8), (8 : UInt8), (8 : UInt8), (8 : UInt8), (8 : UInt8), (8 : UInt8), (8 : UInt8), (8 : UInt8), (8 : UInt8), (8 : UInt8), (8 : UInt8), (8 : UInt8), (8 : UInt8), (8 : UInt8), (8 : UInt8), (8 : UInt8), (8 : UInt8), (8 : UInt8), (8 : UInt8), (8 : UInt8), (8 : UInt8), (8 : UInt8), (8 : UInt8), (8 : UInt8), (8 : UInt8), (8 : UInt8), (8 : UInt8), (8 : UInt8), (8 : UInt8), (8 : UInt8), (8 : UInt8), (8 : UInt8), (8 : UInt8), (8 : UInt8), (8 : UInt8), (8 : UInt8), (8 : UInt8), (8 : UInt8), (8 : UInt8), (8 : UInt8), (8 : UInt8), (8 : UInt8), (8 : UInt8), (8 : UInt8), (8 : UInt8), (8 : UInt8), (8 : UInt8), (8 : UInt8), (8 : UInt8), (8 : UInt8), (8 : UInt8), (8 : UInt8), (8 : UInt8), (8 : UInt8)]))))) : Int) ∧ R64 (↑(UInt8.toNat (UInt8.ofBitVec (BitVec.ofNat (8 : Nat) (0 : Nat)))) : Int) ∧ R64 ((0 : Int) + (16 : Int) + (↑(UInt8.toNat (UInt8.ofBitVec (BitVec.ofNat (8 : Nat) (0 : Nat)))) : Int)) ∧ (0 : Int) + (16 : Int) + (↑(UInt8.toNat (UInt8.ofBitVec (BitVec.ofNat (8 : Nat) (0 : Nat)))) : Int) = (11 : Int))) ∧ (decide ((65536 : Int) ≤ (1800 : Int)) = false → (decide ((256 : Int) ≤ (1800 : Int)) = true → (0 : Int) ≤ (8 : Int) ∧ R64 ((0 : Int) + (8 : Int)) ∧ (0 : Int) ≤ IntKind.wrap IntKind.u8 (Int.fdiv (1800 : Int) ((2 : Int) ^ min (Int.toNat (8 : Int)) (IntKind.bits IntKind.u64))) ∧ IntKind.wrap IntKind.u8 (Int.fdiv (1800 : Int) ((2 : Int) ^ min (Int.toNat (8 : Int)) (IntKind.bits IntKind.u64))) < (↑(ByteArray.size (ByteArray.mk (List.toArray (List.append (List.append [(0 : UInt8), (1 : UInt8), (2 : UInt8), (2 : UInt8), (3 : UInt8), (3 : UInt8), (3 : UInt8), (3 : UInt8), (4 : UInt8), (4 : UInt8), (4 : UInt8), (4 : UInt8), (4 : UInt8), (4 : UInt8), (4 : UInt8), (4 : UInt8), (5 : UInt8), (5 : UInt8), (5 : UInt8), (5 : UInt8), (5 : UInt8), (5 : UInt8), (5 : UInt8), (5 : UInt8), (5 : UInt8), (5 : UInt8), (5 : UInt8), (5 : UInt8), (5 : UInt8), (5 : UInt8), (5 : UInt8), (5 : UInt8), (6 : UInt8), (6 : UInt8), (6 : UInt8), (6 : UInt8), (6 : UInt8), (6 : UInt8), (6 : UInt8), (6 : UInt8), (6 : UInt8), (6 : UInt8), (6 : UInt8), (6 : UInt8), (6 : UInt8), (6 : UInt8), (6 : UInt8), (6 : UInt8), (6 : UInt8), (6 : UInt8), (6 : UInt8), (6 : UInt8), (6 : UInt8), (6 : UInt8), (6 : UInt8), (6 : UInt8), (6 : UInt8), (6 : UInt8), (6 : UInt8), (6 : UInt8), (6 : UInt8), (6 : UInt8), (6 : UInt8), (6 : UInt8)] [(7 : UInt8), (7 : UInt8), (7 : UInt8), (7 : UInt8), (7 : UInt8), (7 : UInt8), (7 : UInt8), (7 : UInt8), (7 : UInt8), (7 : UInt8), (7 : UInt8), (7 : UInt8), (7 : UInt8), (7 : UInt8), (7 : UInt8), (7 : UInt8), (7 : UInt8), (7 : UInt8), (7 : UInt8), (7 : UInt8), (7 : UInt8), (7 : UInt8), (7 : UInt8), (7 : UInt8), (7 : UInt8), (7 : UInt8), (7 : UInt8), (7 : UInt8), (7 : UInt8), (7 : UInt8), (7 : UInt8), (7 : UInt8), (7 : UInt8), (7 : UInt8), (7 : UInt8), (7 : UInt8), (7 : UInt8), (7 : UInt8), (7 : UInt8), (7 : UInt8), (7 : UInt8), (7 : UInt8), (7 : UInt8), (7 : UInt8), (7 : UInt8), (7 : UInt8), (7 : UInt8), (7 : UInt8), (7 : UInt8), (7 : UInt8), (7 : UInt8), (7 : UInt8), (7 : UInt8), (7 : UInt8), (7 : UInt8), (7 : UInt8), (7 : UInt8), (7 : UInt8), (7 : UInt8), (7 : UInt8), (7 : UInt8), (7 : UInt8), (7 : UInt8), (7 : UInt8)]) (List.append [(8 : UInt8), (8 : UInt8), (8 : UInt8), (8 : UInt8), (8 : UInt8), (8 : UInt8), (8 : UInt8), (8 : UInt8), (8 : UInt8), (8 : UInt8), (8 : UInt8), (8 : UInt8), (8 : UInt8), (8 : UInt8), (8 : UInt8), (8 : UInt8), (8 : UInt8), (8 : UInt8), (8 : UInt8), (8 : UInt8), (8 : UInt8), (8 : UInt8), (8 : UInt8), (8 : UInt8), (8 : UInt8), (8 : UInt8), (8 : UInt8), (8 : UInt8), (8 : UInt8), (8 : UInt8), (8 : UInt8), (8 : UInt8), (8 : UInt8), (8 : UInt8), (8 : UInt8), (8 : UInt8), (8 : UInt8), (8 : UInt8), (8 : UInt8), (8 : UInt8), (8 : UInt8), (8 : UInt8), (8 : UInt8), (8 : UInt8), (8 : UInt8), (8 : UInt8), (8 : UInt8), (8 : UInt8), (8 : UInt8), (8 : UInt8), (8 : UInt8), (8 : UInt8), (8 : UInt8), (8 : UInt8), (8 : UInt8), (8 : UInt8), (8 : UInt8), (8 : UInt8), (8 : UInt8), (8 : UInt8), (8 : UInt8), (8 : UInt8), (8 : UInt8), (8 : UInt8)] [(8 : UInt8), (8 : UInt8), (8 : UInt8), (8 : UInt8), (8 : UInt8), (8 : UInt8), (8 : UInt8), (8 : UInt8), (8 : UInt8), (8 : UInt8), (8 : UInt8), (8 : UInt8), (8 : UInt8), (8 : UInt8), (8 : UInt8), (8 : UInt8), (8 : UInt8), (8 : UInt8), (8 : UInt8), (8 : UInt8), (8 : UInt8), (8 : UInt8), (8 : UInt8), (8 : UInt8), (8 : UInt8), (8 : UInt8), (8 : UInt8), (8 : UInt8), (8 : UInt8), (8 : UInt8), (8 : UInt8), (8 : UInt8), (8 : UInt8), (8 : UInt8), (8 : UInt8), (8 : UInt8), (8 : UInt8), (8 : UInt8), (8 : UInt8), (8 : UInt8), (8 : UInt8), (8 : UInt8), (8 : UInt8), (8 : UInt8), (8 : UInt8), (8 : UInt8), (8 : UInt8), (8 : UInt8), (8 : UInt8), (8 : UInt8), (8 : UInt8), (8 : UInt8), (8 : UInt8), (8 : UInt8), (8 : UInt8), (8 : UInt8), (8 : UInt8), (8 : UInt8), (8 : UInt8), (8 : UInt8), (8 : UInt8), (8 : UInt8), (8 : UInt8), (8 : UInt8)]))))) : Int) ∧ R64 (↑(UInt8.toNat (UInt8.ofBitVec (BitVec.ofNat (8 : Nat) (3 : Nat)))) : Int) ∧ R64 ((0 : Int) + (8 : Int) + (↑(UInt8.toNat (UInt8.ofBitVec (BitVec.ofNat (8 : Nat) (3 : Nat)))) : Int)) ∧ (0 : Int) + (8 : Int) + (↑(UInt8.toNat (UInt8.ofBitVec (BitVec.ofNat (8 : Nat) (3 : Nat)))) : Int) = (11 : Int)) ∧ (decide ((256 : Int) ≤ (1800 : Int)) = false → (0 : Int) ≤ IntKind.wrap IntKind.u8 (1800 : Int) ∧ IntKind.wrap IntKind.u8 (1800 : Int) < (↑(ByteArray.size (ByteArray.mk (List.toArray (List.append (List.append [(0 : UInt8), (1 : UInt8), (2 : UInt8), (2 : UInt8), (3 : UInt8), (3 : UInt8), (3 : UInt8), (3 : UInt8), (4 : UInt8), (4 : UInt8), (4 : UInt8), (4 : UInt8), (4 : UInt8), (4 : UInt8), (4 : UInt8), (4 : UInt8), (5 : UInt8), (5 : UInt8), (5 : UInt8), (5 : UInt8), (5 : UInt8), (5 : UInt8), (5 : UInt8), (5 : UInt8), (5 : UInt8), (5 : UInt8), (5 : UInt8), (5 : UInt8), (5 : UInt8), (5 : UInt8), (5 : UInt8), (5 : UInt8), (6 : UInt8), (6 : UInt8), (6 : UInt8), (6 : UInt8), (6 : UInt8), (6 : UInt8), (6 : UInt8), (6 : UInt8), (6 : UInt8), (6 : UInt8), (6 : UInt8), (6 : UInt8), (6 : UInt8), (6 : UInt8), (6 : UInt8), (6 : UInt8), (6 : UInt8), (6 : UInt8), (6 : UInt8), (6 : UInt8), (6 : UInt8), (6 : UInt8), (6 : UInt8), (6 : UInt8), (6 : UInt8), (6 : UInt8), (6 : UInt8), (6 : UInt8), (6 : UInt8), (6 : UInt8), (6 : UInt8), (6 : UInt8)] [(7 : UInt8), (7 : UInt8), (7 : UInt8), (7 : UInt8), (7 : UInt8), (7 : UInt8), (7 : UInt8), (7 : UInt8), (7 : UInt8), (7 : UInt8), (7 : UInt8), (7 : UInt8), (7 : UInt8), (7 : UInt8), (7 : UInt8), (7 : UInt8), (7 : UInt8), (7 : UInt8), (7 : UInt8), (7 : UInt8), (7 : UInt8), (7 : UInt8), (7 : UInt8), (7 : UInt8), (7 : UInt8), (7 : UInt8), (7 : UInt8), (7 : UInt8), (7 : UInt8), (7 : UInt8), (7 : UInt8), (7 : UInt8), (7 : UInt8), (7 : UInt8), (7 : UInt8), (7 : UInt8), (7 : UInt8), (7 : UInt8), (7 : UInt8), (7 : UInt8), (7 : UInt8), (7 : UInt8), (7 : UInt8), (7 : UInt8), (7 : UInt8), (7 : UInt8), (7 : UInt8), (7 : UInt8), (7 : UInt8), (7 : UInt8), (7 : UInt8), (7 : UInt8), (7 : UInt8), (7 : UInt8), (7 : UInt8), (7 : UInt8), (7 : UInt8), (7 : UInt8), (7 : UInt8), (7 : UInt8), (7 : UInt8), (7 : UInt8), (7 : UInt8), (7 : UInt8)]) (List.append [(8 : UInt8), (8 : UInt8), (8 : UInt8), (8 : UInt8), (8 : UInt8), (8 : UInt8), (8 : UInt8), (8 : UInt8), (8 : UInt8), (8 : UInt8), (8 : UInt8), (8 : UInt8), (8 : UInt8), (8 : UInt8), (8 : UInt8), (8 : UInt8), (8 : UInt8), (8 : UInt8), (8 : UInt8), (8 : UInt8), (8 : UInt8), (8 : UInt8), (8 : UInt8), (8 : UInt8), (8 : UInt8), (8 : UInt8), (8 : UInt8), (8 : UInt8), (8 : UInt8), (8 : UInt8), (8 : UInt8), (8 : UInt8), (8 : UInt8), (8 : UInt8), (8 : UInt8), (8 : UInt8), (8 : UInt8), (8 : UInt8), (8 : UInt8), (8 : UInt8), (8 : UInt8), (8 : UInt8), (8 : UInt8), (8 : UInt8), (8 : UInt8), (8 : UInt8), (8 : UInt8), (8 : UInt8), (8 : UInt8), (8 : UInt8), (8 : UInt8), (8 : UInt8), (8 : UInt8), (8 : UInt8), (8 : UInt8), (8 : UInt8), (8 : UInt8), (8 : UInt8), (8 : UInt8), (8 : UInt8), (8 : UInt8), (8 : UInt8), (8 : UInt8), (8 : UInt8)] [(8 : UInt8), (8 : UInt8), (8 : UInt8), (8 : UInt8), (8 : UInt8), (8 : UInt8), (8 : UInt8), (8 : UInt8), (8 : UInt8), (8 : UInt8), (8 : UInt8), (8 : UInt8), (8 : UInt8), (8 : UInt8), (8 : UInt8), (8 : UInt8), (8 : UInt8), (8 : UInt8), (8 : UInt8), (8 : UInt8), (8 : UInt8), (8 : UInt8), (8 : UInt8), (8 : UInt8), (8 : UInt8), (8 : UInt8), (8 : UInt8), (8 : UInt8), (8 : UInt8), (8 : UInt8), (8 : UInt8), (8 : UInt8), (8 : UInt8), (8 : UInt8), (8 : UInt8), (8 : UInt8), (8 : UInt8), (8 : UInt8), (8 : UInt8), (8 : UInt8), (8 : UInt8), (8 : UInt8), (8 : UInt8), (8 : UInt8), (8 : UInt8), (8 : UInt8), (8 : UInt8), (8 : UInt8), (8 : UInt8), (8 : UInt8), (8 : UInt8), (8 : UInt8), (8 : UInt8), (8 : UInt8), (8 : UInt8), (8 : UInt8), (8 : UInt8), (8 : UInt8), (8 : UInt8), (8 : UInt8), (8 : UInt8), (8 : UInt8), (8 : UInt8), (8 : UInt8)]))))) : Int) ∧ R64 (↑(UInt8.toNat (UInt8.ofBitVec (BitVec.ofNat (8 : Nat) (4 : Nat)))) : Int) ∧ R64 ((0 : Int) + (↑(UInt8.toNat (UInt8.ofBitVec (BitVec.ofNat (8 : Nat) (4 : Nat)))) : Int)) ∧ (0 : Int) + (↑(UInt8.toNat (UInt8.ofBitVec (BitVec.ofNat (8 : Nat) (4 : Nat)))) : Int) = (11 : Int))))
theorem r78  : V true [] [] Try.f78 [0,2,4,8,14] [] [.int .u64 1800] (SI 11) = Rr78  := by kernel_rfl
theorem br78   : Rr78  := by
  unfold Rr78
  refine ⟨fun h => absurd h (by decide), fun _ => ⟨fun h => absurd h (by decide), fun _ => ⟨fun _ => ?_, fun h => absurd h (by decide)⟩⟩⟩
  unfold R64
  decide +kernel
theorem s78 : PureOK PP 78 e78 := atArgs_ok (by
    refine enter (L := [0,2,4,8,14]) (LO := []) (E := []) (O := []) (ck := true) (.nil) (.nil) (k := 78) (f := Try.f78) (xs := [.int .u64 1800]) (r := (SI 11)) (by kernel_rfl) (by kernel_rfl) (fun _ => .nil) ?_
    exact Hold.of r78 br78)
abbrev e77 := atArgs [.int .u64 1800] (SI 53)
def Rr77  : Prop := (1800 : Int) = (1800 : Int) ∧ R64 ((64 : Int) - (11 : Int)) ∧ (64 : Int) - (11 : Int) = (53 : Int)
theorem r77  : V true [] [(78, pureE e78)] Try.f77 [0,2] [] [.int .u64 1800] (SI 53) = Rr77  := by kernel_rfl
theorem br77   : Rr77  := by
  unfold Rr77
  simp
  unfold R64
  omega
theorem s77 : PureOK PP 77 e77 := atArgs_ok (by
    refine enter (L := [0,2]) (LO := []) (E := []) (O := [(78, pureE e78)]) (ck := true) (.nil) (.cons (pureE_ok s78) (.nil)) (k := 77) (f := Try.f77) (xs := [.int .u64 1800]) (r := (SI 53)) (by kernel_rfl) (by kernel_rfl) (fun _ => .nil) ?_
    exact Hold.of r77 br77)
theorem sh11 : (2 : Int) ^ min (Int.toNat (IntKind.wrap .u64 (64 - IntKind.wrap .u64 53))) (IntKind.bits .u64) = 2048 := rfl
theorem sh53 : (2 : Int) ^ min (Int.toNat (IntKind.wrap .u64 53)) (IntKind.bits .u64) = 9007199254740992 := rfl
def lp76a : LoopS where
  ι := Int × Int × Int × Int × Int × Int × Int × Int × Int
  β := Int × Int × Int × Int × Int × Int × Int × Int × Int
  pre := fun (y, s, y1, y0, u, u1, u0, q, r) => y0 = 0 ∧ 0 ≤ q ∧ q < 4294967296 ∧ 0 ≤ r ∧ r < 4294967296 ∧ 0 ≤ u1 ∧ u1 < 4294967296
  μ _ := 0
  next p _ _ _ := p
  out p := p
  early _ := false
  SA := fun (y, s, y1, y0, u, u1, u0, q, r) => [(2, .int .u64 y), (8, .int .u64 s), (9, .int .u64 y1), (10, .int .u64 y0), (11, .int .u64 u), (13, .int .u64 u1), (14, .int .u64 u0), (15, .int .u64 q), (16, .int .u64 r)]
  SH _ := []
  n0 := 0
  NA := fun (y, s, y1, y0, u, u1, u0, q, r) => [(2, .int .u64 y), (8, .int .u64 s), (9, .int .u64 y1), (10, .int .u64 y0), (11, .int .u64 u), (13, .int .u64 u1), (14, .int .u64 u0), (15, .int .u64 q)]
  NH _ := []
  n1 := 0
  RA _ := []
  RH _ := []
def Rq76a  (y s y1 y0 u u1 u0 q r : Int) : Prop := ((!decide ((4294967296 : Int) ≤ q)) = true → (!decide ((4294967296 : Int) ≤ q)) = true) ∧ ((!decide ((4294967296 : Int) ≤ q)) = true → (!decide ((4294967296 : Int) ≤ q)) = true) ∧ ((!decide ((4294967296 : Int) ≤ q)) = true → (!decide ((4294967296 : Int) ≤ q)) = true) ∧ ((!decide ((4294967296 : Int) ≤ q)) = true → (!decide ((4294967296 : Int) ≤ q)) = true) ∧ ((!decide ((4294967296 : Int) ≤ q)) = true → (!decide ((4294967296 : Int) ≤ q)) = true) ∧ ((!decide ((4294967296 : Int) ≤ q)) = true → (!decide ((4294967296 : Int) ≤ q)) = true) ∧ ((!decide ((4294967296 : Int) ≤ q)) = true → (!decide ((4294967296 : Int) ≤ q)) = true) ∧ (decide ((4294967296 : Int) ≤ q) = false → (!decide ((4294967296 : Int) ≤ q)) = true) ∧ ((bif decide ((4294967296 : Int) ≤ q) then true else decide (IntKind.wrap IntKind.u64 (IntKind.wrap IntKind.u64 ((4294967296 : Int) * r) + u1) < IntKind.wrap IntKind.u64 (q * y0))) = true → (decide ((4294967296 : Int) ≤ IntKind.wrap IntKind.u64 (r + y1)) = true → false = false ∧ y = y ∧ s = s ∧ y1 = y1 ∧ y0 = y0 ∧ u = u ∧ u1 = u1 ∧ u0 = u0 ∧ IntKind.wrap IntKind.u64 (q - (1 : Int)) = q ∧ True) ∧ (decide ((4294967296 : Int) ≤ IntKind.wrap IntKind.u64 (r + y1)) = false → (y0 = (0 : Int) ∧ (0 : Int) ≤ q ∧ q < (4294967296 : Int) ∧ (0 : Int) ≤ r ∧ r < (4294967296 : Int) ∧ (0 : Int) ≤ u1 ∧ u1 < (4294967296 : Int)) ∧ (0 : Nat) < (0 : Nat) ∧ (y, s, y1, y0, u, u1, u0, q, r) = (y, s, y1, y0, u, u1, u0, q, r) ∧ y = y ∧ s = s ∧ y1 = y1 ∧ y0 = y0 ∧ u = u ∧ u1 = u1 ∧ u0 = u0 ∧ IntKind.wrap IntKind.u64 (q - (1 : Int)) = q ∧ IntKind.wrap IntKind.u64 (r + y1) = r ∧ True)) ∧ ((bif decide ((4294967296 : Int) ≤ q) then true else decide (IntKind.wrap IntKind.u64 (IntKind.wrap IntKind.u64 ((4294967296 : Int) * r) + u1) < IntKind.wrap IntKind.u64 (q * y0))) = false → false = false ∧ y = y ∧ s = s ∧ y1 = y1 ∧ y0 = y0 ∧ u = u ∧ u1 = u1 ∧ u0 = u0 ∧ q = q ∧ True)
theorem q76a  (y s y1 y0 u u1 u0 q r : Int) : VL true [] [] YS.none Try.f76 0 [0,1,2,6,7,8,9,10,11,12,13,14,15,16,17,18,20,24,27,78,85,113,120] [] 0 lp76a ((y, s, y1, y0, u, u1, u0, q, r)) = Rq76a y s y1 y0 u u1 u0 q r := by kernel_rfl
theorem peq76a  (y s y1 y0 u u1 u0 q r : Int) : lp76a.pre ((y, s, y1, y0, u, u1, u0, q, r)) = (y0 = (0 : Int) ∧ (0 : Int) ≤ q ∧ q < (4294967296 : Int) ∧ (0 : Int) ≤ r ∧ r < (4294967296 : Int) ∧ (0 : Int) ≤ u1 ∧ u1 < (4294967296 : Int)) := by kernel_rfl
theorem bq76a  (y s y1 y0 u u1 u0 q r : Int) (hp : y0 = (0 : Int) ∧ (0 : Int) ≤ q ∧ q < (4294967296 : Int) ∧ (0 : Int) ≤ r ∧ r < (4294967296 : Int) ∧ (0 : Int) ≤ u1 ∧ u1 < (4294967296 : Int)) : Rq76a y s y1 y0 u u1 u0 q r := by
  unfold Rq76a
  obtain ⟨rfl, q1, q2, r1, r2, u1a, u1b⟩ := hp
  have h1 : ¬ (4294967296 ≤ q) := by omega
  simp only [Int.mul_zero, M.wrapU]
  have h2 : ¬ ((4294967296 * r % 18446744073709551616 + u1) % 18446744073709551616 < 0 % 18446744073709551616) := by omega
  simp only [h1, h2]
  simp
theorem t76a  {F : Fence} (hF : FOK F) (Y : YEnv PP YS.none) : ∀ Q A H nx, loopT false Try.f76.ntmps 0 lp76a (fun A _ _ => (asI (getS A 2), asI (getS A 8), asI (getS A 9), asI (getS A 10), asI (getS A 11), asI (getS A 13), asI (getS A 14), asI (getS A 15), asI (getS A 16))) Q A H nx → WPS Y F Try.f76.ntmps 0 (.block 0 (blkAt 0 Try.f76)) Q A H nx :=
  loopW (E := []) (.nil) (O := []) (.nil) (ck := true) (L := [0,1,2,6,7,8,9,10,11,12,13,14,15,16,17,18,20,24,27,78,85,113,120]) (f := Try.f76) (m := 0) (id := 0) (l := lp76a) (LI := fun i => []) Y hF (by kernel_rfl) (fun _ => .nil) (by
    rintro ⟨y, s, y1, y0, u, u1, u0, q, r⟩ hp
    exact Hold.of (q76a y s y1 y0 u u1 u0 q r) (bq76a y s y1 y0 u u1 u0 q r ((peq76a y s y1 y0 u u1 u0 q r).mp hp)))
def lp76b : LoopS where
  ι := Int × Int × Int × Int × Int × Int × Int × Int × Int
  β := Int × Int × Int × Int × Int × Int × Int × Int × Int
  pre := fun (y, s, y1, y0, u0, q, r, v, q2) => y0 = 0 ∧ 0 ≤ q2 ∧ q2 < 4294967296
  μ _ := 0
  next p _ _ _ := p
  out p := p
  early _ := false
  SA := fun (y, s, y1, y0, u0, q, r, v, q2) => [(2, .int .u64 y), (8, .int .u64 s), (9, .int .u64 y1), (10, .int .u64 y0), (14, .int .u64 u0), (15, .int .u64 q), (16, .int .u64 r), (17, .int .u64 v), (18, .int .u64 q2)]
  SH _ := []
  n0 := 0
  NA := fun (y, s, y1, y0, u0, q, r, v, q2) => [(2, .int .u64 y), (8, .int .u64 s), (14, .int .u64 u0), (15, .int .u64 q), (17, .int .u64 v), (18, .int .u64 q2)]
  NH _ := []
  n1 := 0
  RA _ := []
  RH _ := []
def Rq76b  (y s y1 y0 u0 q r v q2 : Int) : Prop := ((!decide ((4294967296 : Int) ≤ q2)) = true → (!decide ((4294967296 : Int) ≤ q2)) = true) ∧ ((!decide ((4294967296 : Int) ≤ q2)) = true → (!decide ((4294967296 : Int) ≤ q2)) = true) ∧ ((!decide ((4294967296 : Int) ≤ q2)) = true → (!decide ((4294967296 : Int) ≤ q2)) = true) ∧ ((!decide ((4294967296 : Int) ≤ q2)) = true → (!decide ((4294967296 : Int) ≤ q2)) = true) ∧ ((!decide ((4294967296 : Int) ≤ q2)) = true → (!decide ((4294967296 : Int) ≤ q2)) = true) ∧ ((!decide ((4294967296 : Int) ≤ q2)) = true → (!decide ((4294967296 : Int) ≤ q2)) = true) ∧ ((!decide ((4294967296 : Int) ≤ q2)) = true → (!decide ((4294967296 : Int) ≤ q2)) = true) ∧ (decide ((4294967296 : Int) ≤ q2) = false → (!decide ((4294967296 : Int) ≤ q2)) = true) ∧ ((bif decide ((4294967296 : Int) ≤ q2) then true else decide (IntKind.wrap IntKind.u64 (IntKind.wrap IntKind.u64 ((4294967296 : Int) * r) + u0) < IntKind.wrap IntKind.u64 (q2 * y0))) = true → (decide ((4294967296 : Int) ≤ IntKind.wrap IntKind.u64 (r + y1)) = true → false = false ∧ y = y ∧ s = s ∧ u0 = u0 ∧ q = q ∧ v = v ∧ IntKind.wrap IntKind.u64 (q2 - (1 : Int)) = q2 ∧ True) ∧ (decide ((4294967296 : Int) ≤ IntKind.wrap IntKind.u64 (r + y1)) = false → (y0 = (0 : Int) ∧ (0 : Int) ≤ q2 ∧ q2 < (4294967296 : Int)) ∧ (0 : Nat) < (0 : Nat) ∧ (y, s, y1, y0, u0, q, r, v, q2) = (y, s, y1, y0, u0, q, r, v, q2) ∧ y = y ∧ s = s ∧ y1 = y1 ∧ y0 = y0 ∧ u0 = u0 ∧ q = q ∧ IntKind.wrap IntKind.u64 (r + y1) = r ∧ v = v ∧ IntKind.wrap IntKind.u64 (q2 - (1 : Int)) = q2 ∧ True)) ∧ ((bif decide ((4294967296 : Int) ≤ q2) then true else decide (IntKind.wrap IntKind.u64 (IntKind.wrap IntKind.u64 ((4294967296 : Int) * r) + u0) < IntKind.wrap IntKind.u64 (q2 * y0))) = false → false = false ∧ y = y ∧ s = s ∧ u0 = u0 ∧ q = q ∧ v = v ∧ q2 = q2 ∧ True)
theorem q76b  (y s y1 y0 u0 q r v q2 : Int) : VL true [] [] YS.none Try.f76 0 [0,1,2,6,7,8,9,10,11,12,13,14,15,16,17,18,20,24,27,78,85,113,120] [] 2 lp76b ((y, s, y1, y0, u0, q, r, v, q2)) = Rq76b y s y1 y0 u0 q r v q2 := by kernel_rfl
theorem peq76b  (y s y1 y0 u0 q r v q2 : Int) : lp76b.pre ((y, s, y1, y0, u0, q, r, v, q2)) = (y0 = (0 : Int) ∧ (0 : Int) ≤ q2 ∧ q2 < (4294967296 : Int)) := by kernel_rfl
theorem bq76b  (y s y1 y0 u0 q r v q2 : Int) (hp : y0 = (0 : Int) ∧ (0 : Int) ≤ q2 ∧ q2 < (4294967296 : Int)) : Rq76b y s y1 y0 u0 q r v q2 := by
  unfold Rq76b
  obtain ⟨rfl, g1, g2⟩ := hp
  have h1 : ¬ (4294967296 ≤ q2) := by omega
  simp only [Int.mul_zero, M.wrapU]
  have h2 : ∀ x : Int, ¬ (x % 18446744073709551616 < 0 % 18446744073709551616) := fun x => by omega
  simp only [h1, h2]
  simp
theorem t76b  {F : Fence} (hF : FOK F) (Y : YEnv PP YS.none) : ∀ Q A H nx, loopT false Try.f76.ntmps 0 lp76b (fun A _ _ => (asI (getS A 2), asI (getS A 8), asI (getS A 9), asI (getS A 10), asI (getS A 14), asI (getS A 15), asI (getS A 16), asI (getS A 17), asI (getS A 18))) Q A H nx → WPS Y F Try.f76.ntmps 0 (.block 2 (blkAt 2 Try.f76)) Q A H nx :=
  loopW (E := []) (.nil) (O := []) (.nil) (ck := true) (L := [0,1,2,6,7,8,9,10,11,12,13,14,15,16,17,18,20,24,27,78,85,113,120]) (f := Try.f76) (m := 0) (id := 2) (l := lp76b) (LI := fun i => []) Y hF (by kernel_rfl) (fun _ => .nil) (by
    rintro ⟨y, s, y1, y0, u0, q, r, v, q2⟩ hp
    exact Hold.of (q76b y s y1 y0 u0 q r v q2) (bq76b y s y1 y0 u0 q r v q2 ((peq76b y s y1 y0 u0 q r v q2).mp hp)))
def e76 : List SV → Option (List Prop × SV)
  | [.int .u64 a, .int .u64 b, .int .u64 y] => some ([0 ≤ a, a < 1800, 0 ≤ b, b < 18446744073709551616, y = 1800], .tup [.int .u64 ((a * 18446744073709551616 + b) / 1800), .top])
  | _ => none
def Rr76 (a b y : Int) : Prop := (decide (y = (0 : Int)) = true → False) ∧ (decide (y = (0 : Int)) = false → (decide (y ≤ a) = true → False) ∧ (decide (y ≤ a) = false → (decide (a = (0 : Int)) = true → y ≠ (0 : Int) ∧ y ≠ (0 : Int) ∧ IntKind.wrap IntKind.u64 (Int.tdiv b y) = (a * (18446744073709551616 : Int) + b) / (1800 : Int) ∧ True) ∧ (decide (a = (0 : Int)) = false → y = (1800 : Int) ∧ (0 : Int) ≤ IntKind.wrap IntKind.u64 (53 : Int) ∧ (0 : Int) ≤ (32 : Int) ∧ (0 : Int) ≤ IntKind.wrap IntKind.u64 (53 : Int) ∧ (0 : Int) ≤ IntKind.wrap IntKind.u64 ((64 : Int) - IntKind.wrap IntKind.u64 (53 : Int)) ∧ (0 : Int) ≤ IntKind.wrap IntKind.u64 (53 : Int) ∧ (0 : Int) ≤ (32 : Int) ∧ Int.fdiv (IntKind.wrap IntKind.u64 (y * (2 : Int) ^ min (Int.toNat (IntKind.wrap IntKind.u64 (53 : Int))) (IntKind.bits IntKind.u64))) ((2 : Int) ^ min (Int.toNat (32 : Int)) (IntKind.bits IntKind.u64)) ≠ (0 : Int) ∧ (IntKind.wrap IntKind.u64 (↑(BitVec.toNat (BitVec.ofInt (IntKind.bits IntKind.u64) (IntKind.wrap IntKind.u64 (y * (2 : Int) ^ min (Int.toNat (IntKind.wrap IntKind.u64 (53 : Int))) (IntKind.bits IntKind.u64))) &&& BitVec.ofInt (IntKind.bits IntKind.u64) (4294967295 : Int))) : Int) = (0 : Int) ∧ (0 : Int) ≤ IntKind.wrap IntKind.u64 (Int.tdiv (IntKind.wrap IntKind.u64 (↑(BitVec.toNat (BitVec.ofInt (IntKind.bits IntKind.u64) (IntKind.wrap IntKind.u64 (a * (2 : Int) ^ min (Int.toNat (IntKind.wrap IntKind.u64 (53 : Int))) (IntKind.bits IntKind.u64))) ||| BitVec.ofInt (IntKind.bits IntKind.u64) (Int.fdiv b ((2 : Int) ^ min (Int.toNat (IntKind.wrap IntKind.u64 ((64 : Int) - IntKind.wrap IntKind.u64 (53 : Int)))) (IntKind.bits IntKind.u64))))) : Int)) (Int.fdiv (IntKind.wrap IntKind.u64 (y * (2 : Int) ^ min (Int.toNat (IntKind.wrap IntKind.u64 (53 : Int))) (IntKind.bits IntKind.u64))) ((2 : Int) ^ min (Int.toNat (32 : Int)) (IntKind.bits IntKind.u64)))) ∧ IntKind.wrap IntKind.u64 (Int.tdiv (IntKind.wrap IntKind.u64 (↑(BitVec.toNat (BitVec.ofInt (IntKind.bits IntKind.u64) (IntKind.wrap IntKind.u64 (a * (2 : Int) ^ min (Int.toNat (IntKind.wrap IntKind.u64 (53 : Int))) (IntKind.bits IntKind.u64))) ||| BitVec.ofInt (IntKind.bits IntKind.u64) (Int.fdiv b ((2 : Int) ^ min (Int.toNat (IntKind.wrap IntKind.u64 ((64 : Int) - IntKind.wrap IntKind.u64 (53 : Int)))) (IntKind.bits IntKind.u64))))) : Int)) (Int.fdiv (IntKind.wrap IntKind.u64 (y * (2 : Int) ^ min (Int.toNat (IntKind.wrap IntKind.u64 (53 : Int))) (IntKind.bits IntKind.u64))) ((2 : Int) ^ min (Int.toNat (32 : Int)) (IntKind.bits IntKind.u64)))) < (4294967296 : Int) ∧ (0 : Int) ≤ IntKind.wrap IntKind.u64 (IntKind.wrap IntKind.u64 (↑(BitVec.toNat (BitVec.ofInt (IntKind.bits IntKind.u64) (IntKind.wrap IntKind.u64 (a * (2 : Int) ^ min (Int.toNat (IntKind.wrap IntKind.u64 (53 : Int))) (IntKind.bits IntKind.u64))) ||| BitVec.ofInt (IntKind.bits IntKind.u64) (Int.fdiv b ((2 : Int) ^ min (Int.toNat (IntKind.wrap IntKind.u64 ((64 : Int) - IntKind.wrap IntKind.u64 (53 : Int)))) (IntKind.bits IntKind.u64))))) : Int) - IntKind.wrap IntKind.u64 (IntKind.wrap IntKind.u64 (Int.tdiv (IntKind.wrap IntKind.u64 (↑(BitVec.toNat (BitVec.ofInt (IntKind.bits IntKind.u64) (IntKind.wrap IntKind.u64 (a * (2 : Int) ^ min (Int.toNat (IntKind.wrap IntKind.u64 (53 : Int))) (IntKind.bits IntKind.u64))) ||| BitVec.ofInt (IntKind.bits IntKind.u64) (Int.fdiv b ((2 : Int) ^ min (Int.toNat (IntKind.wrap IntKind.u64 ((64 : Int) - IntKind.wrap IntKind.u64 (53 : Int)))) (IntKind.bits IntKind.u64))))) : Int)) (Int.fdiv (IntKind.wrap IntKind.u64 (y * (2 : Int) ^ min (Int.toNat (IntKind.wrap IntKind.u64 (53 : Int))) (IntKind.bits IntKind.u64))) ((2 : Int) ^ min (Int.toNat (32 : Int)) (IntKind.bits IntKind.u64)))) * Int.fdiv (IntKind.wrap IntKind.u64 (y * (2 : Int) ^ min (Int.toNat (IntKind.wrap IntKind.u64 (53 : Int))) (IntKind.bits IntKind.u64))) ((2 : Int) ^ min (Int.toNat (32 : Int)) (IntKind.bits IntKind.u64)))) ∧ IntKind.wrap IntKind.u64 (IntKind.wrap IntKind.u64 (↑(BitVec.toNat (BitVec.ofInt (IntKind.bits IntKind.u64) (IntKind.wrap IntKind.u64 (a * (2 : Int) ^ min (Int.toNat (IntKind.wrap IntKind.u64 (53 : Int))) (IntKind.bits IntKind.u64))) ||| BitVec.ofInt (IntKind.bits IntKind.u64) (Int.fdiv b ((2 : Int) ^ min (Int.toNat (IntKind.wrap IntKind.u64 ((64 : Int) - IntKind.wrap IntKind.u64 (53 : Int)))) (IntKind.bits IntKind.u64))))) : Int) - IntKind.wrap IntKind.u64 (IntKind.wrap IntKind.u64 (Int.tdiv (IntKind.wrap IntKind.u64 (↑(BitVec.toNat (BitVec.ofInt (IntKind.bits IntKind.u64) (IntKind.wrap IntKind.u64 (a * (2 : Int) ^ min (Int.toNat (IntKind.wrap IntKind.u64 (53 : Int))) (IntKind.bits IntKind.u64))) ||| BitVec.ofInt (IntKind.bits IntKind.u64) (Int.fdiv b ((2 : Int) ^ min (Int.toNat (IntKind.wrap IntKind.u64 ((64 : Int) - IntKind.wrap IntKind.u64 (53 : Int)))) (IntKind.bits IntKind.u64))))) : Int)) (Int.fdiv (IntKind.wrap IntKind.u64 (y * (2 : Int) ^ min (Int.toNat (IntKind.wrap IntKind.u64 (53 : Int))) (IntKind.bits IntKind.u64))) ((2 : Int) ^ min (Int.toNat (32 : Int)) (IntKind.bits IntKind.u64)))) * Int.fdiv (IntKind.wrap IntKind.u64 (y * (2 : Int) ^ min (Int.toNat (IntKind.wrap IntKind.u64 (53 : Int))) (IntKind.bits IntKind.u64))) ((2 : Int) ^ min (Int.toNat (32 : Int)) (IntKind.bits IntKind.u64)))) < (4294967296 : Int) ∧ (0 : Int) ≤ Int.fdiv (IntKind.wrap IntKind.u64 (b * (2 : Int) ^ min (Int.toNat (IntKind.wrap IntKind.u64 (53 : Int))) (IntKind.bits IntKind.u64))) ((2 : Int) ^ min (Int.toNat (32 : Int)) (IntKind.bits IntKind.u64)) ∧ Int.fdiv (IntKind.wrap IntKind.u64 (b * (2 : Int) ^ min (Int.toNat (IntKind.wrap IntKind.u64 (53 : Int))) (IntKind.bits IntKind.u64))) ((2 : Int) ^ min (Int.toNat (32 : Int)) (IntKind.bits IntKind.u64)) < (4294967296 : Int)) ∧ (IntKind.wrap IntKind.u64 (y * (2 : Int) ^ min (Int.toNat (IntKind.wrap IntKind.u64 (53 : Int))) (IntKind.bits IntKind.u64)) = IntKind.wrap IntKind.u64 (y * (2 : Int) ^ min (Int.toNat (IntKind.wrap IntKind.u64 (53 : Int))) (IntKind.bits IntKind.u64)) ∧ IntKind.wrap IntKind.u64 (53 : Int) = IntKind.wrap IntKind.u64 (53 : Int) ∧ Int.fdiv (IntKind.wrap IntKind.u64 (y * (2 : Int) ^ min (Int.toNat (IntKind.wrap IntKind.u64 (53 : Int))) (IntKind.bits IntKind.u64))) ((2 : Int) ^ min (Int.toNat (32 : Int)) (IntKind.bits IntKind.u64)) = Int.fdiv (IntKind.wrap IntKind.u64 (y * (2 : Int) ^ min (Int.toNat (IntKind.wrap IntKind.u64 (53 : Int))) (IntKind.bits IntKind.u64))) ((2 : Int) ^ min (Int.toNat (32 : Int)) (IntKind.bits IntKind.u64)) ∧ IntKind.wrap IntKind.u64 (↑(BitVec.toNat (BitVec.ofInt (IntKind.bits IntKind.u64) (IntKind.wrap IntKind.u64 (y * (2 : Int) ^ min (Int.toNat (IntKind.wrap IntKind.u64 (53 : Int))) (IntKind.bits IntKind.u64))) &&& BitVec.ofInt (IntKind.bits IntKind.u64) (4294967295 : Int))) : Int) = IntKind.wrap IntKind.u64 (↑(BitVec.toNat (BitVec.ofInt (IntKind.bits IntKind.u64) (IntKind.wrap IntKind.u64 (y * (2 : Int) ^ min (Int.toNat (IntKind.wrap IntKind.u64 (53 : Int))) (IntKind.bits IntKind.u64))) &&& BitVec.ofInt (IntKind.bits IntKind.u64) (4294967295 : Int))) : Int) ∧ IntKind.wrap IntKind.u64 (↑(BitVec.toNat (BitVec.ofInt (IntKind.bits IntKind.u64) (IntKind.wrap IntKind.u64 (a * (2 : Int) ^ min (Int.toNat (IntKind.wrap IntKind.u64 (53 : Int))) (IntKind.bits IntKind.u64))) ||| BitVec.ofInt (IntKind.bits IntKind.u64) (Int.fdiv b ((2 : Int) ^ min (Int.toNat (IntKind.wrap IntKind.u64 ((64 : Int) - IntKind.wrap IntKind.u64 (53 : Int)))) (IntKind.bits IntKind.u64))))) : Int) = IntKind.wrap IntKind.u64 (↑(BitVec.toNat (BitVec.ofInt (IntKind.bits IntKind.u64) (IntKind.wrap IntKind.u64 (a * (2 : Int) ^ min (Int.toNat (IntKind.wrap IntKind.u64 (53 : Int))) (IntKind.bits IntKind.u64))) ||| BitVec.ofInt (IntKind.bits IntKind.u64) (Int.fdiv b ((2 : Int) ^ min (Int.toNat (IntKind.wrap IntKind.u64 ((64 : Int) - IntKind.wrap IntKind.u64 (53 : Int)))) (IntKind.bits IntKind.u64))))) : Int) ∧ Int.fdiv (IntKind.wrap IntKind.u64 (b * (2 : Int) ^ min (Int.toNat (IntKind.wrap IntKind.u64 (53 : Int))) (IntKind.bits IntKind.u64))) ((2 : Int) ^ min (Int.toNat (32 : Int)) (IntKind.bits IntKind.u64)) = Int.fdiv (IntKind.wrap IntKind.u64 (b * (2 : Int) ^ min (Int.toNat (IntKind.wrap IntKind.u64 (53 : Int))) (IntKind.bits IntKind.u64))) ((2 : Int) ^ min (Int.toNat (32 : Int)) (IntKind.bits IntKind.u64)) ∧ IntKind.wrap IntKind.u64 (↑(BitVec.toNat (BitVec.ofInt (IntKind.bits IntKind.u64) (IntKind.wrap IntKind.u64 (b * (2 : Int) ^ min (Int.toNat (IntKind.wrap IntKind.u64 (53 : Int))) (IntKind.bits IntKind.u64))) &&& BitVec.ofInt (IntKind.bits IntKind.u64) (4294967295 : Int))) : Int) = IntKind.wrap IntKind.u64 (↑(BitVec.toNat (BitVec.ofInt (IntKind.bits IntKind.u64) (IntKind.wrap IntKind.u64 (b * (2 : Int) ^ min (Int.toNat (IntKind.wrap IntKind.u64 (53 : Int))) (IntKind.bits IntKind.u64))) &&& BitVec.ofInt (IntKind.bits IntKind.u64) (4294967295 : Int))) : Int) ∧ IntKind.wrap IntKind.u64 (Int.tdiv (IntKind.wrap IntKind.u64 (↑(BitVec.toNat (BitVec.ofInt (IntKind.bits IntKind.u64) (IntKind.wrap IntKind.u64 (a * (2 : Int) ^ min (Int.toNat (IntKind.wrap IntKind.u64 (53 : Int))) (IntKind.bits IntKind.u64))) ||| BitVec.ofInt (IntKind.bits IntKind.u64) (Int.fdiv b ((2 : Int) ^ min (Int.toNat (IntKind.wrap IntKind.u64 ((64 : Int) - IntKind.wrap IntKind.u64 (53 : Int)))) (IntKind.bits IntKind.u64))))) : Int)) (Int.fdiv (IntKind.wrap IntKind.u64 (y * (2 : Int) ^ min (Int.toNat (IntKind.wrap IntKind.u64 (53 : Int))) (IntKind.bits IntKind.u64))) ((2 : Int) ^ min (Int.toNat (32 : Int)) (IntKind.bits IntKind.u64)))) = IntKind.wrap IntKind.u64 (Int.tdiv (IntKind.wrap IntKind.u64 (↑(BitVec.toNat (BitVec.ofInt (IntKind.bits IntKind.u64) (IntKind.wrap IntKind.u64 (a * (2 : Int) ^ min (Int.toNat (IntKind.wrap IntKind.u64 (53 : Int))) (IntKind.bits IntKind.u64))) ||| BitVec.ofInt (IntKind.bits IntKind.u64) (Int.fdiv b ((2 : Int) ^ min (Int.toNat (IntKind.wrap IntKind.u64 ((64 : Int) - IntKind.wrap IntKind.u64 (53 : Int)))) (IntKind.bits IntKind.u64))))) : Int)) (Int.fdiv (IntKind.wrap IntKind.u64 (y * (2 : Int) ^ min (Int.toNat (IntKind.wrap IntKind.u64 (53 : Int))) (IntKind.bits IntKind.u64))) ((2 : Int) ^ min (Int.toNat (32 : Int)) (IntKind.bits IntKind.u64)))) ∧ IntKind.wrap IntKind.u64 (IntKind.wrap IntKind.u64 (↑(BitVec.toNat (BitVec.ofInt (IntKind.bits IntKind.u64) (IntKind.wrap IntKind.u64 (a * (2 : Int) ^ min (Int.toNat (IntKind.wrap IntKind.u64 (53 : Int))) (IntKind.bits IntKind.u64))) ||| BitVec.ofInt (IntKind.bits IntKind.u64) (Int.fdiv b ((2 : Int) ^ min (Int.toNat (IntKind.wrap IntKind.u64 ((64 : Int) - IntKind.wrap IntKind.u64 (53 : Int)))) (IntKind.bits IntKind.u64))))) : Int) - IntKind.wrap IntKind.u64 (IntKind.wrap IntKind.u64 (Int.tdiv (IntKind.wrap IntKind.u64 (↑(BitVec.toNat (BitVec.ofInt (IntKind.bits IntKind.u64) (IntKind.wrap IntKind.u64 (a * (2 : Int) ^ min (Int.toNat (IntKind.wrap IntKind.u64 (53 : Int))) (IntKind.bits IntKind.u64))) ||| BitVec.ofInt (IntKind.bits IntKind.u64) (Int.fdiv b ((2 : Int) ^ min (Int.toNat (IntKind.wrap IntKind.u64 ((64 : Int) - IntKind.wrap IntKind.u64 (53 : Int)))) (IntKind.bits IntKind.u64))))) : Int)) (Int.fdiv (IntKind.wrap IntKind.u64 (y * (2 : Int) ^ min (Int.toNat (IntKind.wrap IntKind.u64 (53 : Int))) (IntKind.bits IntKind.u64))) ((2 : Int) ^ min (Int.toNat (32 : Int)) (IntKind.bits IntKind.u64)))) * Int.fdiv (IntKind.wrap IntKind.u64 (y * (2 : Int) ^ min (Int.toNat (IntKind.wrap IntKind.u64 (53 : Int))) (IntKind.bits IntKind.u64))) ((2 : Int) ^ min (Int.toNat (32 : Int)) (IntKind.bits IntKind.u64)))) = IntKind.wrap IntKind.u64 (IntKind.wrap IntKind.u64 (↑(BitVec.toNat (BitVec.ofInt (IntKind.bits IntKind.u64) (IntKind.wrap IntKind.u64 (a * (2 : Int) ^ min (Int.toNat (IntKind.wrap IntKind.u64 (53 : Int))) (IntKind.bits IntKind.u64))) ||| BitVec.ofInt (IntKind.bits IntKind.u64) (Int.fdiv b ((2 : Int) ^ min (Int.toNat (IntKind.wrap IntKind.u64 ((64 : Int) - IntKind.wrap IntKind.u64 (53 : Int)))) (IntKind.bits IntKind.u64))))) : Int) - IntKind.wrap IntKind.u64 (IntKind.wrap IntKind.u64 (Int.tdiv (IntKind.wrap IntKind.u64 (↑(BitVec.toNat (BitVec.ofInt (IntKind.bits IntKind.u64) (IntKind.wrap IntKind.u64 (a * (2 : Int) ^ min (Int.toNat (IntKind.wrap IntKind.u64 (53 : Int))) (IntKind.bits IntKind.u64))) ||| BitVec.ofInt (IntKind.bits IntKind.u64) (Int.fdiv b ((2 : Int) ^ min (Int.toNat (IntKind.wrap IntKind.u64 ((64 : Int) - IntKind.wrap IntKind.u64 (53 : Int)))) (IntKind.bits IntKind.u64))))) : Int)) (Int.fdiv (IntKind.wrap IntKind.u64 (y * (2 : Int) ^ min (Int.toNat (IntKind.wrap IntKind.u64 (53 : Int))) (IntKind.bits IntKind.u64))) ((2 : Int) ^ min (Int.toNat (32 : Int)) (IntKind.bits IntKind.u64)))) * Int.fdiv (IntKind.wrap IntKind.u64 (y * (2 : Int) ^ min (Int.toNat (IntKind.wrap IntKind.u64 (53 : Int))) (IntKind.bits IntKind.u64))) ((2 : Int) ^ min (Int.toNat (32 : Int)) (IntKind.bits IntKind.u64)))) ∧ True) ∧ (false = false → Int.fdiv (IntKind.wrap IntKind.u64 (y * (2 : Int) ^ min (Int.toNat (IntKind.wrap IntKind.u64 (53 : Int))) (IntKind.bits IntKind.u64))) ((2 : Int) ^ min (Int.toNat (32 : Int)) (IntKind.bits IntKind.u64)) ≠ (0 : Int) ∧ (IntKind.wrap IntKind.u64 (↑(BitVec.toNat (BitVec.ofInt (IntKind.bits IntKind.u64) (IntKind.wrap IntKind.u64 (y * (2 : Int) ^ min (Int.toNat (IntKind.wrap IntKind.u64 (53 : Int))) (IntKind.bits IntKind.u64))) &&& BitVec.ofInt (IntKind.bits IntKind.u64) (4294967295 : Int))) : Int) = (0 : Int) ∧ (0 : Int) ≤ IntKind.wrap IntKind.u64 (Int.tdiv (IntKind.wrap IntKind.u64 (IntKind.wrap IntKind.u64 (IntKind.wrap IntKind.u64 (IntKind.wrap IntKind.u64 (↑(BitVec.toNat (BitVec.ofInt (IntKind.bits IntKind.u64) (IntKind.wrap IntKind.u64 (a * (2 : Int) ^ min (Int.toNat (IntKind.wrap IntKind.u64 (53 : Int))) (IntKind.bits IntKind.u64))) ||| BitVec.ofInt (IntKind.bits IntKind.u64) (Int.fdiv b ((2 : Int) ^ min (Int.toNat (IntKind.wrap IntKind.u64 ((64 : Int) - IntKind.wrap IntKind.u64 (53 : Int)))) (IntKind.bits IntKind.u64))))) : Int) * (4294967296 : Int)) + Int.fdiv (IntKind.wrap IntKind.u64 (b * (2 : Int) ^ min (Int.toNat (IntKind.wrap IntKind.u64 (53 : Int))) (IntKind.bits IntKind.u64))) ((2 : Int) ^ min (Int.toNat (32 : Int)) (IntKind.bits IntKind.u64))) - IntKind.wrap IntKind.u64 (IntKind.wrap IntKind.u64 (Int.tdiv (IntKind.wrap IntKind.u64 (↑(BitVec.toNat (BitVec.ofInt (IntKind.bits IntKind.u64) (IntKind.wrap IntKind.u64 (a * (2 : Int) ^ min (Int.toNat (IntKind.wrap IntKind.u64 (53 : Int))) (IntKind.bits IntKind.u64))) ||| BitVec.ofInt (IntKind.bits IntKind.u64) (Int.fdiv b ((2 : Int) ^ min (Int.toNat (IntKind.wrap IntKind.u64 ((64 : Int) - IntKind.wrap IntKind.u64 (53 : Int)))) (IntKind.bits IntKind.u64))))) : Int)) (Int.fdiv (IntKind.wrap IntKind.u64 (y * (2 : Int) ^ min (Int.toNat (IntKind.wrap IntKind.u64 (53 : Int))) (IntKind.bits IntKind.u64))) ((2 : Int) ^ min (Int.toNat (32 : Int)) (IntKind.bits IntKind.u64)))) * IntKind.wrap IntKind.u64 (y * (2 : Int) ^ min (Int.toNat (IntKind.wrap IntKind.u64 (53 : Int))) (IntKind.bits IntKind.u64))))) (Int.fdiv (IntKind.wrap IntKind.u64 (y * (2 : Int) ^ min (Int.toNat (IntKind.wrap IntKind.u64 (53 : Int))) (IntKind.bits IntKind.u64))) ((2 : Int) ^ min (Int.toNat (32 : Int)) (IntKind.bits IntKind.u64)))) ∧ IntKind.wrap IntKind.u64 (Int.tdiv (IntKind.wrap IntKind.u64 (IntKind.wrap IntKind.u64 (IntKind.wrap IntKind.u64 (IntKind.wrap IntKind.u64 (↑(BitVec.toNat (BitVec.ofInt (IntKind.bits IntKind.u64) (IntKind.wrap IntKind.u64 (a * (2 : Int) ^ min (Int.toNat (IntKind.wrap IntKind.u64 (53 : Int))) (IntKind.bits IntKind.u64))) ||| BitVec.ofInt (IntKind.bits IntKind.u64) (Int.fdiv b ((2 : Int) ^ min (Int.toNat (IntKind.wrap IntKind.u64 ((64 : Int) - IntKind.wrap IntKind.u64 (53 : Int)))) (IntKind.bits IntKind.u64))))) : Int) * (4294967296 : Int)) + Int.fdiv (IntKind.wrap IntKind.u64 (b * (2 : Int) ^ min (Int.toNat (IntKind.wrap IntKind.u64 (53 : Int))) (IntKind.bits IntKind.u64))) ((2 : Int) ^ min (Int.toNat (32 : Int)) (IntKind.bits IntKind.u64))) - IntKind.wrap IntKind.u64 (IntKind.wrap IntKind.u64 (Int.tdiv (IntKind.wrap IntKind.u64 (↑(BitVec.toNat (BitVec.ofInt (IntKind.bits IntKind.u64) (IntKind.wrap IntKind.u64 (a * (2 : Int) ^ min (Int.toNat (IntKind.wrap IntKind.u64 (53 : Int))) (IntKind.bits IntKind.u64))) ||| BitVec.ofInt (IntKind.bits IntKind.u64) (Int.fdiv b ((2 : Int) ^ min (Int.toNat (IntKind.wrap IntKind.u64 ((64 : Int) - IntKind.wrap IntKind.u64 (53 : Int)))) (IntKind.bits IntKind.u64))))) : Int)) (Int.fdiv (IntKind.wrap IntKind.u64 (y * (2 : Int) ^ min (Int.toNat (IntKind.wrap IntKind.u64 (53 : Int))) (IntKind.bits IntKind.u64))) ((2 : Int) ^ min (Int.toNat (32 : Int)) (IntKind.bits IntKind.u64)))) * IntKind.wrap IntKind.u64 (y * (2 : Int) ^ min (Int.toNat (IntKind.wrap IntKind.u64 (53 : Int))) (IntKind.bits IntKind.u64))))) (Int.fdiv (IntKind.wrap IntKind.u64 (y * (2 : Int) ^ min (Int.toNat (IntKind.wrap IntKind.u64 (53 : Int))) (IntKind.bits IntKind.u64))) ((2 : Int) ^ min (Int.toNat (32 : Int)) (IntKind.bits IntKind.u64)))) < (4294967296 : Int)) ∧ (IntKind.wrap IntKind.u64 (y * (2 : Int) ^ min (Int.toNat (IntKind.wrap IntKind.u64 (53 : Int))) (IntKind.bits IntKind.u64)) = IntKind.wrap IntKind.u64 (y * (2 : Int) ^ min (Int.toNat (IntKind.wrap IntKind.u64 (53 : Int))) (IntKind.bits IntKind.u64)) ∧ IntKind.wrap IntKind.u64 (53 : Int) = IntKind.wrap IntKind.u64 (53 : Int) ∧ Int.fdiv (IntKind.wrap IntKind.u64 (y * (2 : Int) ^ min (Int.toNat (IntKind.wrap IntKind.u64 (53 : Int))) (IntKind.bits IntKind.u64))) ((2 : Int) ^ min (Int.toNat (32 : Int)) (IntKind.bits IntKind.u64)) = Int.fdiv (IntKind.wrap IntKind.u64 (y * (2 : Int) ^ min (Int.toNat (IntKind.wrap IntKind.u64 (53 : Int))) (IntKind.bits IntKind.u64))) ((2 : Int) ^ min (Int.toNat (32 : Int)) (IntKind.bits IntKind.u64)) ∧ IntKind.wrap IntKind.u64 (↑(BitVec.toNat (BitVec.ofInt (IntKind.bits IntKind.u64) (IntKind.wrap IntKind.u64 (y * (2 : Int) ^ min (Int.toNat (IntKind.wrap IntKind.u64 (53 : Int))) (IntKind.bits IntKind.u64))) &&& BitVec.ofInt (IntKind.bits IntKind.u64) (4294967295 : Int))) : Int) = IntKind.wrap IntKind.u64 (↑(BitVec.toNat (BitVec.ofInt (IntKind.bits IntKind.u64) (IntKind.wrap IntKind.u64 (y * (2 : Int) ^ min (Int.toNat (IntKind.wrap IntKind.u64 (53 : Int))) (IntKind.bits IntKind.u64))) &&& BitVec.ofInt (IntKind.bits IntKind.u64) (4294967295 : Int))) : Int) ∧ IntKind.wrap IntKind.u64 (↑(BitVec.toNat (BitVec.ofInt (IntKind.bits IntKind.u64) (IntKind.wrap IntKind.u64 (b * (2 : Int) ^ min (Int.toNat (IntKind.wrap IntKind.u64 (53 : Int))) (IntKind.bits IntKind.u64))) &&& BitVec.ofInt (IntKind.bits IntKind.u64) (4294967295 : Int))) : Int) = IntKind.wrap IntKind.u64 (↑(BitVec.toNat (BitVec.ofInt (IntKind.bits IntKind.u64) (IntKind.wrap IntKind.u64 (b * (2 : Int) ^ min (Int.toNat (IntKind.wrap IntKind.u64 (53 : Int))) (IntKind.bits IntKind.u64))) &&& BitVec.ofInt (IntKind.bits IntKind.u64) (4294967295 : Int))) : Int) ∧ IntKind.wrap IntKind.u64 (Int.tdiv (IntKind.wrap IntKind.u64 (↑(BitVec.toNat (BitVec.ofInt (IntKind.bits IntKind.u64) (IntKind.wrap IntKind.u64 (a * (2 : Int) ^ min (Int.toNat (IntKind.wrap IntKind.u64 (53 : Int))) (IntKind.bits IntKind.u64))) ||| BitVec.ofInt (IntKind.bits IntKind.u64) (Int.fdiv b ((2 : Int) ^ min (Int.toNat (IntKind.wrap IntKind.u64 ((64 : Int) - IntKind.wrap IntKind.u64 (53 : Int)))) (IntKind.bits IntKind.u64))))) : Int)) (Int.fdiv (IntKind.wrap IntKind.u64 (y * (2 : Int) ^ min (Int.toNat (IntKind.wrap IntKind.u64 (53 : Int))) (IntKind.bits IntKind.u64))) ((2 : Int) ^ min (Int.toNat (32 : Int)) (IntKind.bits IntKind.u64)))) = IntKind.wrap IntKind.u64 (Int.tdiv (IntKind.wrap IntKind.u64 (↑(BitVec.toNat (BitVec.ofInt (IntKind.bits IntKind.u64) (IntKind.wrap IntKind.u64 (a * (2 : Int) ^ min (Int.toNat (IntKind.wrap IntKind.u64 (53 : Int))) (IntKind.bits IntKind.u64))) ||| BitVec.ofInt (IntKind.bits IntKind.u64) (Int.fdiv b ((2 : Int) ^ min (Int.toNat (IntKind.wrap IntKind.u64 ((64 : Int) - IntKind.wrap IntKind.u64 (53 : Int)))) (IntKind.bits IntKind.u64))))) : Int)) (Int.fdiv (IntKind.wrap IntKind.u64 (y * (2 : Int) ^ min (Int.toNat (IntKind.wrap IntKind.u64 (53 : Int))) (IntKind.bits IntKind.u64))) ((2 : Int) ^ min (Int.toNat (32 : Int)) (IntKind.bits IntKind.u64)))) ∧ IntKind.wrap IntKind.u64 (IntKind.wrap IntKind.u64 (IntKind.wrap IntKind.u64 (IntKind.wrap IntKind.u64 (IntKind.wrap IntKind.u64 (↑(BitVec.toNat (BitVec.ofInt (IntKind.bits IntKind.u64) (IntKind.wrap IntKind.u64 (a * (2 : Int) ^ min (Int.toNat (IntKind.wrap IntKind.u64 (53 : Int))) (IntKind.bits IntKind.u64))) ||| BitVec.ofInt (IntKind.bits IntKind.u64) (Int.fdiv b ((2 : Int) ^ min (Int.toNat (IntKind.wrap IntKind.u64 ((64 : Int) - IntKind.wrap IntKind.u64 (53 : Int)))) (IntKind.bits IntKind.u64))))) : Int) * (4294967296 : Int)) + Int.fdiv (IntKind.wrap IntKind.u64 (b * (2 : Int) ^ min (Int.toNat (IntKind.wrap IntKind.u64 (53 : Int))) (IntKind.bits IntKind.u64))) ((2 : Int) ^ min (Int.toNat (32 : Int)) (IntKind.bits IntKind.u64))) - IntKind.wrap IntKind.u64 (IntKind.wrap IntKind.u64 (Int.tdiv (IntKind.wrap IntKind.u64 (↑(BitVec.toNat (BitVec.ofInt (IntKind.bits IntKind.u64) (IntKind.wrap IntKind.u64 (a * (2 : Int) ^ min (Int.toNat (IntKind.wrap IntKind.u64 (53 : Int))) (IntKind.bits IntKind.u64))) ||| BitVec.ofInt (IntKind.bits IntKind.u64) (Int.fdiv b ((2 : Int) ^ min (Int.toNat (IntKind.wrap IntKind.u64 ((64 : Int) - IntKind.wrap IntKind.u64 (53 : Int)))) (IntKind.bits IntKind.u64))))) : Int)) (Int.fdiv (IntKind.wrap IntKind.u64 (y * (2 : Int) ^ min (Int.toNat (IntKind.wrap IntKind.u64 (53 : Int))) (IntKind.bits IntKind.u64))) ((2 : Int) ^ min (Int.toNat (32 : Int)) (IntKind.bits IntKind.u64)))) * IntKind.wrap IntKind.u64 (y * (2 : Int) ^ min (Int.toNat (IntKind.wrap IntKind.u64 (53 : Int))) (IntKind.bits IntKind.u64)))) - IntKind.wrap IntKind.u64 (IntKind.wrap IntKind.u64 (Int.tdiv (IntKind.wrap IntKind.u64 (IntKind.wrap IntKind.u64 (IntKind.wrap IntKind.u64 (IntKind.wrap IntKind.u64 (↑(BitVec.toNat (BitVec.ofInt (IntKind.bits IntKind.u64) (IntKind.wrap IntKind.u64 (a * (2 : Int) ^ min (Int.toNat (IntKind.wrap IntKind.u64 (53 : Int))) (IntKind.bits IntKind.u64))) ||| BitVec.ofInt (IntKind.bits IntKind.u64) (Int.fdiv b ((2 : Int) ^ min (Int.toNat (IntKind.wrap IntKind.u64 ((64 : Int) - IntKind.wrap IntKind.u64 (53 : Int)))) (IntKind.bits IntKind.u64))))) : Int) * (4294967296 : Int)) + Int.fdiv (IntKind.wrap IntKind.u64 (b * (2 : Int) ^ min (Int.toNat (IntKind.wrap IntKind.u64 (53 : Int))) (IntKind.bits IntKind.u64))) ((2 : Int) ^ min (Int.toNat (32 : Int)) (IntKind.bits IntKind.u64))) - IntKind.wrap IntKind.u64 (IntKind.wrap IntKind.u64 (Int.tdiv (IntKind.wrap IntKind.u64 (↑(BitVec.toNat (BitVec.ofInt (IntKind.bits IntKind.u64) (IntKind.wrap IntKind.u64 (a * (2 : Int) ^ min (Int.toNat (IntKind.wrap IntKind.u64 (53 : Int))) (IntKind.bits IntKind.u64))) ||| BitVec.ofInt (IntKind.bits IntKind.u64) (Int.fdiv b ((2 : Int) ^ min (Int.toNat (IntKind.wrap IntKind.u64 ((64 : Int) - IntKind.wrap IntKind.u64 (53 : Int)))) (IntKind.bits IntKind.u64))))) : Int)) (Int.fdiv (IntKind.wrap IntKind.u64 (y * (2 : Int) ^ min (Int.toNat (IntKind.wrap IntKind.u64 (53 : Int))) (IntKind.bits IntKind.u64))) ((2 : Int) ^ min (Int.toNat (32 : Int)) (IntKind.bits IntKind.u64)))) * IntKind.wrap IntKind.u64 (y * (2 : Int) ^ min (Int.toNat (IntKind.wrap IntKind.u64 (53 : Int))) (IntKind.bits IntKind.u64))))) (Int.fdiv (IntKind.wrap IntKind.u64 (y * (2 : Int) ^ min (Int.toNat (IntKind.wrap IntKind.u64 (53 : Int))) (IntKind.bits IntKind.u64))) ((2 : Int) ^ min (Int.toNat (32 : Int)) (IntKind.bits IntKind.u64)))) * Int.fdiv (IntKind.wrap IntKind.u64 (y * (2 : Int) ^ min (Int.toNat (IntKind.wrap IntKind.u64 (53 : Int))) (IntKind.bits IntKind.u64))) ((2 : Int) ^ min (Int.toNat (32 : Int)) (IntKind.bits IntKind.u64)))) = IntKind.wrap IntKind.u64 (IntKind.wrap IntKind.u64 (IntKind.wrap IntKind.u64 (IntKind.wrap IntKind.u64 (IntKind.wrap IntKind.u64 (↑(BitVec.toNat (BitVec.ofInt (IntKind.bits IntKind.u64) (IntKind.wrap IntKind.u64 (a * (2 : Int) ^ min (Int.toNat (IntKind.wrap IntKind.u64 (53 : Int))) (IntKind.bits IntKind.u64))) ||| BitVec.ofInt (IntKind.bits IntKind.u64) (Int.fdiv b ((2 : Int) ^ min (Int.toNat (IntKind.wrap IntKind.u64 ((64 : Int) - IntKind.wrap IntKind.u64 (53 : Int)))) (IntKind.bits IntKind.u64))))) : Int) * (4294967296 : Int)) + Int.fdiv (IntKind.wrap IntKind.u64 (b * (2 : Int) ^ min (Int.toNat (IntKind.wrap IntKind.u64 (53 : Int))) (IntKind.bits IntKind.u64))) ((2 : Int) ^ min (Int.toNat (32 : Int)) (IntKind.bits IntKind.u64))) - IntKind.wrap IntKind.u64 (IntKind.wrap IntKind.u64 (Int.tdiv (IntKind.wrap IntKind.u64 (↑(BitVec.toNat (BitVec.ofInt (IntKind.bits IntKind.u64) (IntKind.wrap IntKind.u64 (a * (2 : Int) ^ min (Int.toNat (IntKind.wrap IntKind.u64 (53 : Int))) (IntKind.bits IntKind.u64))) ||| BitVec.ofInt (IntKind.bits IntKind.u64) (Int.fdiv b ((2 : Int) ^ min (Int.toNat (IntKind.wrap IntKind.u64 ((64 : Int) - IntKind.wrap IntKind.u64 (53 : Int)))) (IntKind.bits IntKind.u64))))) : Int)) (Int.fdiv (IntKind.wrap IntKind.u64 (y * (2 : Int) ^ min (Int.toNat (IntKind.wrap IntKind.u64 (53 : Int))) (IntKind.bits IntKind.u64))) ((2 : Int) ^ min (Int.toNat (32 : Int)) (IntKind.bits IntKind.u64)))) * IntKind.wrap IntKind.u64 (y * (2 : Int) ^ min (Int.toNat (IntKind.wrap IntKind.u64 (53 : Int))) (IntKind.bits IntKind.u64)))) - IntKind.wrap IntKind.u64 (IntKind.wrap IntKind.u64 (Int.tdiv (IntKind.wrap IntKind.u64 (IntKind.wrap IntKind.u64 (IntKind.wrap IntKind.u64 (IntKind.wrap IntKind.u64 (↑(BitVec.toNat (BitVec.ofInt (IntKind.bits IntKind.u64) (IntKind.wrap IntKind.u64 (a * (2 : Int) ^ min (Int.toNat (IntKind.wrap IntKind.u64 (53 : Int))) (IntKind.bits IntKind.u64))) ||| BitVec.ofInt (IntKind.bits IntKind.u64) (Int.fdiv b ((2 : Int) ^ min (Int.toNat (IntKind.wrap IntKind.u64 ((64 : Int) - IntKind.wrap IntKind.u64 (53 : Int)))) (IntKind.bits IntKind.u64))))) : Int) * (4294967296 : Int)) + Int.fdiv (IntKind.wrap IntKind.u64 (b * (2 : Int) ^ min (Int.toNat (IntKind.wrap IntKind.u64 (53 : Int))) (IntKind.bits IntKind.u64))) ((2 : Int) ^ min (Int.toNat (32 : Int)) (IntKind.bits IntKind.u64))) - IntKind.wrap IntKind.u64 (IntKind.wrap IntKind.u64 (Int.tdiv (IntKind.wrap IntKind.u64 (↑(BitVec.toNat (BitVec.ofInt (IntKind.bits IntKind.u64) (IntKind.wrap IntKind.u64 (a * (2 : Int) ^ min (Int.toNat (IntKind.wrap IntKind.u64 (53 : Int))) (IntKind.bits IntKind.u64))) ||| BitVec.ofInt (IntKind.bits IntKind.u64) (Int.fdiv b ((2 : Int) ^ min (Int.toNat (IntKind.wrap IntKind.u64 ((64 : Int) - IntKind.wrap IntKind.u64 (53 : Int)))) (IntKind.bits IntKind.u64))))) : Int)) (Int.fdiv (IntKind.wrap IntKind.u64 (y * (2 : Int) ^ min (Int.toNat (IntKind.wrap IntKind.u64 (53 : Int))) (IntKind.bits IntKind.u64))) ((2 : Int) ^ min (Int.toNat (32 : Int)) (IntKind.bits IntKind.u64)))) * IntKind.wrap IntKind.u64 (y * (2 : Int) ^ min (Int.toNat (IntKind.wrap IntKind.u64 (53 : Int))) (IntKind.bits IntKind.u64))))) (Int.fdiv (IntKind.wrap IntKind.u64 (y * (2 : Int) ^ min (Int.toNat (IntKind.wrap IntKind.u64 (53 : Int))) (IntKind.bits IntKind.u64))) ((2 : Int) ^ min (Int.toNat (32 : Int)) (IntKind.bits IntKind.u64)))) * Int.fdiv (IntKind.wrap IntKind.u64 (y * (2 : Int) ^ min (Int.toNat (IntKind.wrap IntKind.u64 (53 : Int))) (IntKind.bits IntKind.u64))) ((2 : Int) ^ min (Int.toNat (32 : Int)) (IntKind.bits IntKind.u64)))) ∧ IntKind.wrap IntKind.u64 (IntKind.wrap IntKind.u64 (IntKind.wrap IntKind.u64 (IntKind.wrap IntKind.u64 (↑(BitVec.toNat (BitVec.ofInt (IntKind.bits IntKind.u64) (IntKind.wrap IntKind.u64 (a * (2 : Int) ^ min (Int.toNat (IntKind.wrap IntKind.u64 (53 : Int))) (IntKind.bits IntKind.u64))) ||| BitVec.ofInt (IntKind.bits IntKind.u64) (Int.fdiv b ((2 : Int) ^ min (Int.toNat (IntKind.wrap IntKind.u64 ((64 : Int) - IntKind.wrap IntKind.u64 (53 : Int)))) (IntKind.bits IntKind.u64))))) : Int) * (4294967296 : Int)) + Int.fdiv (IntKind.wrap IntKind.u64 (b * (2 : Int) ^ min (Int.toNat (IntKind.wrap IntKind.u64 (53 : Int))) (IntKind.bits IntKind.u64))) ((2 : Int) ^ min (Int.toNat (32 : Int)) (IntKind.bits IntKind.u64))) - IntKind.wrap IntKind.u64 (IntKind.wrap IntKind.u64 (Int.tdiv (IntKind.wrap IntKind.u64 (↑(BitVec.toNat (BitVec.ofInt (IntKind.bits IntKind.u64) (IntKind.wrap IntKind.u64 (a * (2 : Int) ^ min (Int.toNat (IntKind.wrap IntKind.u64 (53 : Int))) (IntKind.bits IntKind.u64))) ||| BitVec.ofInt (IntKind.bits IntKind.u64) (Int.fdiv b ((2 : Int) ^ min (Int.toNat (IntKind.wrap IntKind.u64 ((64 : Int) - IntKind.wrap IntKind.u64 (53 : Int)))) (IntKind.bits IntKind.u64))))) : Int)) (Int.fdiv (IntKind.wrap IntKind.u64 (y * (2 : Int) ^ min (Int.toNat (IntKind.wrap IntKind.u64 (53 : Int))) (IntKind.bits IntKind.u64))) ((2 : Int) ^ min (Int.toNat (32 : Int)) (IntKind.bits IntKind.u64)))) * IntKind.wrap IntKind.u64 (y * (2 : Int) ^ min (Int.toNat (IntKind.wrap IntKind.u64 (53 : Int))) (IntKind.bits IntKind.u64)))) = IntKind.wrap IntKind.u64 (IntKind.wrap IntKind.u64 (IntKind.wrap IntKind.u64 (IntKind.wrap IntKind.u64 (↑(BitVec.toNat (BitVec.ofInt (IntKind.bits IntKind.u64) (IntKind.wrap IntKind.u64 (a * (2 : Int) ^ min (Int.toNat (IntKind.wrap IntKind.u64 (53 : Int))) (IntKind.bits IntKind.u64))) ||| BitVec.ofInt (IntKind.bits IntKind.u64) (Int.fdiv b ((2 : Int) ^ min (Int.toNat (IntKind.wrap IntKind.u64 ((64 : Int) - IntKind.wrap IntKind.u64 (53 : Int)))) (IntKind.bits IntKind.u64))))) : Int) * (4294967296 : Int)) + Int.fdiv (IntKind.wrap IntKind.u64 (b * (2 : Int) ^ min (Int.toNat (IntKind.wrap IntKind.u64 (53 : Int))) (IntKind.bits IntKind.u64))) ((2 : Int) ^ min (Int.toNat (32 : Int)) (IntKind.bits IntKind.u64))) - IntKind.wrap IntKind.u64 (IntKind.wrap IntKind.u64 (Int.tdiv (IntKind.wrap IntKind.u64 (↑(BitVec.toNat (BitVec.ofInt (IntKind.bits IntKind.u64) (IntKind.wrap IntKind.u64 (a * (2 : Int) ^ min (Int.toNat (IntKind.wrap IntKind.u64 (53 : Int))) (IntKind.bits IntKind.u64))) ||| BitVec.ofInt (IntKind.bits IntKind.u64) (Int.fdiv b ((2 : Int) ^ min (Int.toNat (IntKind.wrap IntKind.u64 ((64 : Int) - IntKind.wrap IntKind.u64 (53 : Int)))) (IntKind.bits IntKind.u64))))) : Int)) (Int.fdiv (IntKind.wrap IntKind.u64 (y * (2 : Int) ^ min (Int.toNat (IntKind.wrap IntKind.u64 (53 : Int))) (IntKind.bits IntKind.u64))) ((2 : Int) ^ min (Int.toNat (32 : Int)) (IntKind.bits IntKind.u64)))) * IntKind.wrap IntKind.u64 (y * (2 : Int) ^ min (Int.toNat (IntKind.wrap IntKind.u64 (53 : Int))) (IntKind.bits IntKind.u64)))) ∧ IntKind.wrap IntKind.u64 (Int.tdiv (IntKind.wrap IntKind.u64 (IntKind.wrap IntKind.u64 (IntKind.wrap IntKind.u64 (IntKind.wrap IntKind.u64 (↑(BitVec.toNat (BitVec.ofInt (IntKind.bits IntKind.u64) (IntKind.wrap IntKind.u64 (a * (2 : Int) ^ min (Int.toNat (IntKind.wrap IntKind.u64 (53 : Int))) (IntKind.bits IntKind.u64))) ||| BitVec.ofInt (IntKind.bits IntKind.u64) (Int.fdiv b ((2 : Int) ^ min (Int.toNat (IntKind.wrap IntKind.u64 ((64 : Int) - IntKind.wrap IntKind.u64 (53 : Int)))) (IntKind.bits IntKind.u64))))) : Int) * (4294967296 : Int)) + Int.fdiv (IntKind.wrap IntKind.u64 (b * (2 : Int) ^ min (Int.toNat (IntKind.wrap IntKind.u64 (53 : Int))) (IntKind.bits IntKind.u64))) ((2 : Int) ^ min (Int.toNat (32 : Int)) (IntKind.bits IntKind.u64))) - IntKind.wrap IntKind.u64 (IntKind.wrap IntKind.u64 (Int.tdiv (IntKind.wrap IntKind.u64 (↑(BitVec.toNat (BitVec.ofInt (IntKind.bits IntKind.u64) (IntKind.wrap IntKind.u64 (a * (2 : Int) ^ min (Int.toNat (IntKind.wrap IntKind.u64 (53 : Int))) (IntKind.bits IntKind.u64))) ||| BitVec.ofInt (IntKind.bits IntKind.u64) (Int.fdiv b ((2 : Int) ^ min (Int.toNat (IntKind.wrap IntKind.u64 ((64 : Int) - IntKind.wrap IntKind.u64 (53 : Int)))) (IntKind.bits IntKind.u64))))) : Int)) (Int.fdiv (IntKind.wrap IntKind.u64 (y * (2 : Int) ^ min (Int.toNat (IntKind.wrap IntKind.u64 (53 : Int))) (IntKind.bits IntKind.u64))) ((2 : Int) ^ min (Int.toNat (32 : Int)) (IntKind.bits IntKind.u64)))) * IntKind.wrap IntKind.u64 (y * (2 : Int) ^ min (Int.toNat (IntKind.wrap IntKind.u64 (53 : Int))) (IntKind.bits IntKind.u64))))) (Int.fdiv (IntKind.wrap IntKind.u64 (y * (2 : Int) ^ min (Int.toNat (IntKind.wrap IntKind.u64 (53 : Int))) (IntKind.bits IntKind.u64))) ((2 : Int) ^ min (Int.toNat (32 : Int)) (IntKind.bits IntKind.u64)))) = IntKind.wrap IntKind.u64 (Int.tdiv (IntKind.wrap IntKind.u64 (IntKind.wrap IntKind.u64 (IntKind.wrap IntKind.u64 (IntKind.wrap IntKind.u64 (↑(BitVec.toNat (BitVec.ofInt (IntKind.bits IntKind.u64) (IntKind.wrap IntKind.u64 (a * (2 : Int) ^ min (Int.toNat (IntKind.wrap IntKind.u64 (53 : Int))) (IntKind.bits IntKind.u64))) ||| BitVec.ofInt (IntKind.bits IntKind.u64) (Int.fdiv b ((2 : Int) ^ min (Int.toNat (IntKind.wrap IntKind.u64 ((64 : Int) - IntKind.wrap IntKind.u64 (53 : Int)))) (IntKind.bits IntKind.u64))))) : Int) * (4294967296 : Int)) + Int.fdiv (IntKind.wrap IntKind.u64 (b * (2 : Int) ^ min (Int.toNat (IntKind.wrap IntKind.u64 (53 : Int))) (IntKind.bits IntKind.u64))) ((2 : Int) ^ min (Int.toNat (32 : Int)) (IntKind.bits IntKind.u64))) - IntKind.wrap IntKind.u64 (IntKind.wrap IntKind.u64 (Int.tdiv (IntKind.wrap IntKind.u64 (↑(BitVec.toNat (BitVec.ofInt (IntKind.bits IntKind.u64) (IntKind.wrap IntKind.u64 (a * (2 : Int) ^ min (Int.toNat (IntKind.wrap IntKind.u64 (53 : Int))) (IntKind.bits IntKind.u64))) ||| BitVec.ofInt (IntKind.bits IntKind.u64) (Int.fdiv b ((2 : Int) ^ min (Int.toNat (IntKind.wrap IntKind.u64 ((64 : Int) - IntKind.wrap IntKind.u64 (53 : Int)))) (IntKind.bits IntKind.u64))))) : Int)) (Int.fdiv (IntKind.wrap IntKind.u64 (y * (2 : Int) ^ min (Int.toNat (IntKind.wrap IntKind.u64 (53 : Int))) (IntKind.bits IntKind.u64))) ((2 : Int) ^ min (Int.toNat (32 : Int)) (IntKind.bits IntKind.u64)))) * IntKind.wrap IntKind.u64 (y * (2 : Int) ^ min (Int.toNat (IntKind.wrap IntKind.u64 (53 : Int))) (IntKind.bits IntKind.u64))))) (Int.fdiv (IntKind.wrap IntKind.u64 (y * (2 : Int) ^ min (Int.toNat (IntKind.wrap IntKind.u64 (53 : Int))) (IntKind.bits IntKind.u64))) ((2 : Int) ^ min (Int.toNat (32 : Int)) (IntKind.bits IntKind.u64)))) ∧ True) ∧ (false = false → (0 : Int) ≤ IntKind.wrap IntKind.u64 (53 : Int) ∧ IntKind.wrap IntKind.u64 (IntKind.wrap IntKind.u64 (IntKind.wrap IntKind.u64 (Int.tdiv (IntKind.wrap IntKind.u64 (↑(BitVec.toNat (BitVec.ofInt (IntKind.bits IntKind.u64) (IntKind.wrap IntKind.u64 (a * (2 : Int) ^ min (Int.toNat (IntKind.wrap IntKind.u64 (53 : Int))) (IntKind.bits IntKind.u64))) ||| BitVec.ofInt (IntKind.bits IntKind.u64) (Int.fdiv b ((2 : Int) ^ min (Int.toNat (IntKind.wrap IntKind.u64 ((64 : Int) - IntKind.wrap IntKind.u64 (53 : Int)))) (IntKind.bits IntKind.u64))))) : Int)) (Int.fdiv (IntKind.wrap IntKind.u64 (y * (2 : Int) ^ min (Int.toNat (IntKind.wrap IntKind.u64 (53 : Int))) (IntKind.bits IntKind.u64))) ((2 : Int) ^ min (Int.toNat (32 : Int)) (IntKind.bits IntKind.u64)))) * (4294967296 : Int)) + IntKind.wrap IntKind.u64 (Int.tdiv (IntKind.wrap IntKind.u64 (IntKind.wrap IntKind.u64 (IntKind.wrap IntKind.u64 (IntKind.wrap IntKind.u64 (↑(BitVec.toNat (BitVec.ofInt (IntKind.bits IntKind.u64) (IntKind.wrap IntKind.u64 (a * (2 : Int) ^ min (Int.toNat (IntKind.wrap IntKind.u64 (53 : Int))) (IntKind.bits IntKind.u64))) ||| BitVec.ofInt (IntKind.bits IntKind.u64) (Int.fdiv b ((2 : Int) ^ min (Int.toNat (IntKind.wrap IntKind.u64 ((64 : Int) - IntKind.wrap IntKind.u64 (53 : Int)))) (IntKind.bits IntKind.u64))))) : Int) * (4294967296 : Int)) + Int.fdiv (IntKind.wrap IntKind.u64 (b * (2 : Int) ^ min (Int.toNat (IntKind.wrap IntKind.u64 (53 : Int))) (IntKind.bits IntKind.u64))) ((2 : Int) ^ min (Int.toNat (32 : Int)) (IntKind.bits IntKind.u64))) - IntKind.wrap IntKind.u64 (IntKind.wrap IntKind.u64 (Int.tdiv (IntKind.wrap IntKind.u64 (↑(BitVec.toNat (BitVec.ofInt (IntKind.bits IntKind.u64) (IntKind.wrap IntKind.u64 (a * (2 : Int) ^ min (Int.toNat (IntKind.wrap IntKind.u64 (53 : Int))) (IntKind.bits IntKind.u64))) ||| BitVec.ofInt (IntKind.bits IntKind.u64) (Int.fdiv b ((2 : Int) ^ min (Int.toNat (IntKind.wrap IntKind.u64 ((64 : Int) - IntKind.wrap IntKind.u64 (53 : Int)))) (IntKind.bits IntKind.u64))))) : Int)) (Int.fdiv (IntKind.wrap IntKind.u64 (y * (2 : Int) ^ min (Int.toNat (IntKind.wrap IntKind.u64 (53 : Int))) (IntKind.bits IntKind.u64))) ((2 : Int) ^ min (Int.toNat (32 : Int)) (IntKind.bits IntKind.u64)))) * IntKind.wrap IntKind.u64 (y * (2 : Int) ^ min (Int.toNat (IntKind.wrap IntKind.u64 (53 : Int))) (IntKind.bits IntKind.u64))))) (Int.fdiv (IntKind.wrap IntKind.u64 (y * (2 : Int) ^ min (Int.toNat (IntKind.wrap IntKind.u64 (53 : Int))) (IntKind.bits IntKind.u64))) ((2 : Int) ^ min (Int.toNat (32 : Int)) (IntKind.bits IntKind.u64))))) = (a * (18446744073709551616 : Int) + b) / (1800 : Int) ∧ True) ∧ (false = true → False)) ∧ (false = true → False))))
theorem r76 (a b y : Int) : V true [] [(77, pureE e77)] Try.f76 [0,1,2,6,7,8,9,10,11,12,13,14,15,16,17,18,20,24,27,78,85,113,120] [(0, loopT false Try.f76.ntmps 0 lp76a (fun A _ _ => (asI (getS A 2), asI (getS A 8), asI (getS A 9), asI (getS A 10), asI (getS A 11), asI (getS A 13), asI (getS A 14), asI (getS A 15), asI (getS A 16)))), (2, loopT false Try.f76.ntmps 0 lp76b (fun A _ _ => (asI (getS A 2), asI (getS A 8), asI (getS A 9), asI (getS A 10), asI (getS A 14), asI (getS A 15), asI (getS A 16), asI (getS A 17), asI (getS A 18))))] [.int .u64 a, .int .u64 b, .int .u64 y] (.tup [.int .u64 ((a * 18446744073709551616 + b) / 1800), .top]) = Rr76 a b y := by kernel_rfl
theorem br76 (a b y : Int) (hp : (0 ≤ a) ∧ (a < 1800) ∧ (0 ≤ b) ∧ (b < 18446744073709551616) ∧ (y = 1800) ∧ AllP []) : Rr76 a b y := by
  unfold Rr76
  obtain ⟨a1, a2, b1, b2, rfl, -⟩ := hp
  have w53 : IntKind.wrap .u64 53 = 53 := rfl
  simp only [w53]
  have k1 : IntKind.wrap .u64 (1800 * 9007199254740992) = 16212958658533785600 := rfl
  have k2 : (16212958658533785600 : Int) / 4294967296 = 3774873600 := rfl
  have k3 : IntKind.wrap .u64 (((BitVec.ofInt (IntKind.bits .u64) 16212958658533785600 &&& BitVec.ofInt (IntKind.bits .u64) 4294967295).toNat : Nat) : Int) = 0 := rfl
  have k4 : (2 : Int) ^ min (Int.toNat (IntKind.wrap .u64 (64 - 53))) (IntKind.bits .u64) = 2048 := rfl
  have k5 : (2 : Int) ^ min (Int.toNat 53) (IntKind.bits .u64) = 9007199254740992 := rfl
  simp only [k1, k2, k3, k4, k5, sh32, fdiv_lit (show (0 : Int) < 2048 by omega), fdiv_lit (show (0 : Int) < 4294967296 by omega)]
  have k6 : IntKind.wrap .u64 (a * 9007199254740992) = a * 9007199254740992 := M.wrapU_in (by omega) (by omega)
  have k7 := M.orU (a := a) (b := b / 2048) 53 (by omega) a1 (by simp only [Int.reducePow]; omega) (by omega) (by simp only [Int.reducePow]; omega)
  simp only [Int.reducePow] at k7
  have k8 : IntKind.wrap .u64 (b * 9007199254740992) = b % 2048 * 9007199254740992 := by rw [M.wrapU]; omega
  have k9 : IntKind.wrap .u64 (((BitVec.ofInt (IntKind.bits .u64) (b % 2048 * 9007199254740992) &&& BitVec.ofInt (IntKind.bits .u64) 4294967295).toNat : Nat) : Int) = 0 := by rw [M.andU (by omega) (by omega)]; omega
  have k10 : b % 2048 * 9007199254740992 / 4294967296 = b % 2048 * 2097152 := by omega
  simp only [k6, k7, k8, k9, k10]
  obtain ⟨u, hu⟩ : ∃ u, u = a * 9007199254740992 + b / 2048 := ⟨_, rfl⟩
  obtain ⟨d, hd⟩ : ∃ d, d = b % 2048 := ⟨_, rfl⟩
  simp only [← hu, ← hd]
  have hub : 0 ≤ u ∧ u < 16212958658533785600 := by omega
  have hdb : 0 ≤ d ∧ d < 2048 := by omega
  have hab : a * 18446744073709551616 + b = u * 2048 + d := by omega
  obtain ⟨q, hq⟩ : ∃ q, q = u / 3774873600 := ⟨_, rfl⟩
  obtain ⟨r, hr⟩ : ∃ r, r = u % 3774873600 := ⟨_, rfl⟩
  have hqr : u = q * 3774873600 + r ∧ 0 ≤ r ∧ r < 3774873600 ∧ 0 ≤ q ∧ q < 4294967296 := by omega
  have e1 : IntKind.wrap .u64 (Int.tdiv u 3774873600) = q := by
    rw [Int.tdiv_eq_ediv_of_nonneg hub.1, ← hq]; exact M.wrapU_in (by omega) (by omega)
  clear hq hr hu hd
  obtain ⟨rfl, r1, r2, q1, q2⟩ := hqr
  have e2 : IntKind.wrap .u64 (q * 3774873600 + r - IntKind.wrap .u64 (q * 3774873600)) = r := by
    rw [M.wrapU, M.wrapU]; omega
  have e3 : IntKind.wrap .u64 (IntKind.wrap .u64 (IntKind.wrap .u64 ((q * 3774873600 + r) * 4294967296) + d * 2097152) - IntKind.wrap .u64 (q * 16212958658533785600)) = r * 4294967296 + d * 2097152 := by
    simp only [M.wrapU]; omega
  simp only [e1, e2, e3]
  obtain ⟨v, hv⟩ : ∃ v, v = r * 4294967296 + d * 2097152 := ⟨_, rfl⟩
  simp only [← hv]
  obtain ⟨g, hg⟩ : ∃ g, g = v / 3774873600 := ⟨_, rfl⟩
  have hvb : 0 ≤ v ∧ v < 16212958658533785600 := by omega
  have hgb : 0 ≤ g ∧ g < 4294967296 := by omega
  have e4 : IntKind.wrap .u64 (Int.tdiv v 3774873600) = g := by
    rw [Int.tdiv_eq_ediv_of_nonneg hvb.1, ← hg]; exact M.wrapU_in (by omega) (by omega)
  have e5 : IntKind.wrap .u64 (IntKind.wrap .u64 (q * 4294967296) + g) = (a * 18446744073709551616 + b) / 1800 := by
    rw [hab]; simp only [M.wrapU]; omega
  simp only [e4, e5]
  have e6 : IntKind.wrap .u64 (Int.tdiv b 1800) = b / 1800 := by
    rw [Int.tdiv_eq_ediv_of_nonneg b1]; exact M.wrapU_in (by omega) (by omega)
  have h1 : ¬ ((1800 : Int) ≤ a) := by omega
  simp [h1, e6, q1, q2, r1]
  have w11 : IntKind.wrap .u64 11 = 11 := rfl
  rw [w11]
  refine ⟨fun e => by subst e; simp, fun _ => ?_⟩
  omega
theorem s76 : PureOK PP 76 e76 := by
  intro xs ps res h hp
  unfold e76 at h
  split at h
  · rename_i a b y
    simp only [Option.some.injEq, Prod.mk.injEq] at h
    obtain ⟨rfl, rfl⟩ := h
    simp only [AllP.cons] at hp
    refine enter (L := [0,1,2,6,7,8,9,10,11,12,13,14,15,16,17,18,20,24,27,78,85,113,120]) (LO := [(0, loopT false Try.f76.ntmps 0 lp76a (fun A _ _ => (asI (getS A 2), asI (getS A 8), asI (getS A 9), asI (getS A 10), asI (getS A 11), asI (getS A 13), asI (getS A 14), asI (getS A 15), asI (getS A 16)))), (2, loopT false Try.f76.ntmps 0 lp76b (fun A _ _ => (asI (getS A 2), asI (getS A 8), asI (getS A 9), asI (getS A 10), asI (getS A 14), asI (getS A 15), asI (getS A 16), asI (getS A 17), asI (getS A 18))))]) (E := []) (O := [(77, pureE e77)]) (ck := true) (.nil) (.cons (pureE_ok s77) (.nil)) (k := 76) (f := Try.f76) (xs := [.int .u64 a, .int .u64 b, .int .u64 y]) (r := (.tup [.int .u64 ((a * 18446744073709551616 + b) / 1800), .top])) (by kernel_rfl) (by kernel_rfl) (fun Y => .cons (by kernel_rfl) (t76a  FOK.wide Y) (.cons (by kernel_rfl) (t76b  FOK.wide Y) (.nil))) ?_
    exact Hold.of (r76 a b y) (br76 a b y hp)
  · cases h
def e71 : List SV → Option (List Prop × SV)
  | [.int .i64 a] => some ([0 ≤ a, a ≤ 900], .int .u64 (M.rad a))
  | _ => none
def Rr71 (a : Int) : Prop := (0 : Int) ≤ (14488038916154245684 : Int) ∧ (14488038916154245684 : Int) < (18446744073709551616 : Int) ∧ (0 : Int) ≤ IntKind.wrap IntKind.u64 a ∧ IntKind.wrap IntKind.u64 a < (18446744073709551616 : Int) ∧ (0 : Int) ≤ (14488038916154245684 : Int) * IntKind.wrap IntKind.u64 a / (18446744073709551616 : Int) ∧ (14488038916154245684 : Int) * IntKind.wrap IntKind.u64 a / (18446744073709551616 : Int) < (1800 : Int) ∧ (0 : Int) ≤ (14488038916154245684 : Int) * IntKind.wrap IntKind.u64 a % (18446744073709551616 : Int) ∧ (14488038916154245684 : Int) * IntKind.wrap IntKind.u64 a % (18446744073709551616 : Int) < (18446744073709551616 : Int) ∧ (1800 : Int) = (1800 : Int) ∧ ((14488038916154245684 : Int) * IntKind.wrap IntKind.u64 a / (18446744073709551616 : Int) * (18446744073709551616 : Int) + (14488038916154245684 : Int) * IntKind.wrap IntKind.u64 a % (18446744073709551616 : Int)) / (1800 : Int) = M.rad a
theorem r71 (a : Int) : V true [] [(75, pureE e75), (76, pureE e76)] Try.f71 [0,2,3,4,5] [] [SI a] (.int .u64 (M.rad a)) = Rr71 a := by kernel_rfl
theorem br71 (a : Int) (hp : (0 ≤ a) ∧ (a ≤ 900) ∧ AllP []) : Rr71 a := by
  unfold Rr71
  obtain ⟨a1, a2, -⟩ := hp
  have w : IntKind.wrap .u64 a = a := M.wrapU_in a1 (by omega)
  simp only [w, M.rad]
  repeat' apply And.intro
  have ep : 14488038916154245684 * a / 18446744073709551616 * 18446744073709551616 + 14488038916154245684 * a % 18446744073709551616 = 14488038916154245684 * a := by omega
  all_goals first | omega | trivial | (rw [ep]) | rfl
theorem s71 : PureOK PP 71 e71 := by
  intro xs ps res h hp
  unfold e71 at h
  split at h
  · rename_i a
    simp only [Option.some.injEq, Prod.mk.injEq] at h
    obtain ⟨rfl, rfl⟩ := h
    simp only [AllP.cons] at hp
    refine enter (L := [0,2,3,4,5]) (LO := []) (E := []) (O := [(75, pureE e75), (76, pureE e76)]) (ck := true) (.nil) (.cons (pureE_ok s75) (.cons (pureE_ok s76) (.nil))) (k := 71) (f := Try.f71) (xs := [SI a]) (r := (.int .u64 (M.rad a))) (by kernel_rfl) (by kernel_rfl) (fun _ => .nil) ?_
    exact Hold.of (r71 a) (br71 a hp)
  · cases h
def e74 : EntB
  | [.ptr 0 0, .ptr 1 0, .ptr 2 0], [.cells [.int .u64 t], .cells [.int .u64 s], .cells [.int .u64 n]] => some ([0 ≤ t, t ≤ 4611686018427387904, 0 ≤ s, s ≤ 4611686018427387904, 0 ≤ n, n ≤ 1000], .int .u64 t, [.cells [.int .u64 (M.nxt t s n)], .cells [.int .u64 s], .cells [.int .u64 (n + 2)]])
  | _, _ => none
def Rr74 (t s n : Int) : Prop := (0 : Int) ≤ t ∧ t < (18446744073709551616 : Int) ∧ (0 : Int) ≤ s ∧ s < (18446744073709551616 : Int) ∧ IntKind.wrap IntKind.u64 (IntKind.wrap IntKind.u64 (n + (1 : Int)) * IntKind.wrap IntKind.u64 (n + (2 : Int))) ≠ (0 : Int) ∧ IntKind.wrap IntKind.u64 (Int.tdiv (M.tm t s) (IntKind.wrap IntKind.u64 (IntKind.wrap IntKind.u64 (n + (1 : Int)) * IntKind.wrap IntKind.u64 (n + (2 : Int))))) = M.nxt t s n ∧ s = s ∧ IntKind.wrap IntKind.u64 (n + (2 : Int)) = n + (2 : Int) ∧ t = t
theorem r74 (t s n : Int) : VB true [] [(73, pureE e73)] Try.f74 [0,1,2,3,4] [] [.ptr 0 0, .ptr 1 0, .ptr 2 0] [.cells [.int .u64 t], .cells [.int .u64 s], .cells [.int .u64 n]] (.int .u64 t) [.cells [.int .u64 (M.nxt t s n)], .cells [.int .u64 s], .cells [.int .u64 (n + 2)]] = Rr74 t s n := by kernel_rfl
theorem br74 (t s n : Int) (hp : (0 ≤ t) ∧ (t ≤ 4611686018427387904) ∧ (0 ≤ s) ∧ (s ≤ 4611686018427387904) ∧ (0 ≤ n) ∧ (n ≤ 1000) ∧ AllP []) : Rr74 t s n := by
  unfold Rr74
  obtain ⟨t1, t2, s1, s2, n1, n2, -⟩ := hp
  obtain ⟨m1, m2⟩ := M.tm_le t1 t2 s1 s2
  obtain ⟨x1, x2⟩ := M.nxt_le (n := n) t1 t2 s1 s2 n1
  have d1 := prod_bd (a := n + 1) (b := n + 2) (m := 1001) (n := 1002) (by omega) (by omega) (by omega) (by omega)
  have d2 : 1 * 2 ≤ (n + 1) * (n + 2) := Int.mul_le_mul (by omega) (by omega) (by omega) (by omega)
  have w1 : IntKind.wrap .u64 (n + 1) = n + 1 := M.wrapU_in (by omega) (by omega)
  have w2 : IntKind.wrap .u64 (n + 2) = n + 2 := M.wrapU_in (by omega) (by omega)
  have w3 : IntKind.wrap .u64 ((n + 1) * (n + 2)) = (n + 1) * (n + 2) := M.wrapU_in (by omega) (by omega)
  have w4 : IntKind.wrap .u64 (Int.tdiv (M.tm t s) ((n + 1) * (n + 2))) = M.nxt t s n := by
    rw [Int.tdiv_eq_ediv_of_nonneg m1, show M.tm t s / ((n + 1) * (n + 2)) = M.nxt t s n from rfl]
    exact M.wrapU_in x1 (by omega)
  simp only [w1, w2, w3, w4]
  repeat' apply And.intro
  all_goals first | omega | trivial | rfl
theorem s74 : SpecOK PP 74 e74 := by
  intro xs Hs ps res Hs1 h hp
  unfold e74 at h
  split at h
  · rename_i t s n
    simp only [Option.some.injEq, Prod.mk.injEq] at h
    obtain ⟨rfl, rfl, rfl⟩ := h
    simp only [AllP.cons] at hp
    refine enterB (L := [0,1,2,3,4]) (LO := []) (E := []) (O := [(73, pureE e73)]) (ck := true) (.nil) (.cons (pureE_ok s73) (.nil)) (k := 74) (f := Try.f74) (xs := [.ptr 0 0, .ptr 1 0, .ptr 2 0]) (Hs := [.cells [.int .u64 t], .cells [.int .u64 s], .cells [.int .u64 n]]) (Hs' := [.cells [.int .u64 (M.nxt t s n)], .cells [.int .u64 s], .cells [.int .u64 (n + 2)]]) (r := (.int .u64 t)) (by kernel_rfl) (by kernel_rfl) rfl (fun _ => .nil) ?_
    exact Hold.of (r74 t s n) (br74 t s n hp)
  · cases h
def e70 : EntB
  | [.int .u64 x, .int .u64 f, .int .u64 n], [] => some ([0 ≤ x, x ≤ 4611686018427387904], .fn 74 [] [.ptr 0 0, .ptr 1 0, .ptr 2 0], [.cells [.int .u64 f], .cells [.int .u64 (M.tm x x)], .cells [.int .u64 n]])
  | _, _ => none
def Rr70 (x f n : Int) : Prop := (0 : Int) ≤ x ∧ x < (18446744073709551616 : Int) ∧ (0 : Int) ≤ x ∧ x < (18446744073709551616 : Int) ∧ f = f ∧ M.tm x x = M.tm x x ∧ n = n ∧ True
theorem r70 (x f n : Int) : VN true [] [(73, pureE e73)] Try.f70 [0,1,2,5,6,7,8] [] [.int .u64 x, .int .u64 f, .int .u64 n] [] (.fn 74 [] [.ptr 0 0, .ptr 1 0, .ptr 2 0]) [.cells [.int .u64 f], .cells [.int .u64 (M.tm x x)], .cells [.int .u64 n]] = Rr70 x f n := by kernel_rfl
theorem br70 (x f n : Int) (hp : (0 ≤ x) ∧ (x ≤ 4611686018427387904) ∧ AllP []) : Rr70 x f n := by
  unfold Rr70
  obtain ⟨x1, x2, -⟩ := hp
  repeat' apply And.intro
  all_goals first | omega | rfl | exact True.intro
theorem s70 : SpecOK PP 70 e70 := by
  intro xs Hs ps res Hs1 h hp
  unfold e70 at h
  split at h
  · rename_i x f n
    simp only [Option.some.injEq, Prod.mk.injEq] at h
    obtain ⟨rfl, rfl, rfl⟩ := h
    simp only [AllP.cons] at hp
    refine enterN (L := [0,1,2,5,6,7,8]) (LO := []) (E := []) (O := [(73, pureE e73)]) (ck := true) (.nil) (.cons (pureE_ok s73) (.nil)) (k := 70) (f := Try.f70) (xs := [.int .u64 x, .int .u64 f, .int .u64 n]) (Hs := []) (Hs' := [.cells [.int .u64 f], .cells [.int .u64 (M.tm x x)], .cells [.int .u64 n]]) (r := (.fn 74 [] [.ptr 0 0, .ptr 1 0, .ptr 2 0])) (by kernel_rfl) (by kernel_rfl) rfl (fun _ => .nil) ?_
    exact Hold.of (r70 x f n) (br70 x f n hp)
  · cases h
def lp69 (t s n : Int) : LoopS where
  ι := Nat
  β := Unit
  pre k := k ≤ M.K t s n ∧ (0 ≤ t ∧ t ≤ 4611686018427387904 ∧ 0 ≤ s ∧ s ≤ 4611686018427387904 ∧ 0 ≤ n ∧ n ≤ 1)
  μ k := M.K t s n - k
  next k _ _ _ := k + 1
  out _ := ()
  early _ := true
  SA k := [(0, .fn 74 [] [.ptr 0 0, .ptr 1 0, .ptr 2 0]), (3, .ptr 3 0), (4, SI k)]
  SH k := [(0, .cells [.int .u64 (M.tk t s n k)]), (1, .cells [.int .u64 s]), (2, .cells [.int .u64 (n + 2 * k)]), (3, .row 1 2 (fun j => [.int .u64 (M.sm t s n j k)]))]
  n0 := 4
  NA _ := []
  NH _ := []
  n1 := 4
  RA _ := [(2, .int .u64 (M.sumV t s n))]
  RH _ := [(0, .cells [.int .u64 (M.tk t s n (M.K t s n + 1))]), (1, .cells [.int .u64 s]), (2, .cells [.int .u64 (n + 2 * ((M.K t s n + 1 : Nat) : Int))])]
def Rq69 (t s n : Int) (k : Nat) : Prop := (0 : Int) ≤ M.tk t s n k ∧ M.tk t s n k ≤ (4611686018427387904 : Int) ∧ (0 : Int) ≤ s ∧ s ≤ (4611686018427387904 : Int) ∧ (0 : Int) ≤ n + (2 : Int) * (↑k : Int) ∧ n + (2 : Int) * (↑k : Int) ≤ (1000 : Int) ∧ (decide (M.tk t s n k = (0 : Int)) = true → (0 : Int) ≤ (0 : Int) ∧ (0 : Int) < (↑(2 : Nat) : Int) ∧ Int.toNat (0 : Int) < (2 : Nat) ∧ (0 : Int) ≤ (1 : Int) ∧ (1 : Int) < (↑(2 : Nat) : Int) ∧ Int.toNat (1 : Int) < (2 : Nat) ∧ true = true ∧ IntKind.wrap IntKind.u64 (M.sm t s n (Int.toNat (0 : Int)) k - M.sm t s n (Int.toNat (1 : Int)) k) = M.sumV t s n ∧ M.nxt (M.tk t s n k) s (n + (2 : Int) * (↑k : Int)) = M.tk t s n (M.K t s n + (1 : Nat)) ∧ s = s ∧ n + (2 : Int) * (↑k : Int) + (2 : Int) = n + (2 : Int) * (↑(M.K t s n + (1 : Nat)) : Int) ∧ True) ∧ (decide (M.tk t s n k = (0 : Int)) = false → (2 : Int) ≠ (0 : Int) ∧ (0 : Int) ≤ Int.tmod (↑k : Int) (2 : Int) ∧ Int.tmod (↑k : Int) (2 : Int) < (↑(2 : Nat) : Int) ∧ Int.toNat (Int.tmod (↑k : Int) (2 : Int)) < (2 : Nat) ∧ (0 : Int) ≤ Int.tmod (↑k : Int) (2 : Int) ∧ Int.tmod (↑k : Int) (2 : Int) < (↑(2 : Nat) : Int) ∧ Int.toNat (Int.tmod (↑k : Int) (2 : Int)) < (2 : Nat) ∧ R64 ((↑k : Int) + (1 : Int)) ∧ (k + (1 : Nat) ≤ M.K t s n ∧ (0 : Int) ≤ t ∧ t ≤ (4611686018427387904 : Int) ∧ (0 : Int) ≤ s ∧ s ≤ (4611686018427387904 : Int) ∧ (0 : Int) ≤ n ∧ n ≤ (1 : Int)) ∧ M.K t s n - (k + (1 : Nat)) < M.K t s n - k ∧ () = () ∧ (↑k : Int) + (1 : Int) = (↑(k + (1 : Nat)) : Int) ∧ M.nxt (M.tk t s n k) s (n + (2 : Int) * (↑k : Int)) = M.tk t s n (k + (1 : Nat)) ∧ s = s ∧ n + (2 : Int) * (↑k : Int) + (2 : Int) = n + (2 : Int) * (↑(k + (1 : Nat)) : Int) ∧ (2 : Nat) ≤ (2 : Nat) ∧ (∀ (k_1 : Nat), k_1 < (2 : Nat) → (bif decide (k_1 = Int.toNat (Int.tmod (↑k : Int) (2 : Int))) then IntKind.wrap IntKind.u64 (M.sm t s n (Int.toNat (Int.tmod (↑k : Int) (2 : Int))) k + M.tk t s n k) else M.sm t s n k_1 k) = M.sm t s n k_1 (k + (1 : Nat))) ∧ True)
theorem q69 (t s n : Int) (k : Nat) : VL true [] [(74, specE e74)] YS.none Try.f69 3 [0,2,3,4,5,11] [] 0 (lp69 t s n) (k) = Rq69 t s n k := by kernel_rfl
theorem peq69 (t s n : Int) (k : Nat) : (lp69 t s n).pre (k) = (k ≤ M.K t s n ∧ (0 : Int) ≤ t ∧ t ≤ (4611686018427387904 : Int) ∧ (0 : Int) ≤ s ∧ s ≤ (4611686018427387904 : Int) ∧ (0 : Int) ≤ n ∧ n ≤ (1 : Int)) := by kernel_rfl
theorem bq69 (t s n : Int) (k : Nat) (hp : k ≤ M.K t s n ∧ (0 : Int) ≤ t ∧ t ≤ (4611686018427387904 : Int) ∧ (0 : Int) ≤ s ∧ s ≤ (4611686018427387904 : Int) ∧ (0 : Int) ≤ n ∧ n ≤ (1 : Int)) : Rq69 t s n k := by
  unfold Rq69
  obtain ⟨hk, t1, t2, s1, s2, n1, n2⟩ := id hp
  obtain ⟨K1, K2, K3⟩ := M.K_spec t1 t2 s1 s2 n1
  obtain ⟨y1, y2, y3⟩ := M.tk_le t1 t2 s1 s2 n1 k
  have em : Int.tmod (k : Int) 2 = ((k % 2 : Nat) : Int) := by rw [Int.tmod_eq_emod_of_nonneg (by omega)]; omega
  have eK : M.tk t s n k = 0 → k = M.K t s n := fun h => by
    rcases Nat.lt_or_ge k (M.K t s n) with h1 | h1
    · exact absurd h (K3 k h1)
    · omega
  have eN : M.tk t s n k ≠ 0 → k + 1 ≤ M.K t s n := fun h => by
    rcases Nat.lt_or_ge k (M.K t s n) with h1 | h1
    · omega
    · have : k = M.K t s n := by omega
      rw [this] at h
      exact absurd K2 h
  have rows : ∀ j, j < 2 → (bif decide (j = k % 2) then IntKind.wrap .u64 (M.sm t s n (k % 2) k + M.tk t s n k) else M.sm t s n j k) = M.sm t s n j (k + 1) := fun j _ => by
    simp only [M.sm]
    by_cases e : k % 2 = j
    · subst e; simp [M.wrapU]
    · have e' : ¬ j = k % 2 := fun h => e h.symm
      simp [e, e']
  have sV : M.sumV t s n = IntKind.wrap .u64 (M.sm t s n 0 (M.K t s n) - M.sm t s n 1 (M.K t s n)) := by rw [M.wrapU]; rfl
  simp only [em, Int.toNat_natCast]
  refine ⟨y1, y3, s1, s2, by omega, by omega, ?_⟩
  unfold R64
  by_cases h0 : M.tk t s n k = 0
  · have e := eK h0
    subst e
    simp [K2, sV]
    refine ⟨?_, by omega⟩
    simp only [M.tk, K2]
  · have hN := eN h0
    simp [h0]
    repeat' apply And.intro
    all_goals first | omega | rfl | exact rows
theorem t69 (t s n : Int) {F : Fence} (hF : FOK F) (Y : YEnv PP YS.none) : ∀ Q A H nx, loopT false Try.f69.ntmps 3 (lp69 t s n) (fun _ _ _ => (0 : Nat)) Q A H nx → WPS Y F Try.f69.ntmps 3 (.block 0 (blkAt 0 Try.f69)) Q A H nx :=
  loopW (E := []) (.nil) (O := [(74, specE e74)]) (.cons (specE_ok s74) (.nil)) (ck := true) (L := [0,2,3,4,5,11]) (f := Try.f69) (m := 3) (id := 0) (l := (lp69 t s n)) (LI := fun i => []) Y hF (by kernel_rfl) (fun _ => .nil) (by
    rintro k hp
    exact Hold.of (q69 t s n k) (bq69 t s n k ((peq69 t s n k).mp hp)))
def e69 : EntB
  | [.fn 74 [] [.ptr 0 0, .ptr 1 0, .ptr 2 0]], [.cells [.int .u64 t], .cells [.int .u64 s], .cells [.int .u64 n]] => some ([0 ≤ t, t ≤ 4611686018427387904, 0 ≤ s, s ≤ 4611686018427387904, 0 ≤ n, n ≤ 1], .int .u64 (M.sumV t s n), [.cells [.int .u64 (M.tk t s n (M.K t s n + 1))], .cells [.int .u64 s], .cells [.int .u64 (n + 2 * ((M.K t s n + 1 : Nat) : Int))]])
  | _, _ => none
def Rr69 (t s n : Int) : Prop := ((0 : Nat) ≤ M.K t s n ∧ (0 : Int) ≤ t ∧ t ≤ (4611686018427387904 : Int) ∧ (0 : Int) ≤ s ∧ s ≤ (4611686018427387904 : Int) ∧ (0 : Int) ≤ n ∧ n ≤ (1 : Int)) ∧ ((0 : Int) = (↑(0 : Nat) : Int) ∧ t = M.tk t s n (0 : Nat) ∧ s = s ∧ n = n + (2 : Int) * (↑(0 : Nat) : Int) ∧ (0 : Int) = M.sm t s n (0 : Nat) (0 : Nat) ∧ (0 : Int) = M.sm t s n ((0 : Nat) + (1 : Nat)) (0 : Nat) ∧ True) ∧ (true = false → False) ∧ (true = true → M.tk t s n (M.K t s n + (1 : Nat)) = M.tk t s n (M.K t s n + (1 : Nat)) ∧ s = s ∧ n + (2 : Int) * (↑(M.K t s n + (1 : Nat)) : Int) = n + (2 : Int) * (↑(M.K t s n + (1 : Nat)) : Int) ∧ M.sumV t s n = M.sumV t s n)
theorem r69 (t s n : Int) : VB true [] [] Try.f69 [0,2,3,4,5,11] [(0, loopT false Try.f69.ntmps 3 (lp69 t s n) (fun _ _ _ => (0 : Nat)))] [.fn 74 [] [.ptr 0 0, .ptr 1 0, .ptr 2 0]] [.cells [.int .u64 t], .cells [.int .u64 s], .cells [.int .u64 n]] (.int .u64 (M.sumV t s n)) [.cells [.int .u64 (M.tk t s n (M.K t s n + 1))], .cells [.int .u64 s], .cells [.int .u64 (n + 2 * ((M.K t s n + 1 : Nat) : Int))]] = Rr69 t s n := by kernel_rfl
theorem br69 (t s n : Int) (hp : (0 ≤ t) ∧ (t ≤ 4611686018427387904) ∧ (0 ≤ s) ∧ (s ≤ 4611686018427387904) ∧ (0 ≤ n) ∧ (n ≤ 1) ∧ AllP []) : Rr69 t s n := by
  unfold Rr69
  obtain ⟨t1, t2, s1, s2, n1, n2, -⟩ := hp
  repeat' (first | apply And.intro | intro _)
  all_goals first | omega | rfl | exact True.intro | contradiction | trace_state
theorem s69 : SpecOK PP 69 e69 := by
  intro xs Hs ps res Hs1 h hp
  unfold e69 at h
  split at h
  · rename_i t s n
    simp only [Option.some.injEq, Prod.mk.injEq] at h
    obtain ⟨rfl, rfl, rfl⟩ := h
    simp only [AllP.cons] at hp
    refine enterB (L := [0,2,3,4,5,11]) (LO := [(0, loopT false Try.f69.ntmps 3 (lp69 t s n) (fun _ _ _ => (0 : Nat)))]) (E := []) (O := []) (ck := true) (.nil) (.nil) (k := 69) (f := Try.f69) (xs := [.fn 74 [] [.ptr 0 0, .ptr 1 0, .ptr 2 0]]) (Hs := [.cells [.int .u64 t], .cells [.int .u64 s], .cells [.int .u64 n]]) (Hs' := [.cells [.int .u64 (M.tk t s n (M.K t s n + 1))], .cells [.int .u64 s], .cells [.int .u64 (n + 2 * ((M.K t s n + 1 : Nat) : Int))]]) (r := (.int .u64 (M.sumV t s n))) (by kernel_rfl) (by kernel_rfl) rfl (fun Y => .cons (by kernel_rfl) (t69 t s n FOK.wide Y) (.nil)) ?_
    exact Hold.of (r69 t s n) (br69 t s n hp)
  · cases h
def e47 : List SV → Option (List Prop × SV)
  | [.int .i64 a, .int .i64 b] => some ([], .agg [SI a, SI b])
  | _ => none
def Rr47 (a b : Int) : Prop := a = a ∧ b = b
theorem r47 (a b : Int) : V true [] [] Try.f47 [0,1,4] [] [SI a, SI b] (.agg [SI a, SI b]) = Rr47 a b := by kernel_rfl
theorem br47 (a b : Int)  : Rr47 a b := by
  unfold Rr47
  simp
theorem s47 : PureOK PP 47 e47 := by
  intro xs ps res h hp
  unfold e47 at h
  split at h
  · rename_i a b
    simp only [Option.some.injEq, Prod.mk.injEq] at h
    obtain ⟨rfl, rfl⟩ := h
    clear hp
    refine enter (L := [0,1,4]) (LO := []) (E := []) (O := []) (ck := true) (.nil) (.nil) (k := 47) (f := Try.f47) (xs := [SI a, SI b]) (r := (.agg [SI a, SI b])) (by kernel_rfl) (by kernel_rfl) (fun _ => .nil) ?_
    exact Hold.of (r47 a b) (br47 a b )
  · cases h
def e66 : List SV → Option (List Prop × SV)
  | [.int .i64 k] => some ([0 ≤ k, k ≤ 900], .agg [SI (M.qlo k), SI (M.qhi k)])
  | _ => none
def Rr66 (k : Int) : Prop := (decide (k = (0 : Int)) = true → (65536 : Int) = M.qlo k ∧ (65536 : Int) = M.qhi k) ∧ (decide (k = (0 : Int)) = false → (decide (k = (600 : Int)) = true → (32768 : Int) = M.qlo k ∧ (32768 : Int) = M.qhi k) ∧ (decide (k = (600 : Int)) = false → (decide (k = (900 : Int)) = true → (0 : Int) = M.qlo k ∧ (0 : Int) = M.qhi k) ∧ (decide (k = (900 : Int)) = false → (decide (k ≤ (450 : Int)) = true → (0 : Int) ≤ k ∧ k ≤ (900 : Int) ∧ (0 : Int) ≤ M.rad k ∧ M.rad k ≤ (4611686018427387904 : Int) ∧ (0 : Int) ≤ (4611686018427387904 : Int) ∧ (4611686018427387904 : Int) ≤ (4611686018427387904 : Int) ∧ (0 : Int) ≤ M.tm (M.rad k) (M.rad k) ∧ M.tm (M.rad k) (M.rad k) ≤ (4611686018427387904 : Int) ∧ (0 : Int) ≤ (0 : Int) ∧ (0 : Int) ≤ (1 : Int) ∧ (0 : Int) ≤ (46 : Int) ∧ R64 (Int.fdiv (IntKind.wrap IntKind.u64 (M.sumV (4611686018427387904 : Int) (M.tm (M.rad k) (M.rad k)) (0 : Int) - (1024 : Int))) ((2 : Int) ^ min (Int.toNat (46 : Int)) (IntKind.bits IntKind.u64))) ∧ (0 : Int) ≤ (46 : Int) ∧ R64 (Int.fdiv (IntKind.wrap IntKind.u64 (M.sumV (4611686018427387904 : Int) (M.tm (M.rad k) (M.rad k)) (0 : Int) + (1024 : Int))) ((2 : Int) ^ min (Int.toNat (46 : Int)) (IntKind.bits IntKind.u64))) ∧ R64 (Int.fdiv (IntKind.wrap IntKind.u64 (M.sumV (4611686018427387904 : Int) (M.tm (M.rad k) (M.rad k)) (0 : Int) + (1024 : Int))) ((2 : Int) ^ min (Int.toNat (46 : Int)) (IntKind.bits IntKind.u64)) + (1 : Int)) ∧ Int.fdiv (IntKind.wrap IntKind.u64 (M.sumV (4611686018427387904 : Int) (M.tm (M.rad k) (M.rad k)) (0 : Int) - (1024 : Int))) ((2 : Int) ^ min (Int.toNat (46 : Int)) (IntKind.bits IntKind.u64)) = M.qlo k ∧ Int.fdiv (IntKind.wrap IntKind.u64 (M.sumV (4611686018427387904 : Int) (M.tm (M.rad k) (M.rad k)) (0 : Int) + (1024 : Int))) ((2 : Int) ^ min (Int.toNat (46 : Int)) (IntKind.bits IntKind.u64)) + (1 : Int) = M.qhi k) ∧ (decide (k ≤ (450 : Int)) = false → R64 ((900 : Int) - k) ∧ (0 : Int) ≤ (900 : Int) - k ∧ (900 : Int) - k ≤ (900 : Int) ∧ (0 : Int) ≤ M.rad ((900 : Int) - k) ∧ M.rad ((900 : Int) - k) ≤ (4611686018427387904 : Int) ∧ (0 : Int) ≤ M.rad ((900 : Int) - k) ∧ M.rad ((900 : Int) - k) ≤ (4611686018427387904 : Int) ∧ (0 : Int) ≤ M.tm (M.rad ((900 : Int) - k)) (M.rad ((900 : Int) - k)) ∧ M.tm (M.rad ((900 : Int) - k)) (M.rad ((900 : Int) - k)) ≤ (4611686018427387904 : Int) ∧ (0 : Int) ≤ (1 : Int) ∧ (1 : Int) ≤ (1 : Int) ∧ (0 : Int) ≤ (46 : Int) ∧ R64 (Int.fdiv (IntKind.wrap IntKind.u64 (M.sumV (M.rad ((900 : Int) - k)) (M.tm (M.rad ((900 : Int) - k)) (M.rad ((900 : Int) - k))) (1 : Int) - (1024 : Int))) ((2 : Int) ^ min (Int.toNat (46 : Int)) (IntKind.bits IntKind.u64))) ∧ (0 : Int) ≤ (46 : Int) ∧ R64 (Int.fdiv (IntKind.wrap IntKind.u64 (M.sumV (M.rad ((900 : Int) - k)) (M.tm (M.rad ((900 : Int) - k)) (M.rad ((900 : Int) - k))) (1 : Int) + (1024 : Int))) ((2 : Int) ^ min (Int.toNat (46 : Int)) (IntKind.bits IntKind.u64))) ∧ R64 (Int.fdiv (IntKind.wrap IntKind.u64 (M.sumV (M.rad ((900 : Int) - k)) (M.tm (M.rad ((900 : Int) - k)) (M.rad ((900 : Int) - k))) (1 : Int) + (1024 : Int))) ((2 : Int) ^ min (Int.toNat (46 : Int)) (IntKind.bits IntKind.u64)) + (1 : Int)) ∧ Int.fdiv (IntKind.wrap IntKind.u64 (M.sumV (M.rad ((900 : Int) - k)) (M.tm (M.rad ((900 : Int) - k)) (M.rad ((900 : Int) - k))) (1 : Int) - (1024 : Int))) ((2 : Int) ^ min (Int.toNat (46 : Int)) (IntKind.bits IntKind.u64)) = M.qlo k ∧ Int.fdiv (IntKind.wrap IntKind.u64 (M.sumV (M.rad ((900 : Int) - k)) (M.tm (M.rad ((900 : Int) - k)) (M.rad ((900 : Int) - k))) (1 : Int) + (1024 : Int))) ((2 : Int) ^ min (Int.toNat (46 : Int)) (IntKind.bits IntKind.u64)) + (1 : Int) = M.qhi k))))
theorem r66 (k : Int) : V true [] [(71, pureE e71), (70, specE e70), (69, specE e69), (47, pureE e47)] Try.f66 [0,2,3,4,5,6,9,12,16] [] [SI k] (.agg [SI (M.qlo k), SI (M.qhi k)]) = Rr66 k := by kernel_rfl
theorem br66 (k : Int) (hp : (0 ≤ k) ∧ (k ≤ 900) ∧ AllP []) : Rr66 k := by
  unfold Rr66
  obtain ⟨k1, k2, -⟩ := hp
  have sh46 : (2 : Int) ^ min (Int.toNat 46) (IntKind.bits .u64) = 70368744177664 := rfl
  simp only [sh46, fdiv_lit (show (0 : Int) < 70368744177664 by omega), M.wrapU]
  have rb : ∀ j : Int, 0 ≤ j → j ≤ 450 → 0 ≤ M.rad j ∧ M.rad j ≤ 4611686018427387904 := fun j h1 h2 => by unfold M.rad; omega
  have tb : ∀ j : Int, 0 ≤ j → j ≤ 450 → 0 ≤ M.tm (M.rad j) (M.rad j) ∧ M.tm (M.rad j) (M.rad j) ≤ 4611686018427387904 := fun j h1 h2 => by
    obtain ⟨a, b⟩ := rb j h1 h2
    obtain ⟨c, d⟩ := M.tm_le a b a b
    omega
  by_cases h0 : k = 0
  · subst h0; simp [M.qlo, M.qhi]
  by_cases h6 : k = 600
  · subst h6; simp [M.qlo, M.qhi]
  by_cases h9 : k = 900
  · subst h9; simp [M.qlo, M.qhi]
  by_cases h4 : k ≤ 450
  · obtain ⟨r1, r2⟩ := rb k k1 h4
    obtain ⟨t1, t2⟩ := tb k k1 h4
    simp only [M.qlo, M.qhi, M.qv, h0, h6, h9, h4, if_true, if_false]
    generalize M.sumV 4611686018427387904 (M.tm (M.rad k) (M.rad k)) 0 = v
    simp
    unfold R64
    omega
  · obtain ⟨r1, r2⟩ := rb (900 - k) (by omega) (by omega)
    obtain ⟨t1, t2⟩ := tb (900 - k) (by omega) (by omega)
    simp only [M.qlo, M.qhi, M.qv, h0, h6, h9, h4, if_true, if_false]
    generalize M.sumV (M.rad (900 - k)) (M.tm (M.rad (900 - k)) (M.rad (900 - k))) 1 = v
    simp
    unfold R64
    omega
theorem s66 : PureOK PP 66 e66 := by
  intro xs ps res h hp
  unfold e66 at h
  split at h
  · rename_i k
    simp only [Option.some.injEq, Prod.mk.injEq] at h
    obtain ⟨rfl, rfl⟩ := h
    simp only [AllP.cons] at hp
    refine enter (L := [0,2,3,4,5,6,9,12,16]) (LO := []) (E := []) (O := [(71, pureE e71), (70, specE e70), (69, specE e69), (47, pureE e47)]) (ck := true) (.nil) (.cons (pureE_ok s71) (.cons (specE_ok s70) (.cons (specE_ok s69) (.cons (pureE_ok s47) (.nil))))) (k := 66) (f := Try.f66) (xs := [SI k]) (r := (.agg [SI (M.qlo k), SI (M.qhi k)])) (by kernel_rfl) (by kernel_rfl) (fun _ => .nil) ?_
    exact Hold.of (r66 k) (br66 k hp)
  · cases h
def e67 : List SV → Option (List Prop × SV)
  | [.agg [.int .i64 a, .int .i64 b]] => some ([R64 (-a), R64 (-b)], .agg [SI (-b), SI (-a)])
  | _ => none
def Rr67 (a b : Int) : Prop := R64 (-b) ∧ R64 (-a) ∧ -b = -b ∧ -a = -a
theorem r67 (a b : Int) : V true [] [(47, pureE e47)] Try.f67 [0,1,2] [] [.agg [SI a, SI b]] (.agg [SI (-b), SI (-a)]) = Rr67 a b := by kernel_rfl
theorem br67 (a b : Int) (hp : (R64 (-a)) ∧ (R64 (-b)) ∧ AllP []) : Rr67 a b := by
  unfold Rr67
  simp [hp]
theorem s67 : PureOK PP 67 e67 := by
  intro xs ps res h hp
  unfold e67 at h
  split at h
  · rename_i a b
    simp only [Option.some.injEq, Prod.mk.injEq] at h
    obtain ⟨rfl, rfl⟩ := h
    simp only [AllP.cons] at hp
    refine enter (L := [0,1,2]) (LO := []) (E := []) (O := [(47, pureE e47)]) (ck := true) (.nil) (.cons (pureE_ok s47) (.nil)) (k := 67) (f := Try.f67) (xs := [.agg [SI a, SI b]]) (r := (.agg [SI (-b), SI (-a)])) (by kernel_rfl) (by kernel_rfl) (fun _ => .nil) ?_
    exact Hold.of (r67 a b) (br67 a b hp)
  · cases h
def e54 : List SV → Option (List Prop × SV)
  | [.agg [.int .i64 a, .int .i64 b], .agg [.int .i64 c, .int .i64 d]] => some ([], .agg [SI (min a c), SI (max b d)])
  | _ => none
def Rr54 (a b c d : Int) : Prop := min a c = min a c ∧ max b d = max b d
theorem r54 (a b c d : Int) : V true [] [(47, pureE e47)] Try.f54 [0,1,2,3,4] [] [.agg [SI a, SI b], .agg [SI c, SI d]] (.agg [SI (min a c), SI (max b d)]) = Rr54 a b c d := by kernel_rfl
theorem br54 (a b c d : Int)  : Rr54 a b c d := by
  unfold Rr54
  simp
theorem s54 : PureOK PP 54 e54 := by
  intro xs ps res h hp
  unfold e54 at h
  split at h
  · rename_i a b c d
    simp only [Option.some.injEq, Prod.mk.injEq] at h
    obtain ⟨rfl, rfl⟩ := h
    clear hp
    refine enter (L := [0,1,2,3,4]) (LO := []) (E := []) (O := [(47, pureE e47)]) (ck := true) (.nil) (.cons (pureE_ok s47) (.nil)) (k := 54) (f := Try.f54) (xs := [.agg [SI a, SI b], .agg [SI c, SI d]]) (r := (.agg [SI (min a c), SI (max b d)])) (by kernel_rfl) (by kernel_rfl) (fun _ => .nil) ?_
    exact Hold.of (r54 a b c d) (br54 a b c d )
  · cases h
end Go.Proofs.Ytpbgkohljjmbhaa.Sep
/-
  Cosines of angles and of spans of angles, of the program and of its reference. Plain arithmetic. No condition. (This text proves no statement by itself.)
-/
namespace Go.Proofs.Ytpbgkohljjmbhaa.M
open Go
def within (a b lo hi : Int) : Bool := decide (a ≤ b) && decide (lo ≤ a) && decide (b ≤ hi)
theorem dn {a b : Int} (hb : 0 < b) : (a.tmod b < 0 → a.tdiv b - 1 = a / b) ∧ (¬ a.tmod b < 0 → a.tdiv b = a / b) := by
  have h1 := Int.mul_tdiv_add_tmod a b
  have h2 : a.tmod b < b := Int.tmod_lt_of_pos a hb
  have h3 : -b < a.tmod b := Int.lt_tmod_of_pos a hb
  constructor
  · intro h
    refine ((Int.ediv_emod_unique (r := a.tmod b + b) hb).2 ⟨?_, by omega, by omega⟩).1.symm
    rw [Int.mul_sub, Int.mul_one]; omega
  · intro h
    exact ((Int.ediv_emod_unique (r := a.tmod b) hb).2 ⟨by omega, by omega, h2⟩).1.symm
theorem tdiv_bd {a b m : Int} (hb : 0 < b) (h1 : -m ≤ a) (h2 : a ≤ m) : -m ≤ a.tdiv b ∧ a.tdiv b ≤ m ∧ -m - 1 ≤ a / b ∧ a / b ≤ m := by
  have h3 := Int.mul_tdiv_add_tmod a b
  rcases Int.le_total 0 a with h | h
  · have e : a.tdiv b = a / b := Int.tdiv_eq_ediv_of_nonneg h
    have k1 : 0 ≤ a / b := Int.ediv_nonneg h (by omega)
    have k2 : a / b ≤ a := Int.ediv_le_self b h
    omega
  · have e : a.tdiv b = -((-a) / b) := by
      rw [← Int.tdiv_eq_ediv_of_nonneg (by omega), Int.neg_tdiv]; omega
    have k1 : 0 ≤ (-a) / b := Int.ediv_nonneg (by omega) (by omega)
    have k2 : (-a) / b ≤ -a := Int.ediv_le_self b (by omega)
    obtain ⟨d1, d2⟩ := dn (a := a) hb
    by_cases g : a.tmod b < 0
    · have := d1 g; omega
    · have := d2 g; omega
theorem q_bd (k : Int) : 0 ≤ qlo k ∧ qlo k ≤ 262144 ∧ 0 ≤ qhi k ∧ qhi k ≤ 262145 := by
  unfold qlo qhi
  by_cases h0 : k = 0
  · simp [h0]
  by_cases h1 : k = 600
  · simp [h1]
  by_cases h2 : k = 900
  · simp [h2]
  simp only [h0, h1, h2, if_false]
  omega
/-- An angle turned to the first half turn. -/
def ck (a : Int) : Int := min (a % 3600) (3600 - a % 3600)
theorem ck_bd (a : Int) : 0 ≤ ck a ∧ ck a ≤ 1800 := by unfold ck; omega
def cLo (a : Int) : Int := if 900 < ck a then -qhi (1800 - ck a) else qlo (ck a)
def cHi (a : Int) : Int := if 900 < ck a then -qlo (1800 - ck a) else qhi (ck a)
theorem c_bd (a : Int) : -262145 ≤ cLo a ∧ cLo a ≤ 262144 ∧ -262144 ≤ cHi a ∧ cHi a ≤ 262145 := by
  have h1 := q_bd (ck a); have h2 := q_bd (1800 - ck a)
  unfold cLo cHi
  split <;> omega
/-- A span has an angle, but for turns. -/
def meets (lo hi x : Int) : Bool := decide ((lo - x - 1) / 3600 < (hi - x) / 3600)
def bLo (lo hi : Int) : Int := bif meets lo hi 1800 then -65536 else min (cLo lo) (cLo hi)
def bHi (lo hi : Int) : Int := bif meets lo hi 0 then 65536 else max (cHi lo) (cHi hi)
def cosE (lo hi : Int) : Int := if within lo hi (-1099511627776) 1099511627776 then 0 else 3
/-- The reference's products, with 60 digits behind the point. -/
def rt (a b : Int) : Int := a * b / 1152921504606846976
def rx (k : Int) : Int := 2012227627243645 * k + 421 * k / 1800
def rn (t x n : Int) : Int := rt (rt t x) x / ((n + 1) * (n + 2))
def ru (t x n : Int) : Nat → Int
  | 0 => t
  | k + 1 => rn (ru t x n k) x (n + 2 * k)
def rsg : Nat → Int
  | 0 => 1
  | k + 1 => -rsg k
def rs (t x n : Int) : Nat → Int
  | 0 => 0
  | k + 1 => rs t x n k + rsg k * ru t x n k
def rcnt (t x n : Int) : Nat → Nat → Nat
  | 0, k => k
  | f + 1, k => if ru t x n k = 0 then k else rcnt t x n f (k + 1)
def rK (t x n : Int) : Nat := rcnt t x n 64 0
def rv (t x n : Int) : Int := rs t x n (rK t x n)
theorem rt_le {a s : Int} (ha : 0 ≤ a) (hs : 0 ≤ s) (hs' : s ≤ 1152921504606846976) : 0 ≤ rt a s ∧ rt a s ≤ a := by
  have h1 : 0 ≤ a * s := Int.mul_nonneg ha hs
  have h2 : a * s ≤ a * 1152921504606846976 := Int.mul_le_mul_of_nonneg_left hs' ha
  unfold rt
  omega
theorem rn_le {a s n : Int} (ha : 0 ≤ a) (hs : 0 ≤ s) (hs' : s ≤ 1152921504606846976) (hn : 0 ≤ n) : 0 ≤ rn a s n ∧ 2 * rn a s n ≤ a := by
  obtain ⟨h1, h2⟩ := rt_le ha hs hs'
  obtain ⟨h3, h4⟩ := rt_le h1 hs hs'
  have hd : 2 ≤ (n + 1) * (n + 2) := by
    have : 1 * 2 ≤ (n + 1) * (n + 2) := Int.mul_le_mul (by omega) (by omega) (by omega) (by omega)
    omega
  unfold rn
  generalize (n + 1) * (n + 2) = d at *
  have h5 : 0 ≤ rt (rt a s) s / d := Int.ediv_nonneg h3 (by omega)
  have h6 : rt (rt a s) s / d * d ≤ rt (rt a s) s := Int.ediv_mul_le _ (by omega)
  have h7 : rt (rt a s) s / d * 2 ≤ rt (rt a s) s / d * d := Int.mul_le_mul_of_nonneg_left hd h5
  omega
theorem rsg_bd (k : Nat) : rsg k = 1 ∨ rsg k = -1 := by
  induction k with
  | zero => exact .inl rfl
  | succ k ih => simp only [rsg]; omega
section
variable {t x n : Int} (ht : 0 ≤ t) (ht' : t ≤ 1152921504606846976) (hx : 0 ≤ x) (hx' : x ≤ 1152921504606846976) (hn : 0 ≤ n)
include ht ht' hx hx' hn
theorem ru_le : ∀ k, 0 ≤ ru t x n k ∧ ru t x n k * 2 ^ k ≤ t ∧ ru t x n k ≤ 1152921504606846976
  | 0 => by simp [ru]; omega
  | k + 1 => by
    obtain ⟨h1, h2, h3⟩ := ru_le k
    obtain ⟨h4, h5⟩ := rn_le (n := n + 2 * k) h1 hx hx' (by omega)
    simp only [ru]
    refine ⟨h4, ?_, by omega⟩
    have hp : (0 : Int) ≤ 2 ^ k := Int.pow_nonneg (by omega)
    have := Int.mul_le_mul_of_nonneg_right h5 hp
    rw [Int.pow_succ, ← Int.mul_assoc, Int.mul_comm _ 2, ← Int.mul_assoc]
    omega
theorem ru_63 : ru t x n 63 = 0 := by
  obtain ⟨h1, h2, -⟩ := ru_le ht ht' hx hx' hn 63
  have : (2 : Int) ^ 63 = 9223372036854775808 := rfl
  rw [this] at h2
  omega
theorem rs_bd : ∀ k, rs t x n k + 2 * ru t x n k ≤ 2305843009213693952 ∧ -rs t x n k + 2 * ru t x n k ≤ 2305843009213693952
  | 0 => by simp [rs, ru]; omega
  | k + 1 => by
    obtain ⟨h1, h2⟩ := rs_bd k
    obtain ⟨h3, -, -⟩ := ru_le ht ht' hx hx' hn k
    obtain ⟨h4, h5⟩ := rn_le (n := n + 2 * k) h3 hx hx' (by omega)
    simp only [rs, ru]
    rcases rsg_bd k with e | e <;> rw [e] <;> omega
end
theorem rcnt_spec {t x n : Int} : ∀ (f k : Nat), (∃ j, k ≤ j ∧ j < k + f ∧ ru t x n j = 0) → k ≤ rcnt t x n f k ∧ rcnt t x n f k < k + f ∧ ru t x n (rcnt t x n f k) = 0 ∧ ∀ j, k ≤ j → j < rcnt t x n f k → ru t x n j ≠ 0
  | 0, k, ⟨j, h1, h2, _⟩ => by omega
  | f + 1, k, ⟨j, h1, h2, h3⟩ => by
    simp only [rcnt]
    split
    · rename_i h; exact ⟨Nat.le_refl _, by omega, h, fun i a b => by omega⟩
    · rename_i h
      have hj : k + 1 ≤ j := by
        rcases Nat.eq_or_lt_of_le h1 with e | e
        · subst e; exact absurd h3 h
        · exact e
      obtain ⟨g1, g2, g3, g4⟩ := rcnt_spec f (k + 1) ⟨j, hj, by omega, h3⟩
      refine ⟨by omega, by omega, g3, fun i a b => ?_⟩
      rcases Nat.eq_or_lt_of_le a with e | e
      · subst e; exact h
      · exact g4 i e b
theorem rK_spec {t x n : Int} (ht : 0 ≤ t) (ht' : t ≤ 1152921504606846976) (hx : 0 ≤ x) (hx' : x ≤ 1152921504606846976) (hn : 0 ≤ n) : rK t x n < 64 ∧ ru t x n (rK t x n) = 0 ∧ ∀ j, j < rK t x n → ru t x n j ≠ 0 := by
  obtain ⟨-, h2, h3, h4⟩ := rcnt_spec (t := t) (x := x) (n := n) 64 0 ⟨63, by omega, by omega, ru_63 ht ht' hx hx' hn⟩
  exact ⟨by unfold rK; omega, h3, fun j hj => h4 j (by omega) hj⟩
def rcos (k : Int) (sine : Bool) : Int := bif sine then rv (rx k) (rx k) 1 else rv 1152921504606846976 (rx k) 0
def rq (k : Int) : Int := if k ≤ 450 then rcos k false else rcos (900 - k) true
def rlo (k : Int) : Int := if k = 0 then 65536 else if k = 600 then 32768 else if k = 900 then 0 else (rq k - 100) / 17592186044416
def rhi (k : Int) : Int := if k = 0 then 65536 else if k = 600 then 32768 else if k = 900 then 0 else (rq k + 100) / 17592186044416 + 1
set_option maxRecDepth 100000 in
theorem same_q : ∀ k : Nat, k < 901 → rlo k = qlo k ∧ rhi k = qhi k := by decide +kernel
end Go.Proofs.Ytpbgkohljjmbhaa.M
/-
  Contracts of the cosines of the program and of its reference. No condition. (This text proves no statement by itself.)
-/
namespace Go.Proofs.Ytpbgkohljjmbhaa.Sep
open Go
set_option linter.unusedVariables false
set_option linter.unusedSimpArgs false
def e56 : List SV → Option (List Prop × SV)
  | [.int .i64 a, .int .i64 b] => some ([0 < b, -9000000000000000000 ≤ a, a ≤ 9000000000000000000], SI (a / b))
  | _ => none
def Rr56 (a b : Int) : Prop := b ≠ (0 : Int) ∧ R64 (Int.tdiv a b) ∧ b ≠ (0 : Int) ∧ (decide (Int.tmod a b < (0 : Int)) = true → R64 (Int.tdiv a b - (1 : Int)) ∧ Int.tdiv a b - (1 : Int) = a / b) ∧ (decide (Int.tmod a b < (0 : Int)) = false → Int.tdiv a b = a / b)
theorem r56 (a b : Int) : V true [] [] Try.f56 [0,1,4,5,6,14] [] [SI a, SI b] (SI (a / b)) = Rr56 a b := by kernel_rfl
theorem br56 (a b : Int) (hp : (0 < b) ∧ (-9000000000000000000 ≤ a) ∧ (a ≤ 9000000000000000000) ∧ AllP []) : Rr56 a b := by
  unfold Rr56
  obtain ⟨hb, a1, a2, -⟩ := hp
  obtain ⟨d1, d2⟩ := M.dn (a := a) hb
  obtain ⟨t1, t2, t3, t4⟩ := M.tdiv_bd hb a1 a2
  unfold R64
  refine ⟨by omega, by omega, by omega, fun h => ?_, fun h => ?_⟩
  · have := d1 (by simpa using h); omega
  · have := d2 (by simpa using h); omega
theorem s56 : PureOK PP 56 e56 := by
  intro xs ps res h hp
  unfold e56 at h
  split at h
  · rename_i a b
    simp only [Option.some.injEq, Prod.mk.injEq] at h
    obtain ⟨rfl, rfl⟩ := h
    simp only [AllP.cons] at hp
    refine enter (L := [0,1,4,5,6,14]) (LO := []) (E := []) (O := []) (ck := true) (.nil) (.nil) (k := 56) (f := Try.f56) (xs := [SI a, SI b]) (r := (SI (a / b))) (by kernel_rfl) (by kernel_rfl) (fun _ => .nil) ?_
    exact Hold.of (r56 a b) (br56 a b hp)
  · cases h
def e61 : List SV → Option (List Prop × SV)
  | [.int .i64 a, .int .i64 b] => some ([0 < b, -9000000000000000000 ≤ a, a ≤ 9000000000000000000], SI (-(-a / b)))
  | _ => none
def Rr61 (a b : Int) : Prop := R64 (-a) ∧ (0 : Int) < b ∧ (-9000000000000000000 : Int) ≤ -a ∧ -a ≤ (9000000000000000000 : Int) ∧ R64 (-(-a / b)) ∧ -(-a / b) = -(-a / b)
theorem r61 (a b : Int) : V true [] [(56, pureE e56)] Try.f61 [0,1,4] [] [SI a, SI b] (SI (-(-a / b))) = Rr61 a b := by kernel_rfl
theorem br61 (a b : Int) (hp : (0 < b) ∧ (-9000000000000000000 ≤ a) ∧ (a ≤ 9000000000000000000) ∧ AllP []) : Rr61 a b := by
  unfold Rr61
  obtain ⟨hb, a1, a2, -⟩ := hp
  obtain ⟨t1, t2, t3, t4⟩ := M.tdiv_bd (a := -a) (m := 9000000000000000000) hb (by omega) (by omega)
  unfold R64
  repeat' apply And.intro
  all_goals first | omega | rfl
theorem s61 : PureOK PP 61 e61 := by
  intro xs ps res h hp
  unfold e61 at h
  split at h
  · rename_i a b
    simp only [Option.some.injEq, Prod.mk.injEq] at h
    obtain ⟨rfl, rfl⟩ := h
    simp only [AllP.cons] at hp
    refine enter (L := [0,1,4]) (LO := []) (E := []) (O := [(56, pureE e56)]) (ck := true) (.nil) (.cons (pureE_ok s56) (.nil)) (k := 61) (f := Try.f61) (xs := [SI a, SI b]) (r := (SI (-(-a / b)))) (by kernel_rfl) (by kernel_rfl) (fun _ => .nil) ?_
    exact Hold.of (r61 a b) (br61 a b hp)
  · cases h
def e62 : List SV → Option (List Prop × SV)
  | [.int .i64 a, .int .i64 b] => some ([0 < b, -9000000000000000000 ≤ a, a ≤ 9000000000000000000], SI (a / b))
  | _ => none
def Rr62 (a b : Int) : Prop := b ≠ (0 : Int) ∧ R64 (Int.tdiv a b) ∧ b ≠ (0 : Int) ∧ (decide (Int.tmod a b < (0 : Int)) = true → R64 (Int.tdiv a b - (1 : Int)) ∧ Int.tdiv a b - (1 : Int) = a / b) ∧ (decide (Int.tmod a b < (0 : Int)) = false → Int.tdiv a b = a / b)
theorem r62 (a b : Int) : V true [] [] Try.f62 [0,1,4,5,12] [] [SI a, SI b] (SI (a / b)) = Rr62 a b := by kernel_rfl
theorem br62 (a b : Int) (hp : (0 < b) ∧ (-9000000000000000000 ≤ a) ∧ (a ≤ 9000000000000000000) ∧ AllP []) : Rr62 a b := by
  unfold Rr62
  obtain ⟨hb, a1, a2, -⟩ := hp
  obtain ⟨d1, d2⟩ := M.dn (a := a) hb
  obtain ⟨t1, t2, t3, t4⟩ := M.tdiv_bd hb a1 a2
  unfold R64
  refine ⟨by omega, by omega, by omega, fun h => ?_, fun h => ?_⟩
  · have := d1 (by simpa using h); omega
  · have := d2 (by simpa using h); omega
theorem s62 : PureOK PP 62 e62 := by
  intro xs ps res h hp
  unfold e62 at h
  split at h
  · rename_i a b
    simp only [Option.some.injEq, Prod.mk.injEq] at h
    obtain ⟨rfl, rfl⟩ := h
    simp only [AllP.cons] at hp
    refine enter (L := [0,1,4,5,12]) (LO := []) (E := []) (O := []) (ck := true) (.nil) (.nil) (k := 62) (f := Try.f62) (xs := [SI a, SI b]) (r := (SI (a / b))) (by kernel_rfl) (by kernel_rfl) (fun _ => .nil) ?_
    exact Hold.of (r62 a b) (br62 a b hp)
  · cases h
def e63 : List SV → Option (List Prop × SV)
  | [.int .i64 a, .int .i64 b] => some ([0 < b, -9000000000000000000 ≤ a, a ≤ 9000000000000000000], SI (-(-a / b)))
  | _ => none
def Rr63 (a b : Int) : Prop := R64 (-a) ∧ (0 : Int) < b ∧ (-9000000000000000000 : Int) ≤ -a ∧ -a ≤ (9000000000000000000 : Int) ∧ R64 (-(-a / b)) ∧ -(-a / b) = -(-a / b)
theorem r63 (a b : Int) : V true [] [(62, pureE e62)] Try.f63 [0,1,4] [] [SI a, SI b] (SI (-(-a / b))) = Rr63 a b := by kernel_rfl
theorem br63 (a b : Int) (hp : (0 < b) ∧ (-9000000000000000000 ≤ a) ∧ (a ≤ 9000000000000000000) ∧ AllP []) : Rr63 a b := by
  unfold Rr63
  obtain ⟨hb, a1, a2, -⟩ := hp
  obtain ⟨t1, t2, t3, t4⟩ := M.tdiv_bd (a := -a) (m := 9000000000000000000) hb (by omega) (by omega)
  unfold R64
  repeat' apply And.intro
  all_goals first | omega | rfl
theorem s63 : PureOK PP 63 e63 := by
  intro xs ps res h hp
  unfold e63 at h
  split at h
  · rename_i a b
    simp only [Option.some.injEq, Prod.mk.injEq] at h
    obtain ⟨rfl, rfl⟩ := h
    simp only [AllP.cons] at hp
    refine enter (L := [0,1,4]) (LO := []) (E := []) (O := [(62, pureE e62)]) (ck := true) (.nil) (.cons (pureE_ok s62) (.nil)) (k := 63) (f := Try.f63) (xs := [SI a, SI b]) (r := (SI (-(-a / b)))) (by kernel_rfl) (by kernel_rfl) (fun _ => .nil) ?_
    exact Hold.of (r63 a b) (br63 a b hp)
  · cases h
def e53 : List SV → Option (List Prop × SV)
  | [.int .i64 a] => some ([-9000000000000000000 ≤ a, a ≤ 9000000000000000000], .agg [SI (M.cLo a), SI (M.cHi a)])
  | _ => none
def Rr53 (a : Int) : Prop := (0 : Int) < (3600 : Int) ∧ (-9000000000000000000 : Int) ≤ a ∧ a ≤ (9000000000000000000 : Int) ∧ R64 ((3600 : Int) * (a / (3600 : Int))) ∧ R64 (a - (3600 : Int) * (a / (3600 : Int))) ∧ R64 ((3600 : Int) - (a - (3600 : Int) * (a / (3600 : Int)))) ∧ (decide ((900 : Int) < min (a - (3600 : Int) * (a / (3600 : Int))) ((3600 : Int) - (a - (3600 : Int) * (a / (3600 : Int))))) = true → R64 ((1800 : Int) - min (a - (3600 : Int) * (a / (3600 : Int))) ((3600 : Int) - (a - (3600 : Int) * (a / (3600 : Int))))) ∧ (0 : Int) ≤ (1800 : Int) - min (a - (3600 : Int) * (a / (3600 : Int))) ((3600 : Int) - (a - (3600 : Int) * (a / (3600 : Int)))) ∧ (1800 : Int) - min (a - (3600 : Int) * (a / (3600 : Int))) ((3600 : Int) - (a - (3600 : Int) * (a / (3600 : Int)))) ≤ (900 : Int) ∧ R64 (-M.qlo ((1800 : Int) - min (a - (3600 : Int) * (a / (3600 : Int))) ((3600 : Int) - (a - (3600 : Int) * (a / (3600 : Int)))))) ∧ R64 (-M.qhi ((1800 : Int) - min (a - (3600 : Int) * (a / (3600 : Int))) ((3600 : Int) - (a - (3600 : Int) * (a / (3600 : Int)))))) ∧ -M.qhi ((1800 : Int) - min (a - (3600 : Int) * (a / (3600 : Int))) ((3600 : Int) - (a - (3600 : Int) * (a / (3600 : Int))))) = M.cLo a ∧ -M.qlo ((1800 : Int) - min (a - (3600 : Int) * (a / (3600 : Int))) ((3600 : Int) - (a - (3600 : Int) * (a / (3600 : Int))))) = M.cHi a) ∧ (decide ((900 : Int) < min (a - (3600 : Int) * (a / (3600 : Int))) ((3600 : Int) - (a - (3600 : Int) * (a / (3600 : Int))))) = false → (0 : Int) ≤ min (a - (3600 : Int) * (a / (3600 : Int))) ((3600 : Int) - (a - (3600 : Int) * (a / (3600 : Int)))) ∧ min (a - (3600 : Int) * (a / (3600 : Int))) ((3600 : Int) - (a - (3600 : Int) * (a / (3600 : Int)))) ≤ (900 : Int) ∧ M.qlo (min (a - (3600 : Int) * (a / (3600 : Int))) ((3600 : Int) - (a - (3600 : Int) * (a / (3600 : Int))))) = M.cLo a ∧ M.qhi (min (a - (3600 : Int) * (a / (3600 : Int))) ((3600 : Int) - (a - (3600 : Int) * (a / (3600 : Int))))) = M.cHi a)
theorem r53 (a : Int) : V true [] [(56, pureE e56), (66, pureE e66), (67, pureE e67)] Try.f53 [0,2,3,14] [] [SI a] (.agg [SI (M.cLo a), SI (M.cHi a)]) = Rr53 a := by kernel_rfl
theorem br53 (a : Int) (hp : (-9000000000000000000 ≤ a) ∧ (a ≤ 9000000000000000000) ∧ AllP []) : Rr53 a := by
  unfold Rr53
  obtain ⟨a1, a2, -⟩ := hp
  have e : a - 3600 * (a / 3600) = a % 3600 := by omega
  have ek : min (a % 3600) (3600 - a % 3600) = M.ck a := rfl
  obtain ⟨k1, k2⟩ := M.ck_bd a
  have q1 := M.q_bd (1800 - M.ck a)
  simp only [e, ek, M.cLo, M.cHi]
  unfold R64
  by_cases h : 900 < M.ck a
  · simp [h]; omega
  · simp [h]; omega
theorem s53 : PureOK PP 53 e53 := by
  intro xs ps res h hp
  unfold e53 at h
  split at h
  · rename_i a
    simp only [Option.some.injEq, Prod.mk.injEq] at h
    obtain ⟨rfl, rfl⟩ := h
    simp only [AllP.cons] at hp
    refine enter (L := [0,2,3,14]) (LO := []) (E := []) (O := [(56, pureE e56), (66, pureE e66), (67, pureE e67)]) (ck := true) (.nil) (.cons (pureE_ok s56) (.cons (pureE_ok s66) (.cons (pureE_ok s67) (.nil)))) (k := 53) (f := Try.f53) (xs := [SI a]) (r := (.agg [SI (M.cLo a), SI (M.cHi a)])) (by kernel_rfl) (by kernel_rfl) (fun _ => .nil) ?_
    exact Hold.of (r53 a) (br53 a hp)
  · cases h
def e55 : List SV → Option (List Prop × SV)
  | [.int .i64 x, .sptr 2 1 F_1 0 0] => match F_1 0 with
    | [.int .i64 lo, .int .i64 hi] => some ([-4000000000000000000 ≤ lo, lo ≤ 4000000000000000000, -4000000000000000000 ≤ hi, hi ≤ 4000000000000000000, 0 ≤ x, x ≤ 3600], .bool (M.meets lo hi x))
    | _ => none
  | _ => none
def Rr55 (x lo hi : Int) : Prop := (0 : Nat) < (1 : Nat) ∧ R64 (hi - x) ∧ (0 : Int) < (3600 : Int) ∧ (-9000000000000000000 : Int) ≤ hi - x ∧ hi - x ≤ (9000000000000000000 : Int) ∧ (0 : Nat) < (1 : Nat) ∧ R64 (lo - x) ∧ R64 (lo - x - (1 : Int)) ∧ (0 : Int) < (3600 : Int) ∧ (-9000000000000000000 : Int) ≤ lo - x - (1 : Int) ∧ lo - x - (1 : Int) ≤ (9000000000000000000 : Int) ∧ decide ((lo - x - (1 : Int)) / (3600 : Int) < (hi - x) / (3600 : Int)) = M.meets lo hi x
theorem r55 (x lo hi : Int) : V true [] [(56, pureE e56)] Try.f55 [0,1,3] [] [SI x, .sptr 2 1 (fun _ => [SI lo, SI hi]) 0 0] (.bool (M.meets lo hi x)) = Rr55 x lo hi := by kernel_rfl
theorem br55 (x lo hi : Int) (hp : (-4000000000000000000 ≤ lo) ∧ (lo ≤ 4000000000000000000) ∧ (-4000000000000000000 ≤ hi) ∧ (hi ≤ 4000000000000000000) ∧ (0 ≤ x) ∧ (x ≤ 3600) ∧ AllP []) : Rr55 x lo hi := by
  unfold Rr55
  obtain ⟨a1, a2, b1, b2, x1, x2, -⟩ := hp
  simp only [M.meets]
  unfold R64
  repeat' apply And.intro
  all_goals first | omega | trivial | rfl
theorem s55 : PureOK PP 55 e55 := by
  intro xs ps res h hp
  unfold e55 at h
  split at h
  · rename_i x F_1
    split at h
    · rename_i lo hi EF_1
      simp only [Option.some.injEq, Prod.mk.injEq] at h
      obtain ⟨rfl, rfl⟩ := h
      simp only [AllP.cons] at hp
      refine Spec.args (ys := [SI x, .sptr 2 1 (fun _ => [SI lo, SI hi]) 0 0]) ?_ (.cons (.refl _) (.cons (.ref EF_1 (.refl _)) .nil))
      refine enter (L := [0,1,3]) (LO := []) (E := []) (O := [(56, pureE e56)]) (ck := true) (.nil) (.cons (pureE_ok s56) (.nil)) (k := 55) (f := Try.f55) (xs := [SI x, .sptr 2 1 (fun _ => [SI lo, SI hi]) 0 0]) (r := (.bool (M.meets lo hi x))) (by kernel_rfl) (by kernel_rfl) (fun _ => .nil) ?_
      exact Hold.of (r55 x lo hi) (br55 x lo hi hp)
    · cases h
  · cases h
def e37 : List SV → Option (List Prop × SV)
  | [.agg [.int .i64 lo, .int .i64 hi]] => some ([-4000000000000000000 ≤ lo, lo ≤ 4000000000000000000, -4000000000000000000 ≤ hi, hi ≤ 4000000000000000000], .agg [SI (M.bLo lo hi), SI (M.bHi lo hi)])
  | _ => none
def Rr37 (lo hi : Int) : Prop := (-9000000000000000000 : Int) ≤ lo ∧ lo ≤ (9000000000000000000 : Int) ∧ (-9000000000000000000 : Int) ≤ hi ∧ hi ≤ (9000000000000000000 : Int) ∧ (-4000000000000000000 : Int) ≤ lo ∧ lo ≤ (4000000000000000000 : Int) ∧ (-4000000000000000000 : Int) ≤ hi ∧ hi ≤ (4000000000000000000 : Int) ∧ (0 : Int) ≤ (0 : Int) ∧ (0 : Int) ≤ (3600 : Int) ∧ (M.meets lo hi (0 : Int) = true → (-4000000000000000000 : Int) ≤ lo ∧ lo ≤ (4000000000000000000 : Int) ∧ (-4000000000000000000 : Int) ≤ hi ∧ hi ≤ (4000000000000000000 : Int) ∧ (0 : Int) ≤ (1800 : Int) ∧ (1800 : Int) ≤ (3600 : Int) ∧ (M.meets lo hi (1800 : Int) = true → (-65536 : Int) = M.bLo lo hi ∧ (65536 : Int) = M.bHi lo hi) ∧ (M.meets lo hi (1800 : Int) = false → min (M.cLo lo) (M.cLo hi) = M.bLo lo hi ∧ (65536 : Int) = M.bHi lo hi)) ∧ (M.meets lo hi (0 : Int) = false → (-4000000000000000000 : Int) ≤ lo ∧ lo ≤ (4000000000000000000 : Int) ∧ (-4000000000000000000 : Int) ≤ hi ∧ hi ≤ (4000000000000000000 : Int) ∧ (0 : Int) ≤ (1800 : Int) ∧ (1800 : Int) ≤ (3600 : Int) ∧ (M.meets lo hi (1800 : Int) = true → (-65536 : Int) = M.bLo lo hi ∧ max (M.cHi lo) (M.cHi hi) = M.bHi lo hi) ∧ (M.meets lo hi (1800 : Int) = false → min (M.cLo lo) (M.cLo hi) = M.bLo lo hi ∧ max (M.cHi lo) (M.cHi hi) = M.bHi lo hi))
theorem r37 (lo hi : Int) : V true [] [(53, pureE e53), (54, pureE e54), (55, pureE e55)] Try.f37 [0,1,2,3,4,16,20] [] [.agg [SI lo, SI hi]] (.agg [SI (M.bLo lo hi), SI (M.bHi lo hi)]) = Rr37 lo hi := by kernel_rfl
theorem br37 (lo hi : Int) (hp : (-4000000000000000000 ≤ lo) ∧ (lo ≤ 4000000000000000000) ∧ (-4000000000000000000 ≤ hi) ∧ (hi ≤ 4000000000000000000) ∧ AllP []) : Rr37 lo hi := by
  unfold Rr37
  obtain ⟨a1, a2, b1, b2, -⟩ := hp
  simp only [M.bLo, M.bHi]
  cases M.meets lo hi 0 <;> cases M.meets lo hi 1800 <;> simp <;> omega
theorem s37 : PureOK PP 37 e37 := by
  intro xs ps res h hp
  unfold e37 at h
  split at h
  · rename_i lo hi
    simp only [Option.some.injEq, Prod.mk.injEq] at h
    obtain ⟨rfl, rfl⟩ := h
    simp only [AllP.cons] at hp
    refine enter (L := [0,1,2,3,4,16,20]) (LO := []) (E := []) (O := [(53, pureE e53), (54, pureE e54), (55, pureE e55)]) (ck := true) (.nil) (.cons (pureE_ok s53) (.cons (pureE_ok s54) (.cons (pureE_ok s55) (.nil)))) (k := 37) (f := Try.f37) (xs := [.agg [SI lo, SI hi]]) (r := (.agg [SI (M.bLo lo hi), SI (M.bHi lo hi)])) (by kernel_rfl) (by kernel_rfl) (fun _ => .nil) ?_
    exact Hold.of (r37 lo hi) (br37 lo hi hp)
  · cases h
def e36 : List SV → Option (List Prop × SV)
  | [.agg [.int .i64 a, .int .i64 b], .int .i64 c, .int .i64 d] => some ([], .bool (M.within a b c d))
  | _ => none
def Rr36 (a b c d : Int) : Prop := (decide (a ≤ b) = true → decide (a ≤ b) = true) ∧ (decide (a ≤ b) = true → decide (a ≤ b) = true) ∧ (decide (a ≤ b) = true → decide (a ≤ b) = true) ∧ (decide (a ≤ b) = true → decide (a ≤ b) = true) ∧ (decide (a ≤ b) = true → decide (a ≤ b) = true) ∧ ((bif decide (a ≤ b) then decide (c ≤ a) else false) = true → (bif decide (a ≤ b) then decide (c ≤ a) else false) = true) ∧ ((bif decide (a ≤ b) then decide (c ≤ a) else false) = true → (bif decide (a ≤ b) then decide (c ≤ a) else false) = true) ∧ ((bif decide (a ≤ b) then decide (c ≤ a) else false) = true → (bif decide (a ≤ b) then decide (c ≤ a) else false) = true) ∧ ((bif decide (a ≤ b) then decide (c ≤ a) else false) = true → (bif decide (a ≤ b) then decide (c ≤ a) else false) = true) ∧ ((bif decide (a ≤ b) then decide (c ≤ a) else false) = true → (bif decide (a ≤ b) then decide (c ≤ a) else false) = true) ∧ (bif bif decide (a ≤ b) then decide (c ≤ a) else false then decide (b ≤ d) else false) = M.within a b c d
theorem r36 (a b c d : Int) : V true [] [] Try.f36 [0,1,2,3,6] [] [.agg [SI a, SI b], SI c, SI d] (.bool (M.within a b c d)) = Rr36 a b c d := by kernel_rfl
theorem br36 (a b c d : Int)  : Rr36 a b c d := by
  unfold Rr36
  simp only [M.within]
  by_cases h1 : a ≤ b <;> by_cases h2 : c ≤ a <;> simp [h1, h2]
theorem s36 : PureOK PP 36 e36 := by
  intro xs ps res h hp
  unfold e36 at h
  split at h
  · rename_i a b c d
    simp only [Option.some.injEq, Prod.mk.injEq] at h
    obtain ⟨rfl, rfl⟩ := h
    clear hp
    refine enter (L := [0,1,2,3,6]) (LO := []) (E := []) (O := []) (ck := true) (.nil) (.nil) (k := 36) (f := Try.f36) (xs := [.agg [SI a, SI b], SI c, SI d]) (r := (.bool (M.within a b c d))) (by kernel_rfl) (by kernel_rfl) (fun _ => .nil) ?_
    exact Hold.of (r36 a b c d) (br36 a b c d )
  · cases h
def e38 : List SV → Option (List Prop × SV)
  | [.agg [.int .i64 a, .int .i64 b], .int .i64 c, .int .i64 d] => some ([], .bool (M.within a b c d))
  | _ => none
def Rr38 (a b c d : Int) : Prop := (decide (a ≤ b) = true → decide (a ≤ b) = true) ∧ (decide (a ≤ b) = true → decide (a ≤ b) = true) ∧ (decide (a ≤ b) = true → decide (a ≤ b) = true) ∧ (decide (a ≤ b) = true → decide (a ≤ b) = true) ∧ ((bif decide (a ≤ b) then decide (c ≤ a) else false) = true → (bif decide (a ≤ b) then decide (c ≤ a) else false) = true) ∧ ((bif decide (a ≤ b) then decide (c ≤ a) else false) = true → (bif decide (a ≤ b) then decide (c ≤ a) else false) = true) ∧ ((bif decide (a ≤ b) then decide (c ≤ a) else false) = true → (bif decide (a ≤ b) then decide (c ≤ a) else false) = true) ∧ ((bif decide (a ≤ b) then decide (c ≤ a) else false) = true → (bif decide (a ≤ b) then decide (c ≤ a) else false) = true) ∧ (bif bif decide (a ≤ b) then decide (c ≤ a) else false then decide (b ≤ d) else false) = M.within a b c d
theorem r38 (a b c d : Int) : V true [] [] Try.f38 [0,1,2,3,6] [] [.agg [SI a, SI b], SI c, SI d] (.bool (M.within a b c d)) = Rr38 a b c d := by kernel_rfl
theorem br38 (a b c d : Int)  : Rr38 a b c d := by
  unfold Rr38
  simp only [M.within]
  by_cases h1 : a ≤ b <;> by_cases h2 : c ≤ a <;> simp [h1, h2]
theorem s38 : PureOK PP 38 e38 := by
  intro xs ps res h hp
  unfold e38 at h
  split at h
  · rename_i a b c d
    simp only [Option.some.injEq, Prod.mk.injEq] at h
    obtain ⟨rfl, rfl⟩ := h
    clear hp
    refine enter (L := [0,1,2,3,6]) (LO := []) (E := []) (O := []) (ck := true) (.nil) (.nil) (k := 38) (f := Try.f38) (xs := [.agg [SI a, SI b], SI c, SI d]) (r := (.bool (M.within a b c d))) (by kernel_rfl) (by kernel_rfl) (fun _ => .nil) ?_
    exact Hold.of (r38 a b c d) (br38 a b c d )
  · cases h
def e11 : List SV → Option (List Prop × SV)
  | [.agg [.int .i64 lo, .int .i64 hi]] => some ([], .tup [.agg [SI (if M.cosE lo hi = 0 then M.bLo lo hi else 0), SI (if M.cosE lo hi = 0 then M.bHi lo hi else 0)], SI (M.cosE lo hi)])
  | _ => none
def Rr11 (lo hi : Int) : Prop := ((!M.within lo hi (-1099511627776 : Int) (1099511627776 : Int)) = true → (((0 : Int) = if M.cosE lo hi = (0 : Int) then M.bLo lo hi else (0 : Int)) ∧ (0 : Int) = if M.cosE lo hi = (0 : Int) then M.bHi lo hi else (0 : Int)) ∧ (3 : Int) = M.cosE lo hi) ∧ ((!M.within lo hi (-1099511627776 : Int) (1099511627776 : Int)) = false → (-4000000000000000000 : Int) ≤ lo ∧ lo ≤ (4000000000000000000 : Int) ∧ (-4000000000000000000 : Int) ≤ hi ∧ hi ≤ (4000000000000000000 : Int) ∧ ((M.bLo lo hi = if M.cosE lo hi = (0 : Int) then M.bLo lo hi else (0 : Int)) ∧ M.bHi lo hi = if M.cosE lo hi = (0 : Int) then M.bHi lo hi else (0 : Int)) ∧ (0 : Int) = M.cosE lo hi)
theorem r11 (lo hi : Int) : V true [] [(36, pureE e36), (37, pureE e37)] Try.f11 [0,1,2,3,4,9] [] [.agg [SI lo, SI hi]] (.tup [.agg [SI (if M.cosE lo hi = 0 then M.bLo lo hi else 0), SI (if M.cosE lo hi = 0 then M.bHi lo hi else 0)], SI (M.cosE lo hi)]) = Rr11 lo hi := by kernel_rfl
theorem br11 (lo hi : Int)  : Rr11 lo hi := by
  unfold Rr11
  by_cases h : M.within lo hi (-1099511627776) 1099511627776 = true
  · have e : M.cosE lo hi = 0 := by simp [M.cosE, h]
    simp only [M.within, Bool.and_eq_true, decide_eq_true_eq] at h
    simp only [e, M.within, h]
    simp
    omega
  · have e : M.cosE lo hi = 3 := by simp [M.cosE, h]
    simp [h, e]
theorem s11 : PureOK PP 11 e11 := by
  intro xs ps res h hp
  unfold e11 at h
  split at h
  · rename_i lo hi
    simp only [Option.some.injEq, Prod.mk.injEq] at h
    obtain ⟨rfl, rfl⟩ := h
    clear hp
    refine enter (L := [0,1,2,3,4,9]) (LO := []) (E := []) (O := [(36, pureE e36), (37, pureE e37)]) (ck := true) (.nil) (.cons (pureE_ok s36) (.cons (pureE_ok s37) (.nil))) (k := 11) (f := Try.f11) (xs := [.agg [SI lo, SI hi]]) (r := (.tup [.agg [SI (if M.cosE lo hi = 0 then M.bLo lo hi else 0), SI (if M.cosE lo hi = 0 then M.bHi lo hi else 0)], SI (M.cosE lo hi)])) (by kernel_rfl) (by kernel_rfl) (fun _ => .nil) ?_
    exact Hold.of (r11 lo hi) (br11 lo hi )
  · cases h
def e72 : List SV → Option (List Prop × SV)
  | [.int .i64 a, .int .i64 b] => some ([0 ≤ a, a ≤ 1152921504606846976, 0 ≤ b, b ≤ 1152921504606846976], SI (M.rt a b))
  | _ => none
def Rr72 (a b : Int) : Prop := (0 : Int) ≤ (30 : Int) ∧ (1073741824 : Int) ≠ (0 : Int) ∧ (0 : Int) ≤ (30 : Int) ∧ (1073741824 : Int) ≠ (0 : Int) ∧ R64 (Int.fdiv a ((2 : Int) ^ min (Int.toNat (30 : Int)) (IntKind.bits IntKind.i64)) * Int.fdiv b ((2 : Int) ^ min (Int.toNat (30 : Int)) (IntKind.bits IntKind.i64))) ∧ R64 (Int.fdiv a ((2 : Int) ^ min (Int.toNat (30 : Int)) (IntKind.bits IntKind.i64)) * Int.tmod b (1073741824 : Int)) ∧ R64 (Int.tmod a (1073741824 : Int) * Int.fdiv b ((2 : Int) ^ min (Int.toNat (30 : Int)) (IntKind.bits IntKind.i64))) ∧ R64 (Int.fdiv a ((2 : Int) ^ min (Int.toNat (30 : Int)) (IntKind.bits IntKind.i64)) * Int.tmod b (1073741824 : Int) + Int.tmod a (1073741824 : Int) * Int.fdiv b ((2 : Int) ^ min (Int.toNat (30 : Int)) (IntKind.bits IntKind.i64))) ∧ R64 (Int.tmod a (1073741824 : Int) * Int.tmod b (1073741824 : Int)) ∧ (0 : Int) ≤ (30 : Int) ∧ R64 (Int.fdiv a ((2 : Int) ^ min (Int.toNat (30 : Int)) (IntKind.bits IntKind.i64)) * Int.tmod b (1073741824 : Int) + Int.tmod a (1073741824 : Int) * Int.fdiv b ((2 : Int) ^ min (Int.toNat (30 : Int)) (IntKind.bits IntKind.i64)) + Int.fdiv (Int.tmod a (1073741824 : Int) * Int.tmod b (1073741824 : Int)) ((2 : Int) ^ min (Int.toNat (30 : Int)) (IntKind.bits IntKind.i64))) ∧ (0 : Int) ≤ (30 : Int) ∧ R64 (Int.fdiv a ((2 : Int) ^ min (Int.toNat (30 : Int)) (IntKind.bits IntKind.i64)) * Int.fdiv b ((2 : Int) ^ min (Int.toNat (30 : Int)) (IntKind.bits IntKind.i64)) + Int.fdiv (Int.fdiv a ((2 : Int) ^ min (Int.toNat (30 : Int)) (IntKind.bits IntKind.i64)) * Int.tmod b (1073741824 : Int) + Int.tmod a (1073741824 : Int) * Int.fdiv b ((2 : Int) ^ min (Int.toNat (30 : Int)) (IntKind.bits IntKind.i64)) + Int.fdiv (Int.tmod a (1073741824 : Int) * Int.tmod b (1073741824 : Int)) ((2 : Int) ^ min (Int.toNat (30 : Int)) (IntKind.bits IntKind.i64))) ((2 : Int) ^ min (Int.toNat (30 : Int)) (IntKind.bits IntKind.i64))) ∧ Int.fdiv a ((2 : Int) ^ min (Int.toNat (30 : Int)) (IntKind.bits IntKind.i64)) * Int.fdiv b ((2 : Int) ^ min (Int.toNat (30 : Int)) (IntKind.bits IntKind.i64)) + Int.fdiv (Int.fdiv a ((2 : Int) ^ min (Int.toNat (30 : Int)) (IntKind.bits IntKind.i64)) * Int.tmod b (1073741824 : Int) + Int.tmod a (1073741824 : Int) * Int.fdiv b ((2 : Int) ^ min (Int.toNat (30 : Int)) (IntKind.bits IntKind.i64)) + Int.fdiv (Int.tmod a (1073741824 : Int) * Int.tmod b (1073741824 : Int)) ((2 : Int) ^ min (Int.toNat (30 : Int)) (IntKind.bits IntKind.i64))) ((2 : Int) ^ min (Int.toNat (30 : Int)) (IntKind.bits IntKind.i64)) = M.rt a b
theorem r72 (a b : Int) : V true [] [] Try.f72 [0,1,4,5,6,7,8] [] [SI a, SI b] (SI (M.rt a b)) = Rr72 a b := by kernel_rfl
theorem br72 (a b : Int) (hp : (0 ≤ a) ∧ (a ≤ 1152921504606846976) ∧ (0 ≤ b) ∧ (b ≤ 1152921504606846976) ∧ AllP []) : Rr72 a b := by
  unfold Rr72
  obtain ⟨a1, a2, b1, b2, -⟩ := hp
  have sh30 : (2 : Int) ^ min (Int.toNat 30) (IntKind.bits .i64) = 1073741824 := rfl
  simp only [sh30, fdiv_lit (show (0 : Int) < 1073741824 by omega), Int.tmod_eq_emod_of_nonneg a1, Int.tmod_eq_emod_of_nonneg b1, M.rt]
  obtain ⟨x0, x1, hx0, hx1⟩ : ∃ x0 x1 : Int, a % 1073741824 = x0 ∧ a / 1073741824 = x1 := ⟨_, _, rfl, rfl⟩
  obtain ⟨y0, y1, hy0, hy1⟩ : ∃ y0 y1 : Int, b % 1073741824 = y0 ∧ b / 1073741824 = y1 := ⟨_, _, rfl, rfl⟩
  simp only [hx0, hx1, hy0, hy1]
  have ea : a = x1 * 1073741824 + x0 := by omega
  have eb : b = y1 * 1073741824 + y0 := by omega
  have p0 := prod_bd (a := x0) (b := y0) (m := 1073741824) (n := 1073741824) (by omega) (by omega) (by omega) (by omega)
  have p1 := prod_bd (a := x1) (b := y0) (m := 1073741824) (n := 1073741824) (by omega) (by omega) (by omega) (by omega)
  have p2 := prod_bd (a := x0) (b := y1) (m := 1073741824) (n := 1073741824) (by omega) (by omega) (by omega) (by omega)
  have p3 := prod_bd (a := x1) (b := y1) (m := 1073741824) (n := 1073741824) (by omega) (by omega) (by omega) (by omega)
  have eab : a * b = (x1 * y1) * 1152921504606846976 + (x1 * y0 + x0 * y1) * 1073741824 + x0 * y0 := by
    rw [ea, eb]; simp only [Int.add_mul, Int.mul_add]
    have h1 : x1 * 1073741824 * (y1 * 1073741824) = x1 * y1 * 1152921504606846976 := by
      rw [Int.mul_comm y1, ← Int.mul_assoc, Int.mul_assoc x1, Int.mul_assoc x1, Int.mul_comm _ y1, ← Int.mul_assoc]; rfl
    have h2 : x1 * 1073741824 * y0 = x1 * y0 * 1073741824 := by rw [Int.mul_assoc, Int.mul_comm _ y0, ← Int.mul_assoc]
    have h3 : x0 * (y1 * 1073741824) = x0 * y1 * 1073741824 := by rw [← Int.mul_assoc]
    rw [h1, h2, h3]; omega
  rw [eab]
  clear eab ea eb hx0 hx1 hy0 hy1
  generalize x0 * y0 = P at *
  generalize x1 * y0 = Q at *
  generalize x0 * y1 = R at *
  generalize x1 * y1 = T at *
  simp only [Int.reduceMul] at p0 p1 p2 p3
  unfold R64
  repeat' apply And.intro
  all_goals first | omega | trivial
theorem s72 : PureOK PP 72 e72 := by
  intro xs ps res h hp
  unfold e72 at h
  split at h
  · rename_i a b
    simp only [Option.some.injEq, Prod.mk.injEq] at h
    obtain ⟨rfl, rfl⟩ := h
    simp only [AllP.cons] at hp
    refine enter (L := [0,1,4,5,6,7,8]) (LO := []) (E := []) (O := []) (ck := true) (.nil) (.nil) (k := 72) (f := Try.f72) (xs := [SI a, SI b]) (r := (SI (M.rt a b))) (by kernel_rfl) (by kernel_rfl) (fun _ => .nil) ?_
    exact Hold.of (r72 a b) (br72 a b hp)
  · cases h
def lp68 (t x n : Int) : LoopS where
  ι := Nat
  β := Unit
  pre k := k ≤ M.rK t x n ∧ (0 ≤ t ∧ t ≤ 1152921504606846976 ∧ 0 ≤ x ∧ x ≤ 1152921504606846976 ∧ 0 ≤ n ∧ n ≤ 1)
  μ k := M.rK t x n - k
  next k _ _ _ := k + 1
  out _ := ()
  early _ := false
  SA k := [(5, SI x), (6, SI (n + 2 * k)), (7, SI (M.ru t x n k)), (8, SI (M.rs t x n k)), (9, SI (M.rsg k))]
  SH _ := []
  n0 := 0
  NA _ := [(8, SI (M.rv t x n))]
  NH _ := []
  n1 := 0
  RA _ := []
  RH _ := []
def Rq68 (t x n : Int) (k : Nat) : Prop := (decide ((0 : Int) < M.ru t x n k) = true → R64 (M.rsg k * M.ru t x n k) ∧ R64 (M.rs t x n k + M.rsg k * M.ru t x n k) ∧ (0 : Int) ≤ M.ru t x n k ∧ M.ru t x n k ≤ (1152921504606846976 : Int) ∧ (0 : Int) ≤ x ∧ x ≤ (1152921504606846976 : Int) ∧ (0 : Int) ≤ M.rt (M.ru t x n k) x ∧ M.rt (M.ru t x n k) x ≤ (1152921504606846976 : Int) ∧ (0 : Int) ≤ x ∧ x ≤ (1152921504606846976 : Int) ∧ R64 (n + (2 : Int) * (↑k : Int) + (1 : Int)) ∧ R64 (n + (2 : Int) * (↑k : Int) + (2 : Int)) ∧ R64 ((n + (2 : Int) * (↑k : Int) + (1 : Int)) * (n + (2 : Int) * (↑k : Int) + (2 : Int))) ∧ (n + (2 : Int) * (↑k : Int) + (1 : Int)) * (n + (2 : Int) * (↑k : Int) + (2 : Int)) ≠ (0 : Int) ∧ R64 (Int.tdiv (M.rt (M.rt (M.ru t x n k) x) x) ((n + (2 : Int) * (↑k : Int) + (1 : Int)) * (n + (2 : Int) * (↑k : Int) + (2 : Int)))) ∧ R64 (n + (2 : Int) * (↑k : Int) + (2 : Int)) ∧ R64 (-M.rsg k) ∧ (k + (1 : Nat) ≤ M.rK t x n ∧ (0 : Int) ≤ t ∧ t ≤ (1152921504606846976 : Int) ∧ (0 : Int) ≤ x ∧ x ≤ (1152921504606846976 : Int) ∧ (0 : Int) ≤ n ∧ n ≤ (1 : Int)) ∧ M.rK t x n - (k + (1 : Nat)) < M.rK t x n - k ∧ () = () ∧ x = x ∧ n + (2 : Int) * (↑k : Int) + (2 : Int) = n + (2 : Int) * (↑(k + (1 : Nat)) : Int) ∧ Int.tdiv (M.rt (M.rt (M.ru t x n k) x) x) ((n + (2 : Int) * (↑k : Int) + (1 : Int)) * (n + (2 : Int) * (↑k : Int) + (2 : Int))) = M.ru t x n (k + (1 : Nat)) ∧ M.rs t x n k + M.rsg k * M.ru t x n k = M.rs t x n (k + (1 : Nat)) ∧ -M.rsg k = M.rsg (k + (1 : Nat)) ∧ True) ∧ (decide ((0 : Int) < M.ru t x n k) = false → false = false ∧ M.rs t x n k = M.rv t x n ∧ True)
theorem q68 (t x n : Int) (k : Nat) : VL true [] [(72, pureE e72)] YS.none Try.f68 0 [0,1,4,5,6,7,8,9,16,19] [] 0 (lp68 t x n) (k) = Rq68 t x n k := by kernel_rfl
theorem peq68 (t x n : Int) (k : Nat) : (lp68 t x n).pre (k) = (k ≤ M.rK t x n ∧ (0 : Int) ≤ t ∧ t ≤ (1152921504606846976 : Int) ∧ (0 : Int) ≤ x ∧ x ≤ (1152921504606846976 : Int) ∧ (0 : Int) ≤ n ∧ n ≤ (1 : Int)) := by kernel_rfl
theorem bq68 (t x n : Int) (k : Nat) (hp : k ≤ M.rK t x n ∧ (0 : Int) ≤ t ∧ t ≤ (1152921504606846976 : Int) ∧ (0 : Int) ≤ x ∧ x ≤ (1152921504606846976 : Int) ∧ (0 : Int) ≤ n ∧ n ≤ (1 : Int)) : Rq68 t x n k := by
  unfold Rq68
  obtain ⟨hk, t1, t2, x1, x2, n1, n2⟩ := id hp
  obtain ⟨K1, K2, K3⟩ := M.rK_spec t1 t2 x1 x2 n1
  obtain ⟨y1, y2, y3⟩ := M.ru_le t1 t2 x1 x2 n1 k
  obtain ⟨s1, s2⟩ := M.rs_bd t1 t2 x1 x2 n1 k
  have sg := M.rsg_bd k
  obtain ⟨m1, m2⟩ := M.rt_le y1 x1 x2
  obtain ⟨m3, m4⟩ := M.rt_le m1 x1 x2
  have d1 := prod_bd (a := n + 2 * k + 1) (b := n + 2 * k + 2) (m := 128) (n := 129) (by omega) (by omega) (by omega) (by omega)
  have d2 : 1 * 2 ≤ (n + 2 * k + 1) * (n + 2 * k + 2) := Int.mul_le_mul (by omega) (by omega) (by omega) (by omega)
  have er : M.ru t x n (k + 1) = M.rt (M.rt (M.ru t x n k) x) x / ((n + 2 * k + 1) * (n + 2 * k + 2)) := rfl
  have es : M.rs t x n (k + 1) = M.rs t x n k + M.rsg k * M.ru t x n k := rfl
  have eg : M.rsg (k + 1) = -M.rsg k := rfl
  have u1 := M.ru_le t1 t2 x1 x2 n1 (k + 1)
  rw [Int.tdiv_eq_ediv_of_nonneg m3, ← er, ← es, ← eg]
  obtain ⟨s3, s4⟩ := M.rs_bd t1 t2 x1 x2 n1 (k + 1)
  have sg2 := M.rsg_bd (k + 1)
  have hpr : M.rsg k * M.ru t x n k = M.ru t x n k ∨ M.rsg k * M.ru t x n k = -M.ru t x n k := by
    rcases sg with e | e <;> rw [e] <;> omega
  have eK : M.ru t x n k = 0 → k = M.rK t x n := fun h => by
    rcases Nat.lt_or_ge k (M.rK t x n) with h1 | h1
    · exact absurd h (K3 k h1)
    · omega
  have eN : M.ru t x n k ≠ 0 → k + 1 ≤ M.rK t x n := fun h => by
    rcases Nat.lt_or_ge k (M.rK t x n) with h1 | h1
    · omega
    · have : k = M.rK t x n := by omega
      rw [this] at h
      exact absurd K2 h
  clear er es eg K3
  generalize (n + 2 * k + 1) * (n + 2 * k + 2) = d at *
  generalize M.rsg k * M.ru t x n k = pr at *
  unfold R64
  by_cases h0 : M.ru t x n k = 0
  · have e := eK h0
    simp [h0]
    rw [e]; rfl
  · have hN := eN h0
    have h1 : 0 < M.ru t x n k := by omega
    simp [h1]
    repeat' apply And.intro
    all_goals omega
theorem t68 (t x n : Int) {F : Fence} (hF : FOK F) (Y : YEnv PP YS.none) : ∀ Q A H nx, loopT false Try.f68.ntmps 0 (lp68 t x n) (fun _ _ _ => (0 : Nat)) Q A H nx → WPS Y F Try.f68.ntmps 0 (.block 0 (blkAt 0 Try.f68)) Q A H nx :=
  loopW (E := []) (.nil) (O := [(72, pureE e72)]) (.cons (pureE_ok s72) (.nil)) (ck := true) (L := [0,1,4,5,6,7,8,9,16,19]) (f := Try.f68) (m := 0) (id := 0) (l := (lp68 t x n)) (LI := fun i => []) Y hF (by kernel_rfl) (fun _ => .nil) (by
    rintro k hp
    exact Hold.of (q68 t x n k) (bq68 t x n k ((peq68 t x n k).mp hp)))
def e68 : List SV → Option (List Prop × SV)
  | [.int .i64 k, .bool s] => some ([0 ≤ k, k ≤ 450], SI (M.rcos k s))
  | _ => none
def Rr68 (k : Int) (s : Bool) : Prop := R64 ((2012227627243645 : Int) * k) ∧ R64 ((421 : Int) * k) ∧ (1800 : Int) ≠ (0 : Int) ∧ R64 (Int.tdiv ((421 : Int) * k) (1800 : Int)) ∧ R64 ((2012227627243645 : Int) * k + Int.tdiv ((421 : Int) * k) (1800 : Int)) ∧ (s = true → ((0 : Nat) ≤ M.rK (bif s then M.rx k else (1152921504606846976 : Int)) (M.rx k) (bif s then (1 : Int) else (0 : Int)) ∧ ((0 : Int) ≤ bif s then M.rx k else (1152921504606846976 : Int)) ∧ (bif s then M.rx k else (1152921504606846976 : Int)) ≤ (1152921504606846976 : Int) ∧ (0 : Int) ≤ M.rx k ∧ M.rx k ≤ (1152921504606846976 : Int) ∧ ((0 : Int) ≤ bif s then (1 : Int) else (0 : Int)) ∧ (bif s then (1 : Int) else (0 : Int)) ≤ (1 : Int)) ∧ ((2012227627243645 : Int) * k + Int.tdiv ((421 : Int) * k) (1800 : Int) = M.rx k ∧ (1 : Int) = (bif s then (1 : Int) else (0 : Int)) + (2 : Int) * (↑(0 : Nat) : Int) ∧ (2012227627243645 : Int) * k + Int.tdiv ((421 : Int) * k) (1800 : Int) = M.ru (bif s then M.rx k else (1152921504606846976 : Int)) (M.rx k) (bif s then (1 : Int) else (0 : Int)) (0 : Nat) ∧ (0 : Int) = M.rs (bif s then M.rx k else (1152921504606846976 : Int)) (M.rx k) (bif s then (1 : Int) else (0 : Int)) (0 : Nat) ∧ (1 : Int) = M.rsg (0 : Nat) ∧ True) ∧ (false = false → M.rv (bif s then M.rx k else (1152921504606846976 : Int)) (M.rx k) (bif s then (1 : Int) else (0 : Int)) = M.rcos k s) ∧ (false = true → False)) ∧ (s = false → ((0 : Nat) ≤ M.rK (bif s then M.rx k else (1152921504606846976 : Int)) (M.rx k) (bif s then (1 : Int) else (0 : Int)) ∧ ((0 : Int) ≤ bif s then M.rx k else (1152921504606846976 : Int)) ∧ (bif s then M.rx k else (1152921504606846976 : Int)) ≤ (1152921504606846976 : Int) ∧ (0 : Int) ≤ M.rx k ∧ M.rx k ≤ (1152921504606846976 : Int) ∧ ((0 : Int) ≤ bif s then (1 : Int) else (0 : Int)) ∧ (bif s then (1 : Int) else (0 : Int)) ≤ (1 : Int)) ∧ ((2012227627243645 : Int) * k + Int.tdiv ((421 : Int) * k) (1800 : Int) = M.rx k ∧ (0 : Int) = (bif s then (1 : Int) else (0 : Int)) + (2 : Int) * (↑(0 : Nat) : Int) ∧ (1152921504606846976 : Int) = M.ru (bif s then M.rx k else (1152921504606846976 : Int)) (M.rx k) (bif s then (1 : Int) else (0 : Int)) (0 : Nat) ∧ (0 : Int) = M.rs (bif s then M.rx k else (1152921504606846976 : Int)) (M.rx k) (bif s then (1 : Int) else (0 : Int)) (0 : Nat) ∧ (1 : Int) = M.rsg (0 : Nat) ∧ True) ∧ (false = false → M.rv (bif s then M.rx k else (1152921504606846976 : Int)) (M.rx k) (bif s then (1 : Int) else (0 : Int)) = M.rcos k s) ∧ (false = true → False))
theorem r68 (k : Int) (s : Bool) : V true [] [] Try.f68 [0,1,4,5,6,7,8,9,16,19] [(0, loopT false Try.f68.ntmps 0 (lp68 (bif s then M.rx k else 1152921504606846976) (M.rx k) (bif s then 1 else 0)) (fun _ _ _ => (0 : Nat)))] [SI k, .bool s] (SI (M.rcos k s)) = Rr68 k s := by kernel_rfl
theorem br68 (k : Int) (s : Bool) (hp : (0 ≤ k) ∧ (k ≤ 450) ∧ AllP []) : Rr68 k s := by
  unfold Rr68
  obtain ⟨k1, k2, -⟩ := hp
  have e1 : Int.tdiv (421 * k) 1800 = 421 * k / 1800 := Int.tdiv_eq_ediv_of_nonneg (by omega)
  have e2 : 2012227627243645 * k + 421 * k / 1800 = M.rx k := rfl
  have e3 : 0 ≤ M.rx k ∧ M.rx k ≤ 1152921504606846976 := by unfold M.rx; omega
  rw [e1, e2]
  unfold R64
  cases s
  · simp [M.rcos, M.ru, M.rs, M.rsg]
    omega
  · simp [M.rcos, M.ru, M.rs, M.rsg]
    omega
theorem s68 : PureOK PP 68 e68 := by
  intro xs ps res h hp
  unfold e68 at h
  split at h
  · rename_i k s
    simp only [Option.some.injEq, Prod.mk.injEq] at h
    obtain ⟨rfl, rfl⟩ := h
    simp only [AllP.cons] at hp
    refine enter (L := [0,1,4,5,6,7,8,9,16,19]) (LO := [(0, loopT false Try.f68.ntmps 0 (lp68 (bif s then M.rx k else 1152921504606846976) (M.rx k) (bif s then 1 else 0)) (fun _ _ _ => (0 : Nat)))]) (E := []) (O := []) (ck := true) (.nil) (.nil) (k := 68) (f := Try.f68) (xs := [SI k, .bool s]) (r := (SI (M.rcos k s))) (by kernel_rfl) (by kernel_rfl) (fun Y => .cons (by kernel_rfl) (t68 (bif s then M.rx k else 1152921504606846976) (M.rx k) (bif s then 1 else 0) FOK.wide Y) (.nil)) ?_
    exact Hold.of (r68 k s) (br68 k s hp)
  · cases h
end Go.Proofs.Ytpbgkohljjmbhaa.Sep
/-
  The reference's cosines: bounds. Plain arithmetic. No condition. (This text proves no statement by itself.)
-/
namespace Go.Proofs.Ytpbgkohljjmbhaa.M
open Go
theorem ang (a : Int) : Int.tmod (Int.tmod a 3600 + 3600) 3600 = a % 3600 := by
  have h1 := Int.mul_tdiv_add_tmod a 3600
  have h2 : a.tmod 3600 < 3600 := Int.tmod_lt_of_pos a (by omega)
  have h3 : -3600 < a.tmod 3600 := Int.lt_tmod_of_pos a (by omega)
  rw [Int.tmod_eq_emod_of_nonneg (by omega)]
  omega
theorem rcos_bd {k : Int} (h1 : 0 ≤ k) (h2 : k ≤ 450) (s : Bool) : -2305843009213693952 ≤ rcos k s ∧ rcos k s ≤ 2305843009213693952 := by
  have e3 : 0 ≤ rx k ∧ rx k ≤ 1152921504606846976 := by unfold rx; omega
  unfold rcos rv
  cases s
  · have h := rs_bd (t := 1152921504606846976) (x := rx k) (n := 0) (by omega) (by omega) e3.1 e3.2 (by omega) (rK 1152921504606846976 (rx k) 0)
    have g := ru_le (t := 1152921504606846976) (x := rx k) (n := 0) (by omega) (by omega) e3.1 e3.2 (by omega) (rK 1152921504606846976 (rx k) 0)
    simp only [cond_false]
    omega
  · have h := rs_bd (t := rx k) (x := rx k) (n := 1) e3.1 e3.2 e3.1 e3.2 (by omega) (rK (rx k) (rx k) 1)
    have g := ru_le (t := rx k) (x := rx k) (n := 1) e3.1 e3.2 e3.1 e3.2 (by omega) (rK (rx k) (rx k) 1)
    simp only [cond_true]
    omega
theorem same_qi {k : Int} (h1 : 0 ≤ k) (h2 : k ≤ 900) : rlo k = qlo k ∧ rhi k = qhi k := by
  obtain ⟨n, rfl⟩ := Int.eq_ofNat_of_zero_le h1
  exact same_q n (by omega)
end Go.Proofs.Ytpbgkohljjmbhaa.M
/-
  Contracts of the reference's cosines. No condition. (This text proves no statement by itself.)
-/
namespace Go.Proofs.Ytpbgkohljjmbhaa.Sep
open Go
set_option linter.unusedVariables false
set_option linter.unusedSimpArgs false
def e57a : List SV → Option (List Prop × SV)
  | [.int .i64 a] => some ([0 ≤ a, a ≤ 900], .agg [SI (M.qlo a), SI (M.qhi a)])
  | _ => none
def Rr57a (a : Int) : Prop := (3600 : Int) ≠ (0 : Int) ∧ R64 (Int.tmod a (3600 : Int) + (3600 : Int)) ∧ (3600 : Int) ≠ (0 : Int) ∧ (decide ((1800 : Int) < Int.tmod (Int.tmod a (3600 : Int) + (3600 : Int)) (3600 : Int)) = true → R64 ((3600 : Int) - Int.tmod (Int.tmod a (3600 : Int) + (3600 : Int)) (3600 : Int)) ∧ (decide ((900 : Int) < (3600 : Int) - Int.tmod (Int.tmod a (3600 : Int) + (3600 : Int)) (3600 : Int)) = true → R64 ((1800 : Int) - ((3600 : Int) - Int.tmod (Int.tmod a (3600 : Int) + (3600 : Int)) (3600 : Int))) ∧ False) ∧ (decide ((900 : Int) < (3600 : Int) - Int.tmod (Int.tmod a (3600 : Int) + (3600 : Int)) (3600 : Int)) = false → (decide ((3600 : Int) - Int.tmod (Int.tmod a (3600 : Int) + (3600 : Int)) (3600 : Int) = (0 : Int)) = true → (65536 : Int) = M.qlo a ∧ (65536 : Int) = M.qhi a) ∧ (decide ((3600 : Int) - Int.tmod (Int.tmod a (3600 : Int) + (3600 : Int)) (3600 : Int) = (0 : Int)) = false → (decide ((3600 : Int) - Int.tmod (Int.tmod a (3600 : Int) + (3600 : Int)) (3600 : Int) = (600 : Int)) = true → (32768 : Int) = M.qlo a ∧ (32768 : Int) = M.qhi a) ∧ (decide ((3600 : Int) - Int.tmod (Int.tmod a (3600 : Int) + (3600 : Int)) (3600 : Int) = (600 : Int)) = false → (decide ((3600 : Int) - Int.tmod (Int.tmod a (3600 : Int) + (3600 : Int)) (3600 : Int) = (900 : Int)) = true → (0 : Int) = M.qlo a ∧ (0 : Int) = M.qhi a) ∧ (decide ((3600 : Int) - Int.tmod (Int.tmod a (3600 : Int) + (3600 : Int)) (3600 : Int) = (900 : Int)) = false → (decide ((3600 : Int) - Int.tmod (Int.tmod a (3600 : Int) + (3600 : Int)) (3600 : Int) ≤ (450 : Int)) = true → (0 : Int) ≤ (3600 : Int) - Int.tmod (Int.tmod a (3600 : Int) + (3600 : Int)) (3600 : Int) ∧ (3600 : Int) - Int.tmod (Int.tmod a (3600 : Int) + (3600 : Int)) (3600 : Int) ≤ (450 : Int) ∧ R64 (M.rcos ((3600 : Int) - Int.tmod (Int.tmod a (3600 : Int) + (3600 : Int)) (3600 : Int)) false - (100 : Int)) ∧ (0 : Int) ≤ (44 : Int) ∧ R64 (M.rcos ((3600 : Int) - Int.tmod (Int.tmod a (3600 : Int) + (3600 : Int)) (3600 : Int)) false + (100 : Int)) ∧ (0 : Int) ≤ (44 : Int) ∧ R64 (Int.fdiv (M.rcos ((3600 : Int) - Int.tmod (Int.tmod a (3600 : Int) + (3600 : Int)) (3600 : Int)) false + (100 : Int)) ((2 : Int) ^ min (Int.toNat (44 : Int)) (IntKind.bits IntKind.i64)) + (1 : Int)) ∧ Int.fdiv (M.rcos ((3600 : Int) - Int.tmod (Int.tmod a (3600 : Int) + (3600 : Int)) (3600 : Int)) false - (100 : Int)) ((2 : Int) ^ min (Int.toNat (44 : Int)) (IntKind.bits IntKind.i64)) = M.qlo a ∧ Int.fdiv (M.rcos ((3600 : Int) - Int.tmod (Int.tmod a (3600 : Int) + (3600 : Int)) (3600 : Int)) false + (100 : Int)) ((2 : Int) ^ min (Int.toNat (44 : Int)) (IntKind.bits IntKind.i64)) + (1 : Int) = M.qhi a) ∧ (decide ((3600 : Int) - Int.tmod (Int.tmod a (3600 : Int) + (3600 : Int)) (3600 : Int) ≤ (450 : Int)) = false → R64 ((900 : Int) - ((3600 : Int) - Int.tmod (Int.tmod a (3600 : Int) + (3600 : Int)) (3600 : Int))) ∧ (0 : Int) ≤ (900 : Int) - ((3600 : Int) - Int.tmod (Int.tmod a (3600 : Int) + (3600 : Int)) (3600 : Int)) ∧ (900 : Int) - ((3600 : Int) - Int.tmod (Int.tmod a (3600 : Int) + (3600 : Int)) (3600 : Int)) ≤ (450 : Int) ∧ R64 (M.rcos ((900 : Int) - ((3600 : Int) - Int.tmod (Int.tmod a (3600 : Int) + (3600 : Int)) (3600 : Int))) true - (100 : Int)) ∧ (0 : Int) ≤ (44 : Int) ∧ R64 (M.rcos ((900 : Int) - ((3600 : Int) - Int.tmod (Int.tmod a (3600 : Int) + (3600 : Int)) (3600 : Int))) true + (100 : Int)) ∧ (0 : Int) ≤ (44 : Int) ∧ R64 (Int.fdiv (M.rcos ((900 : Int) - ((3600 : Int) - Int.tmod (Int.tmod a (3600 : Int) + (3600 : Int)) (3600 : Int))) true + (100 : Int)) ((2 : Int) ^ min (Int.toNat (44 : Int)) (IntKind.bits IntKind.i64)) + (1 : Int)) ∧ Int.fdiv (M.rcos ((900 : Int) - ((3600 : Int) - Int.tmod (Int.tmod a (3600 : Int) + (3600 : Int)) (3600 : Int))) true - (100 : Int)) ((2 : Int) ^ min (Int.toNat (44 : Int)) (IntKind.bits IntKind.i64)) = M.qlo a ∧ Int.fdiv (M.rcos ((900 : Int) - ((3600 : Int) - Int.tmod (Int.tmod a (3600 : Int) + (3600 : Int)) (3600 : Int))) true + (100 : Int)) ((2 : Int) ^ min (Int.toNat (44 : Int)) (IntKind.bits IntKind.i64)) + (1 : Int) = M.qhi a)))))) ∧ (decide ((1800 : Int) < Int.tmod (Int.tmod a (3600 : Int) + (3600 : Int)) (3600 : Int)) = false → (decide ((900 : Int) < Int.tmod (Int.tmod a (3600 : Int) + (3600 : Int)) (3600 : Int)) = true → R64 ((1800 : Int) - Int.tmod (Int.tmod a (3600 : Int) + (3600 : Int)) (3600 : Int)) ∧ False) ∧ (decide ((900 : Int) < Int.tmod (Int.tmod a (3600 : Int) + (3600 : Int)) (3600 : Int)) = false → (decide (Int.tmod (Int.tmod a (3600 : Int) + (3600 : Int)) (3600 : Int) = (0 : Int)) = true → (65536 : Int) = M.qlo a ∧ (65536 : Int) = M.qhi a) ∧ (decide (Int.tmod (Int.tmod a (3600 : Int) + (3600 : Int)) (3600 : Int) = (0 : Int)) = false → (decide (Int.tmod (Int.tmod a (3600 : Int) + (3600 : Int)) (3600 : Int) = (600 : Int)) = true → (32768 : Int) = M.qlo a ∧ (32768 : Int) = M.qhi a) ∧ (decide (Int.tmod (Int.tmod a (3600 : Int) + (3600 : Int)) (3600 : Int) = (600 : Int)) = false → (decide (Int.tmod (Int.tmod a (3600 : Int) + (3600 : Int)) (3600 : Int) = (900 : Int)) = true → (0 : Int) = M.qlo a ∧ (0 : Int) = M.qhi a) ∧ (decide (Int.tmod (Int.tmod a (3600 : Int) + (3600 : Int)) (3600 : Int) = (900 : Int)) = false → (decide (Int.tmod (Int.tmod a (3600 : Int) + (3600 : Int)) (3600 : Int) ≤ (450 : Int)) = true → (0 : Int) ≤ Int.tmod (Int.tmod a (3600 : Int) + (3600 : Int)) (3600 : Int) ∧ Int.tmod (Int.tmod a (3600 : Int) + (3600 : Int)) (3600 : Int) ≤ (450 : Int) ∧ R64 (M.rcos (Int.tmod (Int.tmod a (3600 : Int) + (3600 : Int)) (3600 : Int)) false - (100 : Int)) ∧ (0 : Int) ≤ (44 : Int) ∧ R64 (M.rcos (Int.tmod (Int.tmod a (3600 : Int) + (3600 : Int)) (3600 : Int)) false + (100 : Int)) ∧ (0 : Int) ≤ (44 : Int) ∧ R64 (Int.fdiv (M.rcos (Int.tmod (Int.tmod a (3600 : Int) + (3600 : Int)) (3600 : Int)) false + (100 : Int)) ((2 : Int) ^ min (Int.toNat (44 : Int)) (IntKind.bits IntKind.i64)) + (1 : Int)) ∧ Int.fdiv (M.rcos (Int.tmod (Int.tmod a (3600 : Int) + (3600 : Int)) (3600 : Int)) false - (100 : Int)) ((2 : Int) ^ min (Int.toNat (44 : Int)) (IntKind.bits IntKind.i64)) = M.qlo a ∧ Int.fdiv (M.rcos (Int.tmod (Int.tmod a (3600 : Int) + (3600 : Int)) (3600 : Int)) false + (100 : Int)) ((2 : Int) ^ min (Int.toNat (44 : Int)) (IntKind.bits IntKind.i64)) + (1 : Int) = M.qhi a) ∧ (decide (Int.tmod (Int.tmod a (3600 : Int) + (3600 : Int)) (3600 : Int) ≤ (450 : Int)) = false → R64 ((900 : Int) - Int.tmod (Int.tmod a (3600 : Int) + (3600 : Int)) (3600 : Int)) ∧ (0 : Int) ≤ (900 : Int) - Int.tmod (Int.tmod a (3600 : Int) + (3600 : Int)) (3600 : Int) ∧ (900 : Int) - Int.tmod (Int.tmod a (3600 : Int) + (3600 : Int)) (3600 : Int) ≤ (450 : Int) ∧ R64 (M.rcos ((900 : Int) - Int.tmod (Int.tmod a (3600 : Int) + (3600 : Int)) (3600 : Int)) true - (100 : Int)) ∧ (0 : Int) ≤ (44 : Int) ∧ R64 (M.rcos ((900 : Int) - Int.tmod (Int.tmod a (3600 : Int) + (3600 : Int)) (3600 : Int)) true + (100 : Int)) ∧ (0 : Int) ≤ (44 : Int) ∧ R64 (Int.fdiv (M.rcos ((900 : Int) - Int.tmod (Int.tmod a (3600 : Int) + (3600 : Int)) (3600 : Int)) true + (100 : Int)) ((2 : Int) ^ min (Int.toNat (44 : Int)) (IntKind.bits IntKind.i64)) + (1 : Int)) ∧ Int.fdiv (M.rcos ((900 : Int) - Int.tmod (Int.tmod a (3600 : Int) + (3600 : Int)) (3600 : Int)) true - (100 : Int)) ((2 : Int) ^ min (Int.toNat (44 : Int)) (IntKind.bits IntKind.i64)) = M.qlo a ∧ Int.fdiv (M.rcos ((900 : Int) - Int.tmod (Int.tmod a (3600 : Int) + (3600 : Int)) (3600 : Int)) true + (100 : Int)) ((2 : Int) ^ min (Int.toNat (44 : Int)) (IntKind.bits IntKind.i64)) + (1 : Int) = M.qhi a))))))
theorem r57a (a : Int) : V true [] [(68, pureE e68)] Try.f57 [0,2,3,4,5,11,15,26,27,30,33,37] [] [SI a] (.agg [SI (M.qlo a), SI (M.qhi a)]) = Rr57a a := by kernel_rfl
theorem br57a (a : Int) (hp : (0 ≤ a) ∧ (a ≤ 900) ∧ AllP []) : Rr57a a := by
  unfold Rr57a
  obtain ⟨a1, a2, -⟩ := hp
  have ea : a % 3600 = a := by omega
  have eb : a.tmod 3600 = a := by rw [Int.tmod_eq_emod_of_nonneg a1]; omega
  have sh44 : (2 : Int) ^ min (Int.toNat 44) (IntKind.bits .i64) = 17592186044416 := rfl
  obtain ⟨q1, q2⟩ := M.same_qi a1 a2
  rw [← q1, ← q2]
  have ab := M.ang a
  rw [eb, ea] at ab
  simp only [eb, ab, sh44, fdiv_lit (show (0 : Int) < 17592186044416 by omega), M.rlo, M.rhi, M.rq]
  have h1 : ¬ 1800 < a := by omega
  have h2 : ¬ 900 < a := by omega
  unfold R64
  by_cases h0 : a = 0
  · subst h0; simp
  by_cases h6 : a = 600
  · subst h6; simp
  by_cases h9 : a = 900
  · subst h9; simp
  by_cases h4 : a ≤ 450
  · have b1 := M.rcos_bd a1 h4 false
    simp [h0, h6, h9, h4, h1, h2]
    omega
  · have b1 := M.rcos_bd (k := 900 - a) (by omega) (by omega) true
    simp [h0, h6, h9, h4, h1, h2]
    omega
theorem s57a : PureOK PP 57 e57a := by
  intro xs ps res h hp
  unfold e57a at h
  split at h
  · rename_i a
    simp only [Option.some.injEq, Prod.mk.injEq] at h
    obtain ⟨rfl, rfl⟩ := h
    simp only [AllP.cons] at hp
    refine enter (L := [0,2,3,4,5,11,15,26,27,30,33,37]) (LO := []) (E := []) (O := [(68, pureE e68)]) (ck := true) (.nil) (.cons (pureE_ok s68) (.nil)) (k := 57) (f := Try.f57) (xs := [SI a]) (r := (.agg [SI (M.qlo a), SI (M.qhi a)])) (by kernel_rfl) (by kernel_rfl) (fun _ => .nil) ?_
    exact Hold.of (r57a a) (br57a a hp)
  · cases h
def e57 : List SV → Option (List Prop × SV)
  | [.int .i64 a] => some ([-9000000000000000000 ≤ a, a ≤ 9000000000000000000], .agg [SI (M.cLo a), SI (M.cHi a)])
  | _ => none
def Rr57 (a : Int) : Prop := (3600 : Int) ≠ (0 : Int) ∧ R64 (Int.tmod a (3600 : Int) + (3600 : Int)) ∧ (3600 : Int) ≠ (0 : Int) ∧ (decide ((1800 : Int) < Int.tmod (Int.tmod a (3600 : Int) + (3600 : Int)) (3600 : Int)) = true → R64 ((3600 : Int) - Int.tmod (Int.tmod a (3600 : Int) + (3600 : Int)) (3600 : Int)) ∧ (decide ((900 : Int) < (3600 : Int) - Int.tmod (Int.tmod a (3600 : Int) + (3600 : Int)) (3600 : Int)) = true → R64 ((1800 : Int) - ((3600 : Int) - Int.tmod (Int.tmod a (3600 : Int) + (3600 : Int)) (3600 : Int))) ∧ (0 : Int) ≤ (1800 : Int) - ((3600 : Int) - Int.tmod (Int.tmod a (3600 : Int) + (3600 : Int)) (3600 : Int)) ∧ (1800 : Int) - ((3600 : Int) - Int.tmod (Int.tmod a (3600 : Int) + (3600 : Int)) (3600 : Int)) ≤ (900 : Int) ∧ R64 (-M.qhi ((1800 : Int) - ((3600 : Int) - Int.tmod (Int.tmod a (3600 : Int) + (3600 : Int)) (3600 : Int)))) ∧ R64 (-M.qlo ((1800 : Int) - ((3600 : Int) - Int.tmod (Int.tmod a (3600 : Int) + (3600 : Int)) (3600 : Int)))) ∧ -M.qhi ((1800 : Int) - ((3600 : Int) - Int.tmod (Int.tmod a (3600 : Int) + (3600 : Int)) (3600 : Int))) = M.cLo a ∧ -M.qlo ((1800 : Int) - ((3600 : Int) - Int.tmod (Int.tmod a (3600 : Int) + (3600 : Int)) (3600 : Int))) = M.cHi a) ∧ (decide ((900 : Int) < (3600 : Int) - Int.tmod (Int.tmod a (3600 : Int) + (3600 : Int)) (3600 : Int)) = false → (decide ((3600 : Int) - Int.tmod (Int.tmod a (3600 : Int) + (3600 : Int)) (3600 : Int) = (0 : Int)) = true → (65536 : Int) = M.cLo a ∧ (65536 : Int) = M.cHi a) ∧ (decide ((3600 : Int) - Int.tmod (Int.tmod a (3600 : Int) + (3600 : Int)) (3600 : Int) = (0 : Int)) = false → (decide ((3600 : Int) - Int.tmod (Int.tmod a (3600 : Int) + (3600 : Int)) (3600 : Int) = (600 : Int)) = true → (32768 : Int) = M.cLo a ∧ (32768 : Int) = M.cHi a) ∧ (decide ((3600 : Int) - Int.tmod (Int.tmod a (3600 : Int) + (3600 : Int)) (3600 : Int) = (600 : Int)) = false → (decide ((3600 : Int) - Int.tmod (Int.tmod a (3600 : Int) + (3600 : Int)) (3600 : Int) = (900 : Int)) = true → (0 : Int) = M.cLo a ∧ (0 : Int) = M.cHi a) ∧ (decide ((3600 : Int) - Int.tmod (Int.tmod a (3600 : Int) + (3600 : Int)) (3600 : Int) = (900 : Int)) = false → (decide ((3600 : Int) - Int.tmod (Int.tmod a (3600 : Int) + (3600 : Int)) (3600 : Int) ≤ (450 : Int)) = true → (0 : Int) ≤ (3600 : Int) - Int.tmod (Int.tmod a (3600 : Int) + (3600 : Int)) (3600 : Int) ∧ (3600 : Int) - Int.tmod (Int.tmod a (3600 : Int) + (3600 : Int)) (3600 : Int) ≤ (450 : Int) ∧ R64 (M.rcos ((3600 : Int) - Int.tmod (Int.tmod a (3600 : Int) + (3600 : Int)) (3600 : Int)) false - (100 : Int)) ∧ (0 : Int) ≤ (44 : Int) ∧ R64 (M.rcos ((3600 : Int) - Int.tmod (Int.tmod a (3600 : Int) + (3600 : Int)) (3600 : Int)) false + (100 : Int)) ∧ (0 : Int) ≤ (44 : Int) ∧ R64 (Int.fdiv (M.rcos ((3600 : Int) - Int.tmod (Int.tmod a (3600 : Int) + (3600 : Int)) (3600 : Int)) false + (100 : Int)) ((2 : Int) ^ min (Int.toNat (44 : Int)) (IntKind.bits IntKind.i64)) + (1 : Int)) ∧ Int.fdiv (M.rcos ((3600 : Int) - Int.tmod (Int.tmod a (3600 : Int) + (3600 : Int)) (3600 : Int)) false - (100 : Int)) ((2 : Int) ^ min (Int.toNat (44 : Int)) (IntKind.bits IntKind.i64)) = M.cLo a ∧ Int.fdiv (M.rcos ((3600 : Int) - Int.tmod (Int.tmod a (3600 : Int) + (3600 : Int)) (3600 : Int)) false + (100 : Int)) ((2 : Int) ^ min (Int.toNat (44 : Int)) (IntKind.bits IntKind.i64)) + (1 : Int) = M.cHi a) ∧ (decide ((3600 : Int) - Int.tmod (Int.tmod a (3600 : Int) + (3600 : Int)) (3600 : Int) ≤ (450 : Int)) = false → R64 ((900 : Int) - ((3600 : Int) - Int.tmod (Int.tmod a (3600 : Int) + (3600 : Int)) (3600 : Int))) ∧ (0 : Int) ≤ (900 : Int) - ((3600 : Int) - Int.tmod (Int.tmod a (3600 : Int) + (3600 : Int)) (3600 : Int)) ∧ (900 : Int) - ((3600 : Int) - Int.tmod (Int.tmod a (3600 : Int) + (3600 : Int)) (3600 : Int)) ≤ (450 : Int) ∧ R64 (M.rcos ((900 : Int) - ((3600 : Int) - Int.tmod (Int.tmod a (3600 : Int) + (3600 : Int)) (3600 : Int))) true - (100 : Int)) ∧ (0 : Int) ≤ (44 : Int) ∧ R64 (M.rcos ((900 : Int) - ((3600 : Int) - Int.tmod (Int.tmod a (3600 : Int) + (3600 : Int)) (3600 : Int))) true + (100 : Int)) ∧ (0 : Int) ≤ (44 : Int) ∧ R64 (Int.fdiv (M.rcos ((900 : Int) - ((3600 : Int) - Int.tmod (Int.tmod a (3600 : Int) + (3600 : Int)) (3600 : Int))) true + (100 : Int)) ((2 : Int) ^ min (Int.toNat (44 : Int)) (IntKind.bits IntKind.i64)) + (1 : Int)) ∧ Int.fdiv (M.rcos ((900 : Int) - ((3600 : Int) - Int.tmod (Int.tmod a (3600 : Int) + (3600 : Int)) (3600 : Int))) true - (100 : Int)) ((2 : Int) ^ min (Int.toNat (44 : Int)) (IntKind.bits IntKind.i64)) = M.cLo a ∧ Int.fdiv (M.rcos ((900 : Int) - ((3600 : Int) - Int.tmod (Int.tmod a (3600 : Int) + (3600 : Int)) (3600 : Int))) true + (100 : Int)) ((2 : Int) ^ min (Int.toNat (44 : Int)) (IntKind.bits IntKind.i64)) + (1 : Int) = M.cHi a)))))) ∧ (decide ((1800 : Int) < Int.tmod (Int.tmod a (3600 : Int) + (3600 : Int)) (3600 : Int)) = false → (decide ((900 : Int) < Int.tmod (Int.tmod a (3600 : Int) + (3600 : Int)) (3600 : Int)) = true → R64 ((1800 : Int) - Int.tmod (Int.tmod a (3600 : Int) + (3600 : Int)) (3600 : Int)) ∧ (0 : Int) ≤ (1800 : Int) - Int.tmod (Int.tmod a (3600 : Int) + (3600 : Int)) (3600 : Int) ∧ (1800 : Int) - Int.tmod (Int.tmod a (3600 : Int) + (3600 : Int)) (3600 : Int) ≤ (900 : Int) ∧ R64 (-M.qhi ((1800 : Int) - Int.tmod (Int.tmod a (3600 : Int) + (3600 : Int)) (3600 : Int))) ∧ R64 (-M.qlo ((1800 : Int) - Int.tmod (Int.tmod a (3600 : Int) + (3600 : Int)) (3600 : Int))) ∧ -M.qhi ((1800 : Int) - Int.tmod (Int.tmod a (3600 : Int) + (3600 : Int)) (3600 : Int)) = M.cLo a ∧ -M.qlo ((1800 : Int) - Int.tmod (Int.tmod a (3600 : Int) + (3600 : Int)) (3600 : Int)) = M.cHi a) ∧ (decide ((900 : Int) < Int.tmod (Int.tmod a (3600 : Int) + (3600 : Int)) (3600 : Int)) = false → (decide (Int.tmod (Int.tmod a (3600 : Int) + (3600 : Int)) (3600 : Int) = (0 : Int)) = true → (65536 : Int) = M.cLo a ∧ (65536 : Int) = M.cHi a) ∧ (decide (Int.tmod (Int.tmod a (3600 : Int) + (3600 : Int)) (3600 : Int) = (0 : Int)) = false → (decide (Int.tmod (Int.tmod a (3600 : Int) + (3600 : Int)) (3600 : Int) = (600 : Int)) = true → (32768 : Int) = M.cLo a ∧ (32768 : Int) = M.cHi a) ∧ (decide (Int.tmod (Int.tmod a (3600 : Int) + (3600 : Int)) (3600 : Int) = (600 : Int)) = false → (decide (Int.tmod (Int.tmod a (3600 : Int) + (3600 : Int)) (3600 : Int) = (900 : Int)) = true → (0 : Int) = M.cLo a ∧ (0 : Int) = M.cHi a) ∧ (decide (Int.tmod (Int.tmod a (3600 : Int) + (3600 : Int)) (3600 : Int) = (900 : Int)) = false → (decide (Int.tmod (Int.tmod a (3600 : Int) + (3600 : Int)) (3600 : Int) ≤ (450 : Int)) = true → (0 : Int) ≤ Int.tmod (Int.tmod a (3600 : Int) + (3600 : Int)) (3600 : Int) ∧ Int.tmod (Int.tmod a (3600 : Int) + (3600 : Int)) (3600 : Int) ≤ (450 : Int) ∧ R64 (M.rcos (Int.tmod (Int.tmod a (3600 : Int) + (3600 : Int)) (3600 : Int)) false - (100 : Int)) ∧ (0 : Int) ≤ (44 : Int) ∧ R64 (M.rcos (Int.tmod (Int.tmod a (3600 : Int) + (3600 : Int)) (3600 : Int)) false + (100 : Int)) ∧ (0 : Int) ≤ (44 : Int) ∧ R64 (Int.fdiv (M.rcos (Int.tmod (Int.tmod a (3600 : Int) + (3600 : Int)) (3600 : Int)) false + (100 : Int)) ((2 : Int) ^ min (Int.toNat (44 : Int)) (IntKind.bits IntKind.i64)) + (1 : Int)) ∧ Int.fdiv (M.rcos (Int.tmod (Int.tmod a (3600 : Int) + (3600 : Int)) (3600 : Int)) false - (100 : Int)) ((2 : Int) ^ min (Int.toNat (44 : Int)) (IntKind.bits IntKind.i64)) = M.cLo a ∧ Int.fdiv (M.rcos (Int.tmod (Int.tmod a (3600 : Int) + (3600 : Int)) (3600 : Int)) false + (100 : Int)) ((2 : Int) ^ min (Int.toNat (44 : Int)) (IntKind.bits IntKind.i64)) + (1 : Int) = M.cHi a) ∧ (decide (Int.tmod (Int.tmod a (3600 : Int) + (3600 : Int)) (3600 : Int) ≤ (450 : Int)) = false → R64 ((900 : Int) - Int.tmod (Int.tmod a (3600 : Int) + (3600 : Int)) (3600 : Int)) ∧ (0 : Int) ≤ (900 : Int) - Int.tmod (Int.tmod a (3600 : Int) + (3600 : Int)) (3600 : Int) ∧ (900 : Int) - Int.tmod (Int.tmod a (3600 : Int) + (3600 : Int)) (3600 : Int) ≤ (450 : Int) ∧ R64 (M.rcos ((900 : Int) - Int.tmod (Int.tmod a (3600 : Int) + (3600 : Int)) (3600 : Int)) true - (100 : Int)) ∧ (0 : Int) ≤ (44 : Int) ∧ R64 (M.rcos ((900 : Int) - Int.tmod (Int.tmod a (3600 : Int) + (3600 : Int)) (3600 : Int)) true + (100 : Int)) ∧ (0 : Int) ≤ (44 : Int) ∧ R64 (Int.fdiv (M.rcos ((900 : Int) - Int.tmod (Int.tmod a (3600 : Int) + (3600 : Int)) (3600 : Int)) true + (100 : Int)) ((2 : Int) ^ min (Int.toNat (44 : Int)) (IntKind.bits IntKind.i64)) + (1 : Int)) ∧ Int.fdiv (M.rcos ((900 : Int) - Int.tmod (Int.tmod a (3600 : Int) + (3600 : Int)) (3600 : Int)) true - (100 : Int)) ((2 : Int) ^ min (Int.toNat (44 : Int)) (IntKind.bits IntKind.i64)) = M.cLo a ∧ Int.fdiv (M.rcos ((900 : Int) - Int.tmod (Int.tmod a (3600 : Int) + (3600 : Int)) (3600 : Int)) true + (100 : Int)) ((2 : Int) ^ min (Int.toNat (44 : Int)) (IntKind.bits IntKind.i64)) + (1 : Int) = M.cHi a))))))
theorem r57 (a : Int) : V true [] [(57, pureE e57a), (68, pureE e68)] Try.f57 [0,2,3,4,5,11,15,26,27,30,33,37] [] [SI a] (.agg [SI (M.cLo a), SI (M.cHi a)]) = Rr57 a := by kernel_rfl
theorem br57 (a : Int) (hp : (-9000000000000000000 ≤ a) ∧ (a ≤ 9000000000000000000) ∧ AllP []) : Rr57 a := by
  unfold Rr57
  obtain ⟨a1, a2, -⟩ := hp
  have sh44 : (2 : Int) ^ min (Int.toNat 44) (IntKind.bits .i64) = 17592186044416 := rfl
  have hr : R64 (a.tmod 3600 + 3600) := by
    have h2 : a.tmod 3600 < 3600 := Int.tmod_lt_of_pos a (by omega)
    have h3 : -3600 < a.tmod 3600 := Int.lt_tmod_of_pos a (by omega)
    unfold R64; omega
  simp only [M.ang, sh44, fdiv_lit (show (0 : Int) < 17592186044416 by omega), hr, decide_eq_true_eq, decide_eq_false_iff_not]
  unfold M.cLo M.cHi M.ck
  have hk0 : 0 ≤ a % 3600 := by omega
  have hk1 : a % 3600 < 3600 := by omega
  generalize a % 3600 = k at *
  by_cases h : 1800 < k
  · generalize hj : 3600 - k = j
    have e : min k j = j := by omega
    rw [e]
    by_cases g : 900 < j
    · simp [g, h]
      obtain ⟨p1, p2, p3, p4⟩ := M.q_bd (1800 - j)
      unfold R64
      omega
    · obtain ⟨q1, q2⟩ := M.same_qi (k := j) (by omega) (by omega)
      rw [← q1, ← q2]
      simp only [M.rlo, M.rhi, M.rq]
      by_cases h0 : j = 0
      · subst h0; simp [h]; try (unfold R64; omega)
      by_cases h6 : j = 600
      · subst h6; simp [h]; try (unfold R64; omega)
      by_cases h9 : j = 900
      · subst h9; simp [h]; try (unfold R64; omega)
      by_cases h4 : j ≤ 450
      · have b1 := M.rcos_bd (k := j) (by omega) h4 false
        simp [h0, h6, h9, h4, g, h]
        unfold R64
        omega
      · have b1 := M.rcos_bd (k := 900 - j) (by omega) (by omega) true
        simp [h0, h6, h9, h4, g, h]
        unfold R64
        omega
  · have e : min k (3600 - k) = k := by omega
    rw [e]
    generalize hj : k = j at *
    by_cases g : 900 < j
    · simp [g, h]
      obtain ⟨p1, p2, p3, p4⟩ := M.q_bd (1800 - j)
      unfold R64
      omega
    · obtain ⟨q1, q2⟩ := M.same_qi (k := j) (by omega) (by omega)
      rw [← q1, ← q2]
      simp only [M.rlo, M.rhi, M.rq]
      by_cases h0 : j = 0
      · subst h0; simp [h]; try (unfold R64; omega)
      by_cases h6 : j = 600
      · subst h6; simp [h]; try (unfold R64; omega)
      by_cases h9 : j = 900
      · subst h9; simp [h]; try (unfold R64; omega)
      by_cases h4 : j ≤ 450
      · have b1 := M.rcos_bd (k := j) (by omega) h4 false
        simp [h0, h6, h9, h4, g, h]
        unfold R64
        omega
      · have b1 := M.rcos_bd (k := 900 - j) (by omega) (by omega) true
        simp [h0, h6, h9, h4, g, h]
        unfold R64
        omega
theorem s57 : PureOK PP 57 e57 := by
  intro xs ps res h hp
  unfold e57 at h
  split at h
  · rename_i a
    simp only [Option.some.injEq, Prod.mk.injEq] at h
    obtain ⟨rfl, rfl⟩ := h
    simp only [AllP.cons] at hp
    refine enter (L := [0,2,3,4,5,11,15,26,27,30,33,37]) (LO := []) (E := []) (O := [(57, pureE e57a), (68, pureE e68)]) (ck := true) (.nil) (.cons (pureE_ok s57a) (.cons (pureE_ok s68) (.nil))) (k := 57) (f := Try.f57) (xs := [SI a]) (r := (.agg [SI (M.cLo a), SI (M.cHi a)])) (by kernel_rfl) (by kernel_rfl) (fun _ => .nil) ?_
    exact Hold.of (r57 a) (br57 a hp)
  · cases h
def e58 : List SV → Option (List Prop × SV)
  | [.agg [.int .i64 lo, .int .i64 hi], .int .i64 x] => some ([-4000000000000000000 ≤ lo, lo ≤ 4000000000000000000, -4000000000000000000 ≤ hi, hi ≤ 4000000000000000000, 0 ≤ x, x ≤ 3600], .bool (M.meets lo hi x))
  | _ => none
def Rr58 (lo hi x : Int) : Prop := R64 (hi - x) ∧ (0 : Int) < (3600 : Int) ∧ (-9000000000000000000 : Int) ≤ hi - x ∧ hi - x ≤ (9000000000000000000 : Int) ∧ R64 (lo - x) ∧ (0 : Int) < (3600 : Int) ∧ (-9000000000000000000 : Int) ≤ lo - x ∧ lo - x ≤ (9000000000000000000 : Int) ∧ decide (-(-(lo - x) / (3600 : Int)) ≤ (hi - x) / (3600 : Int)) = M.meets lo hi x
theorem r58 (lo hi x : Int) : V true [] [(62, pureE e62), (63, pureE e63)] Try.f58 [0,1,2,4] [] [.agg [SI lo, SI hi], SI x] (.bool (M.meets lo hi x)) = Rr58 lo hi x := by kernel_rfl
theorem br58 (lo hi x : Int) (hp : (-4000000000000000000 ≤ lo) ∧ (lo ≤ 4000000000000000000) ∧ (-4000000000000000000 ≤ hi) ∧ (hi ≤ 4000000000000000000) ∧ (0 ≤ x) ∧ (x ≤ 3600) ∧ AllP []) : Rr58 lo hi x := by
  unfold Rr58
  obtain ⟨a1, a2, b1, b2, x1, x2, -⟩ := hp
  have e : decide (-(-(lo - x) / 3600) ≤ (hi - x) / 3600) = M.meets lo hi x := by
    simp only [M.meets, decide_eq_decide]
    omega
  simp only [e]
  unfold R64
  repeat' apply And.intro
  all_goals first | omega | trivial | rfl
theorem s58 : PureOK PP 58 e58 := by
  intro xs ps res h hp
  unfold e58 at h
  split at h
  · rename_i lo hi x
    simp only [Option.some.injEq, Prod.mk.injEq] at h
    obtain ⟨rfl, rfl⟩ := h
    simp only [AllP.cons] at hp
    refine enter (L := [0,1,2,4]) (LO := []) (E := []) (O := [(62, pureE e62), (63, pureE e63)]) (ck := true) (.nil) (.cons (pureE_ok s62) (.cons (pureE_ok s63) (.nil))) (k := 58) (f := Try.f58) (xs := [.agg [SI lo, SI hi], SI x]) (r := (.bool (M.meets lo hi x))) (by kernel_rfl) (by kernel_rfl) (fun _ => .nil) ?_
    exact Hold.of (r58 lo hi x) (br58 lo hi x hp)
  · cases h
def e39 : List SV → Option (List Prop × SV)
  | [.agg [.int .i64 lo, .int .i64 hi]] => some ([-4000000000000000000 ≤ lo, lo ≤ 4000000000000000000, -4000000000000000000 ≤ hi, hi ≤ 4000000000000000000], .agg [SI (M.bLo lo hi), SI (M.bHi lo hi)])
  | _ => none
def Rr39 (lo hi : Int) : Prop := (-9000000000000000000 : Int) ≤ lo ∧ lo ≤ (9000000000000000000 : Int) ∧ (-9000000000000000000 : Int) ≤ hi ∧ hi ≤ (9000000000000000000 : Int) ∧ (-4000000000000000000 : Int) ≤ lo ∧ lo ≤ (4000000000000000000 : Int) ∧ (-4000000000000000000 : Int) ≤ hi ∧ hi ≤ (4000000000000000000 : Int) ∧ (0 : Int) ≤ (0 : Int) ∧ (0 : Int) ≤ (3600 : Int) ∧ (M.meets lo hi (0 : Int) = true → (-4000000000000000000 : Int) ≤ lo ∧ lo ≤ (4000000000000000000 : Int) ∧ (-4000000000000000000 : Int) ≤ hi ∧ hi ≤ (4000000000000000000 : Int) ∧ (0 : Int) ≤ (1800 : Int) ∧ (1800 : Int) ≤ (3600 : Int) ∧ (M.meets lo hi (1800 : Int) = true → (-65536 : Int) = M.bLo lo hi ∧ (65536 : Int) = M.bHi lo hi) ∧ (M.meets lo hi (1800 : Int) = false → min (M.cLo lo) (M.cLo hi) = M.bLo lo hi ∧ (65536 : Int) = M.bHi lo hi)) ∧ (M.meets lo hi (0 : Int) = false → (-4000000000000000000 : Int) ≤ lo ∧ lo ≤ (4000000000000000000 : Int) ∧ (-4000000000000000000 : Int) ≤ hi ∧ hi ≤ (4000000000000000000 : Int) ∧ (0 : Int) ≤ (1800 : Int) ∧ (1800 : Int) ≤ (3600 : Int) ∧ (M.meets lo hi (1800 : Int) = true → (-65536 : Int) = M.bLo lo hi ∧ max (M.cHi lo) (M.cHi hi) = M.bHi lo hi) ∧ (M.meets lo hi (1800 : Int) = false → min (M.cLo lo) (M.cLo hi) = M.bLo lo hi ∧ max (M.cHi lo) (M.cHi hi) = M.bHi lo hi))
theorem r39 (lo hi : Int) : V true [] [(57, pureE e57), (58, pureE e58)] Try.f39 [0,1,2,3,4,5,24,27] [] [.agg [SI lo, SI hi]] (.agg [SI (M.bLo lo hi), SI (M.bHi lo hi)]) = Rr39 lo hi := by kernel_rfl
theorem br39 (lo hi : Int) (hp : (-4000000000000000000 ≤ lo) ∧ (lo ≤ 4000000000000000000) ∧ (-4000000000000000000 ≤ hi) ∧ (hi ≤ 4000000000000000000) ∧ AllP []) : Rr39 lo hi := by
  unfold Rr39
  obtain ⟨a1, a2, b1, b2, -⟩ := hp
  simp only [M.bLo, M.bHi]
  cases M.meets lo hi 0 <;> cases M.meets lo hi 1800 <;> simp <;> omega
theorem s39 : PureOK PP 39 e39 := by
  intro xs ps res h hp
  unfold e39 at h
  split at h
  · rename_i lo hi
    simp only [Option.some.injEq, Prod.mk.injEq] at h
    obtain ⟨rfl, rfl⟩ := h
    simp only [AllP.cons] at hp
    refine enter (L := [0,1,2,3,4,5,24,27]) (LO := []) (E := []) (O := [(57, pureE e57), (58, pureE e58)]) (ck := true) (.nil) (.cons (pureE_ok s57) (.cons (pureE_ok s58) (.nil))) (k := 39) (f := Try.f39) (xs := [.agg [SI lo, SI hi]]) (r := (.agg [SI (M.bLo lo hi), SI (M.bHi lo hi)])) (by kernel_rfl) (by kernel_rfl) (fun _ => .nil) ?_
    exact Hold.of (r39 lo hi) (br39 lo hi hp)
  · cases h
def e12 : List SV → Option (List Prop × SV)
  | [.agg [.int .i64 lo, .int .i64 hi]] => some ([], .tup [.agg [SI (if M.cosE lo hi = 0 then M.bLo lo hi else 0), SI (if M.cosE lo hi = 0 then M.bHi lo hi else 0)], SI (M.cosE lo hi)])
  | _ => none
def Rr12 (lo hi : Int) : Prop := ((!M.within lo hi (-1099511627776 : Int) (1099511627776 : Int)) = true → (((0 : Int) = if M.cosE lo hi = (0 : Int) then M.bLo lo hi else (0 : Int)) ∧ (0 : Int) = if M.cosE lo hi = (0 : Int) then M.bHi lo hi else (0 : Int)) ∧ (3 : Int) = M.cosE lo hi) ∧ ((!M.within lo hi (-1099511627776 : Int) (1099511627776 : Int)) = false → (-4000000000000000000 : Int) ≤ lo ∧ lo ≤ (4000000000000000000 : Int) ∧ (-4000000000000000000 : Int) ≤ hi ∧ hi ≤ (4000000000000000000 : Int) ∧ ((M.bLo lo hi = if M.cosE lo hi = (0 : Int) then M.bLo lo hi else (0 : Int)) ∧ M.bHi lo hi = if M.cosE lo hi = (0 : Int) then M.bHi lo hi else (0 : Int)) ∧ (0 : Int) = M.cosE lo hi)
theorem r12 (lo hi : Int) : V true [] [(38, pureE e38), (39, pureE e39)] Try.f12 [0,1,2,3,6] [] [.agg [SI lo, SI hi]] (.tup [.agg [SI (if M.cosE lo hi = 0 then M.bLo lo hi else 0), SI (if M.cosE lo hi = 0 then M.bHi lo hi else 0)], SI (M.cosE lo hi)]) = Rr12 lo hi := by kernel_rfl
theorem br12 (lo hi : Int)  : Rr12 lo hi := by
  unfold Rr12
  by_cases h : M.within lo hi (-1099511627776) 1099511627776 = true
  · have e : M.cosE lo hi = 0 := by simp [M.cosE, h]
    simp only [M.within, Bool.and_eq_true, decide_eq_true_eq] at h
    simp only [e, M.within, h]
    simp
    omega
  · have e : M.cosE lo hi = 3 := by simp [M.cosE, h]
    simp [h, e]
theorem s12 : PureOK PP 12 e12 := by
  intro xs ps res h hp
  unfold e12 at h
  split at h
  · rename_i lo hi
    simp only [Option.some.injEq, Prod.mk.injEq] at h
    obtain ⟨rfl, rfl⟩ := h
    clear hp
    refine enter (L := [0,1,2,3,6]) (LO := []) (E := []) (O := [(38, pureE e38), (39, pureE e39)]) (ck := true) (.nil) (.cons (pureE_ok s38) (.cons (pureE_ok s39) (.nil))) (k := 12) (f := Try.f12) (xs := [.agg [SI lo, SI hi]]) (r := (.tup [.agg [SI (if M.cosE lo hi = 0 then M.bLo lo hi else 0), SI (if M.cosE lo hi = 0 then M.bHi lo hi else 0)], SI (M.cosE lo hi)])) (by kernel_rfl) (by kernel_rfl) (fun _ => .nil) ?_
    exact Hold.of (r12 lo hi) (br12 lo hi )
  · cases h
end Go.Proofs.Ytpbgkohljjmbhaa.Sep
/-
  Lists: every one, the first one; the errors of a model of the tide. Plain Lean. No condition. (This text proves no statement by itself.)
-/
namespace Go.Proofs.Ytpbgkohljjmbhaa.M
open Go
def allB (p : Nat → Bool) : Nat → Bool
  | 0 => true
  | n + 1 => allB p n && p n
theorem allB_iff {p : Nat → Bool} : ∀ {n : Nat}, allB p n = true ↔ ∀ k, k < n → p k = true
  | 0 => by simp [allB]
  | n + 1 => by
    simp only [allB, Bool.and_eq_true, allB_iff (n := n)]
    constructor
    · intro h k hk
      by_cases e : k = n
      · subst e; exact h.2
      · exact h.1 k (by omega)
    · intro h; exact ⟨fun k hk => h k (by omega), h n (by omega)⟩
/-- The first one of the first n; n, if there is none. -/
def first (p : Nat → Bool) : Nat → Nat
  | 0 => 0
  | n + 1 => if first p n < n then first p n else if p n then n else n + 1
theorem first_spec (p : Nat → Bool) : ∀ n, first p n ≤ n ∧ (∀ k, k < first p n → p k = false) ∧ (first p n < n → p (first p n) = true)
  | 0 => by simp [first]
  | n + 1 => by
    obtain ⟨h1, h2, h3⟩ := first_spec p n
    simp only [first]
    split
    · rename_i h; exact ⟨by omega, h2, fun _ => h3 h⟩
    · rename_i h
      have e : first p n = n := by omega
      rw [e] at h2
      split
      · rename_i hp; exact ⟨by omega, h2, fun _ => hp⟩
      · rename_i hp
        refine ⟨by omega, fun k hk => ?_, fun hlt => by omega⟩
        by_cases e : k = n
        · subst e; simpa using hp
        · exact h2 k (by omega)
theorem first_at {p : Nat → Bool} {n k : Nat} (hk : k < n) (h : ∀ j, j < k → p j = false) (hp : p k = true) : first p n = k := by
  obtain ⟨h1, h2, h3⟩ := first_spec p n
  rcases Nat.lt_trichotomy (first p n) k with h4 | h4 | h4
  · have := h3 (by omega); rw [h _ h4] at this; cases this
  · exact h4
  · have := h2 k h4; rw [hp] at this; cases this
theorem first_end {p : Nat → Bool} {n : Nat} (h : ∀ j, j < n → p j = false) : first p n = n := by
  obtain ⟨h1, h2, h3⟩ := first_spec p n
  rcases Nat.lt_or_ge (first p n) n with h4 | h4
  · have := h3 h4; rw [h _ h4] at this; cases this
  · omega
theorem first_lt {p : Nat → Bool} {n : Nat} : first p n < n ↔ ¬ allB (fun k => !p k) n = true := by
  rw [allB_iff]
  obtain ⟨h1, h2, h3⟩ := first_spec p n
  constructor
  · intro h e; have := e _ h; rw [h3 h] at this; cases this
  · intro h
    rcases Nat.lt_or_ge (first p n) n with h4 | h4
    · exact h4
    · exact (h fun k hk => by rw [h2 k (by omega)]; rfl).elim
def idx (p : Nat → Bool) (n : Nat) : Int := if first p n < n then first p n else -1
/-- A part is one that is allowed. -/
def okQ (a p h : Int) : Bool := decide (a ≥ 0) && decide (a ≤ 1000) && decide (p ≥ 1) && decide (p ≤ 1000000000) && decide (h ≥ 0) && decide (h < 3600)
def okP (am pe ph : Nat → Int) (k : Nat) : Bool := okQ (am k) (pe k) (ph k)
theorem okP_iff {am pe ph : Nat → Int} {k : Nat} : okP am pe ph k = true ↔ 0 ≤ am k ∧ am k ≤ 1000 ∧ 1 ≤ pe k ∧ pe k ≤ 1000000000 ∧ 0 ≤ ph k ∧ ph k < 3600 := by
  simp only [okP, okQ, Bool.and_eq_true, decide_eq_true_eq]; omega
/-- The error of a model. -/
def modE (mn : Int) (n : Nat) (am pe ph : Nat → Int) : Int := if -10000 ≤ mn ∧ mn ≤ 10000 then if n ≤ 16 then if allB (okP am pe ph) n then 0 else 3 else 9 else 3
theorem modE_iff {mn : Int} {n : Nat} {am pe ph : Nat → Int} : modE mn n am pe ph = 0 ↔ -10000 ≤ mn ∧ mn ≤ 10000 ∧ n ≤ 16 ∧ ∀ k, k < n → okP am pe ph k = true := by
  unfold modE
  rw [← allB_iff]
  grind
end Go.Proofs.Ytpbgkohljjmbhaa.M
/-
  Contracts of the models of the tide: valid ones, and the law's model. No condition. (This text proves no statement by itself.)
-/
namespace Go.Proofs.Ytpbgkohljjmbhaa.Sep
open Go
set_option linter.unusedVariables false
set_option linter.unusedSimpArgs false
def e43 : List SV → Option (List Prop × SV)
  | [.agg [.int .i64 a, .int .i64 p, .int .i64 h]] => some ([], .bool (M.okQ a p h))
  | _ => none
def Rr43 (a p h : Int) : Prop := (decide ((0 : Int) ≤ a) = true → decide ((0 : Int) ≤ a) = true) ∧ (decide ((0 : Int) ≤ a) = true → decide ((0 : Int) ≤ a) = true) ∧ (decide ((0 : Int) ≤ a) = true → decide ((0 : Int) ≤ a) = true) ∧ ((bif decide ((0 : Int) ≤ a) then decide (a ≤ (1000 : Int)) else false) = true → (bif decide ((0 : Int) ≤ a) then decide (a ≤ (1000 : Int)) else false) = true) ∧ ((bif decide ((0 : Int) ≤ a) then decide (a ≤ (1000 : Int)) else false) = true → (bif decide ((0 : Int) ≤ a) then decide (a ≤ (1000 : Int)) else false) = true) ∧ ((bif decide ((0 : Int) ≤ a) then decide (a ≤ (1000 : Int)) else false) = true → (bif decide ((0 : Int) ≤ a) then decide (a ≤ (1000 : Int)) else false) = true) ∧ ((bif bif decide ((0 : Int) ≤ a) then decide (a ≤ (1000 : Int)) else false then decide ((1 : Int) ≤ p) else false) = true → (bif bif decide ((0 : Int) ≤ a) then decide (a ≤ (1000 : Int)) else false then decide ((1 : Int) ≤ p) else false) = true) ∧ ((bif bif decide ((0 : Int) ≤ a) then decide (a ≤ (1000 : Int)) else false then decide ((1 : Int) ≤ p) else false) = true → (bif bif decide ((0 : Int) ≤ a) then decide (a ≤ (1000 : Int)) else false then decide ((1 : Int) ≤ p) else false) = true) ∧ ((bif bif decide ((0 : Int) ≤ a) then decide (a ≤ (1000 : Int)) else false then decide ((1 : Int) ≤ p) else false) = true → (bif bif decide ((0 : Int) ≤ a) then decide (a ≤ (1000 : Int)) else false then decide ((1 : Int) ≤ p) else false) = true) ∧ ((bif bif bif decide ((0 : Int) ≤ a) then decide (a ≤ (1000 : Int)) else false then decide ((1 : Int) ≤ p) else false then decide (p ≤ (1000000000 : Int)) else false) = true → (bif bif bif decide ((0 : Int) ≤ a) then decide (a ≤ (1000 : Int)) else false then decide ((1 : Int) ≤ p) else false then decide (p ≤ (1000000000 : Int)) else false) = true) ∧ ((bif bif bif decide ((0 : Int) ≤ a) then decide (a ≤ (1000 : Int)) else false then decide ((1 : Int) ≤ p) else false then decide (p ≤ (1000000000 : Int)) else false) = true → (bif bif bif decide ((0 : Int) ≤ a) then decide (a ≤ (1000 : Int)) else false then decide ((1 : Int) ≤ p) else false then decide (p ≤ (1000000000 : Int)) else false) = true) ∧ ((bif bif bif decide ((0 : Int) ≤ a) then decide (a ≤ (1000 : Int)) else false then decide ((1 : Int) ≤ p) else false then decide (p ≤ (1000000000 : Int)) else false) = true → (bif bif bif decide ((0 : Int) ≤ a) then decide (a ≤ (1000 : Int)) else false then decide ((1 : Int) ≤ p) else false then decide (p ≤ (1000000000 : Int)) else false) = true) ∧ ((bif bif bif bif decide ((0 : Int) ≤ a) then decide (a ≤ (1000 : Int)) else false then decide ((1 : Int) ≤ p) else false then decide (p ≤ (1000000000 : Int)) else false then decide ((0 : Int) ≤ h) else false) = true → (bif bif bif bif decide ((0 : Int) ≤ a) then decide (a ≤ (1000 : Int)) else false then decide ((1 : Int) ≤ p) else false then decide (p ≤ (1000000000 : Int)) else false then decide ((0 : Int) ≤ h) else false) = true) ∧ ((bif bif bif bif decide ((0 : Int) ≤ a) then decide (a ≤ (1000 : Int)) else false then decide ((1 : Int) ≤ p) else false then decide (p ≤ (1000000000 : Int)) else false then decide ((0 : Int) ≤ h) else false) = true → (bif bif bif bif decide ((0 : Int) ≤ a) then decide (a ≤ (1000 : Int)) else false then decide ((1 : Int) ≤ p) else false then decide (p ≤ (1000000000 : Int)) else false then decide ((0 : Int) ≤ h) else false) = true) ∧ ((bif bif bif bif decide ((0 : Int) ≤ a) then decide (a ≤ (1000 : Int)) else false then decide ((1 : Int) ≤ p) else false then decide (p ≤ (1000000000 : Int)) else false then decide ((0 : Int) ≤ h) else false) = true → (bif bif bif bif decide ((0 : Int) ≤ a) then decide (a ≤ (1000 : Int)) else false then decide ((1 : Int) ≤ p) else false then decide (p ≤ (1000000000 : Int)) else false then decide ((0 : Int) ≤ h) else false) = true) ∧ (bif bif bif bif bif decide ((0 : Int) ≤ a) then decide (a ≤ (1000 : Int)) else false then decide ((1 : Int) ≤ p) else false then decide (p ≤ (1000000000 : Int)) else false then decide ((0 : Int) ≤ h) else false then decide (h < (3600 : Int)) else false) = M.okQ a p h
theorem r43 (a p h : Int) : V true [] [] Try.f43 [0,1,2] [] [.agg [SI a, SI p, SI h]] (.bool (M.okQ a p h)) = Rr43 a p h := by kernel_rfl
theorem br43 (a p h : Int)  : Rr43 a p h := by
  unfold Rr43
  unfold M.okQ
  grind
theorem s43 : PureOK PP 43 e43 := by
  intro xs ps res h hp
  unfold e43 at h
  split at h
  · rename_i a p h
    simp only [Option.some.injEq, Prod.mk.injEq] at h
    obtain ⟨rfl, rfl⟩ := h
    clear hp
    refine enter (L := [0,1,2]) (LO := []) (E := []) (O := []) (ck := true) (.nil) (.nil) (k := 43) (f := Try.f43) (xs := [.agg [SI a, SI p, SI h]]) (r := (.bool (M.okQ a p h))) (by kernel_rfl) (by kernel_rfl) (fun _ => .nil) ?_
    exact Hold.of (r43 a p h) (br43 a p h )
  · cases h
def e42 : List SV → Option (List Prop × SV)
  | [.agg [.int .i64 a, .int .i64 p, .int .i64 h]] => some ([], .bool (!M.okQ a p h))
  | _ => none
def Rr42 (a p h : Int) : Prop := (!M.okQ a p h) = !M.okQ a p h
theorem r42 (a p h : Int) : V true [] [(43, pureE e43)] Try.f42 [0,1,2] [] [.agg [SI a, SI p, SI h]] (.bool (!M.okQ a p h)) = Rr42 a p h := by kernel_rfl
theorem br42 (a p h : Int)  : Rr42 a p h := by
  unfold Rr42
  simp
theorem s42 : PureOK PP 42 e42 := by
  intro xs ps res h hp
  unfold e42 at h
  split at h
  · rename_i a p h
    simp only [Option.some.injEq, Prod.mk.injEq] at h
    obtain ⟨rfl, rfl⟩ := h
    clear hp
    refine enter (L := [0,1,2]) (LO := []) (E := []) (O := [(43, pureE e43)]) (ck := true) (.nil) (.cons (pureE_ok s43) (.nil)) (k := 42) (f := Try.f42) (xs := [.agg [SI a, SI p, SI h]]) (r := (.bool (!M.okQ a p h))) (by kernel_rfl) (by kernel_rfl) (fun _ => .nil) ?_
    exact Hold.of (r42 a p h) (br42 a p h )
  · cases h
@[reducible] def p59 (am pe ph : Nat → Int) : Nat → Bool := fun k => !M.okP am pe ph k
def lp59 (n : Nat) (am pe ph : Nat → Int) : LoopS where
  ι := Nat
  β := Unit
  pre k := (k ≤ n ∧ R64 n) ∧ ∀ j, j < k → (M.okP am pe ph) j = true
  μ k := n - k
  next k _ _ _ := k + 1
  out _ := ()
  early _ := decide (M.first (p59 am pe ph) n < n)
  SA k := [(0, .sl 3 n (fun k => [SI (am k), SI (pe k), SI (ph k)])), (1, .fn 42 [] []), (7, SI n), (8, SI k)]
  SH _ := []
  n0 := 0
  NA _ := []
  NH _ := []
  n1 := 0
  RA _ := [(4, SI (M.first (p59 am pe ph) n))]
  RH _ := []
def Rq59 (n : Nat) (am pe ph : Nat → Int) (k : Nat) : Prop := (decide ((↑k : Int) < (↑n : Int)) = true → (0 : Int) ≤ (↑k : Int) ∧ (↑k : Int) < (↑n : Int) ∧ Int.toNat (↑k : Int) < n ∧ ((!M.okQ (am (Int.toNat (↑k : Int))) (pe (Int.toNat (↑k : Int))) (ph (Int.toNat (↑k : Int)))) = true → decide (M.first (fun k => !M.okP am pe ph k) n < n) = true ∧ (↑k : Int) = (↑(M.first (fun k => !M.okP am pe ph k) n) : Int) ∧ True) ∧ ((!M.okQ (am (Int.toNat (↑k : Int))) (pe (Int.toNat (↑k : Int))) (ph (Int.toNat (↑k : Int)))) = false → R64 ((↑k : Int) + (1 : Int)) ∧ ((k + (1 : Nat) ≤ n ∧ R64 (↑n : Int)) ∧ ∀ (j : Nat), j < k + (1 : Nat) → M.okP am pe ph j = true) ∧ n - (k + (1 : Nat)) < n - k ∧ () = () ∧ (n = n ∧ ∀ (k : Nat), k < n → am k = am k ∧ pe k = pe k ∧ ph k = ph k) ∧ (↑n : Int) = (↑n : Int) ∧ (↑k : Int) + (1 : Int) = (↑(k + (1 : Nat)) : Int) ∧ True)) ∧ (decide ((↑k : Int) < (↑n : Int)) = false → decide (M.first (fun k => !M.okP am pe ph k) n < n) = false ∧ True)
theorem q59 (n : Nat) (am pe ph : Nat → Int) (k : Nat) : VL true [] [(42, pureE e42)] YS.none Try.f59 0 [0,1,4,5,7,8,9,16] [] 0 (lp59 n am pe ph) (k) = Rq59 n am pe ph k := by kernel_rfl
theorem peq59 (n : Nat) (am pe ph : Nat → Int) (k : Nat) : (lp59 n am pe ph).pre (k) = ((k ≤ n ∧ R64 (↑n : Int)) ∧ ∀ (j : Nat), j < k → M.okP am pe ph j = true) := by kernel_rfl
theorem bq59 (n : Nat) (am pe ph : Nat → Int) (k : Nat) (hp : (k ≤ n ∧ R64 (↑n : Int)) ∧ ∀ (j : Nat), j < k → M.okP am pe ph j = true) : Rq59 n am pe ph k := by
  unfold Rq59
  obtain ⟨⟨hp, hm⟩, ho⟩ := hp
  unfold R64 at hm
  simp only [decide_eq_true_eq, decide_eq_false_iff_not, Int.toNat_natCast, Int.natCast_nonneg, true_and, and_true, and_self, implies_true, forall_const, Int.ofNat_lt, Int.natCast_inj, R64]
  refine ⟨fun hk => ⟨by omega, by omega, fun hb => ?_, fun hb => ⟨by omega, ⟨⟨by omega, hm⟩, fun j hj => ?_⟩, by omega, by omega⟩⟩, fun hk => ?_⟩
  · have e : M.first (fun k => !M.okP am pe ph k) n = k := M.first_at (by omega) (fun j hj => by rw [ho j hj]; rfl) hb
    rw [e]
    exact ⟨by omega, rfl⟩
  · by_cases e : j = k
    · subst e; simpa [M.okP] using hb
    · exact ho j (by omega)
  · have e : M.first (fun k => !M.okP am pe ph k) n = n := M.first_end (fun j hj => by rw [ho j (by omega)]; rfl)
    omega
theorem t59 (n : Nat) (am pe ph : Nat → Int) {F : Fence} (hF : FOK F) (Y : YEnv PP YS.none) : ∀ Q A H nx, loopT false Try.f59.ntmps 0 (lp59 n am pe ph) (fun _ _ _ => (0 : Nat)) Q A H nx → WPS Y F Try.f59.ntmps 0 (.block 0 (blkAt 0 Try.f59)) Q A H nx :=
  loopW (E := []) (.nil) (O := [(42, pureE e42)]) (.cons (pureE_ok s42) (.nil)) (ck := true) (L := [0,1,4,5,7,8,9,16]) (f := Try.f59) (m := 0) (id := 0) (l := (lp59 n am pe ph)) (LI := fun i => []) Y hF (by kernel_rfl) (fun _ => .nil) (by
    rintro k hp
    exact Hold.of (q59 n am pe ph k) (bq59 n am pe ph k ((peq59 n am pe ph k).mp hp)))
def e59 : List SV → Option (List Prop × SV)
  | [.sl 3 n g_1, .fn 42 [] []] => some ([Row 3 n g_1, R64 n], SI (M.idx (p59 (cI g_1 0) (cI g_1 1) (cI g_1 2)) n))
  | _ => none
def Rr59 (n : Nat) (am pe ph : Nat → Int) : Prop := (((0 : Nat) ≤ n ∧ R64 (↑n : Int)) ∧ ∀ (j : Nat), j < (0 : Nat) → M.okP am pe ph j = true) ∧ ((n = n ∧ ∀ (k : Nat), k < n → am k = am k ∧ pe k = pe k ∧ ph k = ph k) ∧ (↑n : Int) = (↑n : Int) ∧ (0 : Int) = (↑(0 : Nat) : Int) ∧ True) ∧ (decide (M.first (fun k => !M.okP am pe ph k) n < n) = false → (-1 : Int) = M.idx (fun k => !M.okP am pe ph k) n) ∧ (decide (M.first (fun k => !M.okP am pe ph k) n < n) = true → (↑(M.first (fun k => !M.okP am pe ph k) n) : Int) = M.idx (fun k => !M.okP am pe ph k) n)
theorem r59 (n : Nat) (am pe ph : Nat → Int) : V true [] [] Try.f59 [0,1,4,5,7,8,9,16] [(0, loopT false Try.f59.ntmps 0 (lp59 n am pe ph) (fun _ _ _ => (0 : Nat)))] [.sl 3 n (fun k => [SI (am k), SI (pe k), SI (ph k)]), .fn 42 [] []] (SI (M.idx (p59 am pe ph) n)) = Rr59 n am pe ph := by kernel_rfl
theorem br59 (n : Nat) (am pe ph : Nat → Int) (hp : (R64 n) ∧ AllP []) : Rr59 n am pe ph := by
  unfold Rr59
  refine ⟨⟨⟨by omega, hp.1⟩, fun j hj => by omega⟩, ⟨⟨rfl, fun _ _ => ⟨rfl, rfl, rfl⟩⟩, rfl, rfl, trivial⟩, fun h => ?_, fun h => ?_⟩
  all_goals simp only [decide_eq_true_eq, decide_eq_false_iff_not] at h
  · unfold M.idx; rw [if_neg h]
  · unfold M.idx; rw [if_pos h]
theorem s59 : PureOK PP 59 e59 := by
  intro xs ps res h hp
  unfold e59 at h
  split at h
  · rename_i n g_1
    simp only [Option.some.injEq, Prod.mk.injEq] at h
    obtain ⟨rfl, rfl⟩ := h
    simp only [AllP.cons] at hp
    obtain ⟨Hg_1, hp⟩ := hp
    refine Spec.args (ys := [.sl 3 n (fun k => [SI ((cI g_1 0) k), SI ((cI g_1 1) k), SI ((cI g_1 2) k)]), .fn 42 [] []]) ?_ (.cons (.row Hg_1 fun _ => rfl) (.cons (.refl _) .nil))
    refine enter (L := [0,1,4,5,7,8,9,16]) (LO := [(0, loopT false Try.f59.ntmps 0 (lp59 n (cI g_1 0) (cI g_1 1) (cI g_1 2)) (fun _ _ _ => (0 : Nat)))]) (E := []) (O := []) (ck := true) (.nil) (.nil) (k := 59) (f := Try.f59) (xs := [.sl 3 n (fun k => [SI ((cI g_1 0) k), SI ((cI g_1 1) k), SI ((cI g_1 2) k)]), .fn 42 [] []]) (r := (SI (M.idx (p59 (cI g_1 0) (cI g_1 1) (cI g_1 2)) n))) (by kernel_rfl) (by kernel_rfl) (fun Y => .cons (by kernel_rfl) (t59 n (cI g_1 0) (cI g_1 1) (cI g_1 2) FOK.wide Y) (.nil)) ?_
    exact Hold.of (r59 n (cI g_1 0) (cI g_1 1) (cI g_1 2)) (br59 n (cI g_1 0) (cI g_1 1) (cI g_1 2) hp)
  · cases h
def e41 : List SV → Option (List Prop × SV)
  | [.sl 3 n g_1, .fn 42 [] []] => some ([Row 3 n g_1, R64 n], .bool (!M.allB (M.okP (cI g_1 0) (cI g_1 1) (cI g_1 2)) n))
  | _ => none
def Rr41 (n : Nat) (am pe ph : Nat → Int) : Prop := (∀ (k : Nat), k < n → am k = am k ∧ pe k = pe k ∧ ph k = ph k) ∧ R64 (↑n : Int) ∧ decide ((0 : Int) ≤ M.idx (fun k => !M.okP am pe ph k) n) = !M.allB (M.okP am pe ph) n
theorem r41 (n : Nat) (am pe ph : Nat → Int) : V true [] [(59, pureE e59)] Try.f41 [0,1,4] [] [.sl 3 n (fun k => [SI (am k), SI (pe k), SI (ph k)]), .fn 42 [] []] (.bool (!M.allB (M.okP am pe ph) n)) = Rr41 n am pe ph := by kernel_rfl
theorem br41 (n : Nat) (am pe ph : Nat → Int) (hp : (R64 n) ∧ AllP []) : Rr41 n am pe ph := by
  unfold Rr41
  refine ⟨fun _ _ => ⟨rfl, rfl, rfl⟩, hp.1, ?_⟩
  have h := @M.first_lt (fun k => !M.okP am pe ph k) n
  simp only [Bool.not_not] at h
  unfold M.idx
  rw [Bool.eq_iff_iff]
  simp only [decide_eq_true_eq, Bool.not_eq_true']
  rw [← Bool.not_eq_true, ← h]
  split <;> omega
theorem s41 : PureOK PP 41 e41 := by
  intro xs ps res h hp
  unfold e41 at h
  split at h
  · rename_i n g_1
    simp only [Option.some.injEq, Prod.mk.injEq] at h
    obtain ⟨rfl, rfl⟩ := h
    simp only [AllP.cons] at hp
    obtain ⟨Hg_1, hp⟩ := hp
    refine Spec.args (ys := [.sl 3 n (fun k => [SI ((cI g_1 0) k), SI ((cI g_1 1) k), SI ((cI g_1 2) k)]), .fn 42 [] []]) ?_ (.cons (.row Hg_1 fun _ => rfl) (.cons (.refl _) .nil))
    refine enter (L := [0,1,4]) (LO := []) (E := []) (O := [(59, pureE e59)]) (ck := true) (.nil) (.cons (pureE_ok s59) (.nil)) (k := 41) (f := Try.f41) (xs := [.sl 3 n (fun k => [SI ((cI g_1 0) k), SI ((cI g_1 1) k), SI ((cI g_1 2) k)]), .fn 42 [] []]) (r := (.bool (!M.allB (M.okP (cI g_1 0) (cI g_1 1) (cI g_1 2)) n))) (by kernel_rfl) (by kernel_rfl) (fun _ => .nil) ?_
    exact Hold.of (r41 n (cI g_1 0) (cI g_1 1) (cI g_1 2)) (br41 n (cI g_1 0) (cI g_1 1) (cI g_1 2) hp)
  · cases h
def e14 : List SV → Option (List Prop × SV)
  | [.agg [.int .i64 mn, .sl 3 n g_1]] => some ([Row 3 n g_1, R64 n], SI (M.modE mn n (cI g_1 0) (cI g_1 1) (cI g_1 2)))
  | _ => none
def Rr14 (mn : Int) (n : Nat) (am pe ph : Nat → Int) : Prop := ((!decide (max mn (-10000 : Int) = min mn (10000 : Int))) = true → (3 : Int) = M.modE mn n am pe ph) ∧ ((!decide (max mn (-10000 : Int) = min mn (10000 : Int))) = false → (decide ((16 : Int) < (↑n : Int)) = true → (9 : Int) = M.modE mn n am pe ph) ∧ (decide ((16 : Int) < (↑n : Int)) = false → (∀ (k : Nat), k < n → am k = am k ∧ pe k = pe k ∧ ph k = ph k) ∧ R64 (↑n : Int) ∧ ((!M.allB (M.okP am pe ph) n) = true → (3 : Int) = M.modE mn n am pe ph) ∧ ((!M.allB (M.okP am pe ph) n) = false → (0 : Int) = M.modE mn n am pe ph)))
theorem r14 (mn : Int) (n : Nat) (am pe ph : Nat → Int) : V true [] [(41, pureE e41)] Try.f14 [0,1,2,3,11,16] [] [.agg [SI mn, .sl 3 n (fun k => [SI (am k), SI (pe k), SI (ph k)])]] (SI (M.modE mn n am pe ph)) = Rr14 mn n am pe ph := by kernel_rfl
theorem br14 (mn : Int) (n : Nat) (am pe ph : Nat → Int) (hp : (R64 n) ∧ AllP []) : Rr14 mn n am pe ph := by
  unfold Rr14
  unfold M.modE
  have hn := hp.1
  simp only [R64] at hn ⊢
  grind
theorem s14 : PureOK PP 14 e14 := by
  intro xs ps res h hp
  unfold e14 at h
  split at h
  · rename_i mn n g_1
    simp only [Option.some.injEq, Prod.mk.injEq] at h
    obtain ⟨rfl, rfl⟩ := h
    simp only [AllP.cons] at hp
    obtain ⟨Hg_1, hp⟩ := hp
    refine Spec.args (ys := [.agg [SI mn, .sl 3 n (fun k => [SI ((cI g_1 0) k), SI ((cI g_1 1) k), SI ((cI g_1 2) k)])]]) ?_ (.cons (.agg (.cons (.refl _) (.cons (.row Hg_1 fun _ => rfl) .nil))) .nil)
    refine enter (L := [0,1,2,3,11,16]) (LO := []) (E := []) (O := [(41, pureE e41)]) (ck := true) (.nil) (.cons (pureE_ok s41) (.nil)) (k := 14) (f := Try.f14) (xs := [.agg [SI mn, .sl 3 n (fun k => [SI ((cI g_1 0) k), SI ((cI g_1 1) k), SI ((cI g_1 2) k)])]]) (r := (SI (M.modE mn n (cI g_1 0) (cI g_1 1) (cI g_1 2)))) (by kernel_rfl) (by kernel_rfl) (fun _ => .nil) ?_
    exact Hold.of (r14 mn n (cI g_1 0) (cI g_1 1) (cI g_1 2)) (br14 mn n (cI g_1 0) (cI g_1 1) (cI g_1 2) hp)
  · cases h
def lp16 (mn : Int) (n : Nat) (am pe ph : Nat → Int) : LoopS where
  ι := Nat
  β := Unit
  pre k := (k ≤ n ∧ n ≤ 16) ∧ ∀ j, j < k → (M.okP am pe ph) j = true
  μ k := n - k
  next k _ _ _ := k + 1
  out _ := ()
  early _ := !M.allB (M.okP am pe ph) n
  SA k := [(1, .ptr 0 0), (3, SI k)]
  SH k := [(0, .cells [SI mn, .sl 3 n (fun k => [SI (am k), SI (pe k), SI (ph k)])])]
  n0 := 1
  NA _ := []
  NH _ := []
  n1 := 0
  RA _ := [(2, SI 3)]
  RH _ := []
def Rq16 (mn : Int) (n : Nat) (am pe ph : Nat → Int) (k : Nat) : Prop := (decide ((↑k : Int) < (↑n : Int)) = true → (0 : Int) ≤ (↑k : Int) ∧ (↑k : Int) < (↑n : Int) ∧ Int.toNat (↑k : Int) < n ∧ ((!decide (am (Int.toNat (↑k : Int)) < (0 : Int))) = true → (!decide (am (Int.toNat (↑k : Int)) < (0 : Int))) = true) ∧ ((!decide (am (Int.toNat (↑k : Int)) < (0 : Int))) = true → (!decide (am (Int.toNat (↑k : Int)) < (0 : Int))) = true) ∧ (decide (am (Int.toNat (↑k : Int)) < (0 : Int)) = false → (!decide (am (Int.toNat (↑k : Int)) < (0 : Int))) = true) ∧ ((!bif decide (am (Int.toNat (↑k : Int)) < (0 : Int)) then true else decide ((1000 : Int) < am (Int.toNat (↑k : Int)))) = true → (!bif decide (am (Int.toNat (↑k : Int)) < (0 : Int)) then true else decide ((1000 : Int) < am (Int.toNat (↑k : Int)))) = true) ∧ ((!bif decide (am (Int.toNat (↑k : Int)) < (0 : Int)) then true else decide ((1000 : Int) < am (Int.toNat (↑k : Int)))) = true → (!bif decide (am (Int.toNat (↑k : Int)) < (0 : Int)) then true else decide ((1000 : Int) < am (Int.toNat (↑k : Int)))) = true) ∧ ((bif decide (am (Int.toNat (↑k : Int)) < (0 : Int)) then true else decide ((1000 : Int) < am (Int.toNat (↑k : Int)))) = false → (!bif decide (am (Int.toNat (↑k : Int)) < (0 : Int)) then true else decide ((1000 : Int) < am (Int.toNat (↑k : Int)))) = true) ∧ ((!bif bif decide (am (Int.toNat (↑k : Int)) < (0 : Int)) then true else decide ((1000 : Int) < am (Int.toNat (↑k : Int))) then true else decide (pe (Int.toNat (↑k : Int)) < (1 : Int))) = true → (!bif bif decide (am (Int.toNat (↑k : Int)) < (0 : Int)) then true else decide ((1000 : Int) < am (Int.toNat (↑k : Int))) then true else decide (pe (Int.toNat (↑k : Int)) < (1 : Int))) = true) ∧ ((!bif bif decide (am (Int.toNat (↑k : Int)) < (0 : Int)) then true else decide ((1000 : Int) < am (Int.toNat (↑k : Int))) then true else decide (pe (Int.toNat (↑k : Int)) < (1 : Int))) = true → (!bif bif decide (am (Int.toNat (↑k : Int)) < (0 : Int)) then true else decide ((1000 : Int) < am (Int.toNat (↑k : Int))) then true else decide (pe (Int.toNat (↑k : Int)) < (1 : Int))) = true) ∧ ((bif bif decide (am (Int.toNat (↑k : Int)) < (0 : Int)) then true else decide ((1000 : Int) < am (Int.toNat (↑k : Int))) then true else decide (pe (Int.toNat (↑k : Int)) < (1 : Int))) = false → (!bif bif decide (am (Int.toNat (↑k : Int)) < (0 : Int)) then true else decide ((1000 : Int) < am (Int.toNat (↑k : Int))) then true else decide (pe (Int.toNat (↑k : Int)) < (1 : Int))) = true) ∧ ((!bif bif bif decide (am (Int.toNat (↑k : Int)) < (0 : Int)) then true else decide ((1000 : Int) < am (Int.toNat (↑k : Int))) then true else decide (pe (Int.toNat (↑k : Int)) < (1 : Int)) then true else decide ((1000000000 : Int) < pe (Int.toNat (↑k : Int)))) = true → (!bif bif bif decide (am (Int.toNat (↑k : Int)) < (0 : Int)) then true else decide ((1000 : Int) < am (Int.toNat (↑k : Int))) then true else decide (pe (Int.toNat (↑k : Int)) < (1 : Int)) then true else decide ((1000000000 : Int) < pe (Int.toNat (↑k : Int)))) = true) ∧ ((!bif bif bif decide (am (Int.toNat (↑k : Int)) < (0 : Int)) then true else decide ((1000 : Int) < am (Int.toNat (↑k : Int))) then true else decide (pe (Int.toNat (↑k : Int)) < (1 : Int)) then true else decide ((1000000000 : Int) < pe (Int.toNat (↑k : Int)))) = true → (!bif bif bif decide (am (Int.toNat (↑k : Int)) < (0 : Int)) then true else decide ((1000 : Int) < am (Int.toNat (↑k : Int))) then true else decide (pe (Int.toNat (↑k : Int)) < (1 : Int)) then true else decide ((1000000000 : Int) < pe (Int.toNat (↑k : Int)))) = true) ∧ ((bif bif bif decide (am (Int.toNat (↑k : Int)) < (0 : Int)) then true else decide ((1000 : Int) < am (Int.toNat (↑k : Int))) then true else decide (pe (Int.toNat (↑k : Int)) < (1 : Int)) then true else decide ((1000000000 : Int) < pe (Int.toNat (↑k : Int)))) = false → (!bif bif bif decide (am (Int.toNat (↑k : Int)) < (0 : Int)) then true else decide ((1000 : Int) < am (Int.toNat (↑k : Int))) then true else decide (pe (Int.toNat (↑k : Int)) < (1 : Int)) then true else decide ((1000000000 : Int) < pe (Int.toNat (↑k : Int)))) = true) ∧ ((!bif bif bif bif decide (am (Int.toNat (↑k : Int)) < (0 : Int)) then true else decide ((1000 : Int) < am (Int.toNat (↑k : Int))) then true else decide (pe (Int.toNat (↑k : Int)) < (1 : Int)) then true else decide ((1000000000 : Int) < pe (Int.toNat (↑k : Int))) then true else decide (ph (Int.toNat (↑k : Int)) < (0 : Int))) = true → (!bif bif bif bif decide (am (Int.toNat (↑k : Int)) < (0 : Int)) then true else decide ((1000 : Int) < am (Int.toNat (↑k : Int))) then true else decide (pe (Int.toNat (↑k : Int)) < (1 : Int)) then true else decide ((1000000000 : Int) < pe (Int.toNat (↑k : Int))) then true else decide (ph (Int.toNat (↑k : Int)) < (0 : Int))) = true) ∧ ((!bif bif bif bif decide (am (Int.toNat (↑k : Int)) < (0 : Int)) then true else decide ((1000 : Int) < am (Int.toNat (↑k : Int))) then true else decide (pe (Int.toNat (↑k : Int)) < (1 : Int)) then true else decide ((1000000000 : Int) < pe (Int.toNat (↑k : Int))) then true else decide (ph (Int.toNat (↑k : Int)) < (0 : Int))) = true → (!bif bif bif bif decide (am (Int.toNat (↑k : Int)) < (0 : Int)) then true else decide ((1000 : Int) < am (Int.toNat (↑k : Int))) then true else decide (pe (Int.toNat (↑k : Int)) < (1 : Int)) then true else decide ((1000000000 : Int) < pe (Int.toNat (↑k : Int))) then true else decide (ph (Int.toNat (↑k : Int)) < (0 : Int))) = true) ∧ ((bif bif bif bif decide (am (Int.toNat (↑k : Int)) < (0 : Int)) then true else decide ((1000 : Int) < am (Int.toNat (↑k : Int))) then true else decide (pe (Int.toNat (↑k : Int)) < (1 : Int)) then true else decide ((1000000000 : Int) < pe (Int.toNat (↑k : Int))) then true else decide (ph (Int.toNat (↑k : Int)) < (0 : Int))) = false → (!bif bif bif bif decide (am (Int.toNat (↑k : Int)) < (0 : Int)) then true else decide ((1000 : Int) < am (Int.toNat (↑k : Int))) then true else decide (pe (Int.toNat (↑k : Int)) < (1 : Int)) then true else decide ((1000000000 : Int) < pe (Int.toNat (↑k : Int))) then true else decide (ph (Int.toNat (↑k : Int)) < (0 : Int))) = true) ∧ ((bif bif bif bif bif decide (am (Int.toNat (↑k : Int)) < (0 : Int)) then true else decide ((1000 : Int) < am (Int.toNat (↑k : Int))) then true else decide (pe (Int.toNat (↑k : Int)) < (1 : Int)) then true else decide ((1000000000 : Int) < pe (Int.toNat (↑k : Int))) then true else decide (ph (Int.toNat (↑k : Int)) < (0 : Int)) then true else decide ((3600 : Int) ≤ ph (Int.toNat (↑k : Int)))) = true → (!M.allB (M.okP am pe ph) n) = true ∧ (3 : Int) = (3 : Int) ∧ True) ∧ ((bif bif bif bif bif decide (am (Int.toNat (↑k : Int)) < (0 : Int)) then true else decide ((1000 : Int) < am (Int.toNat (↑k : Int))) then true else decide (pe (Int.toNat (↑k : Int)) < (1 : Int)) then true else decide ((1000000000 : Int) < pe (Int.toNat (↑k : Int))) then true else decide (ph (Int.toNat (↑k : Int)) < (0 : Int)) then true else decide ((3600 : Int) ≤ ph (Int.toNat (↑k : Int)))) = false → R64 ((↑k : Int) + (1 : Int)) ∧ ((k + (1 : Nat) ≤ n ∧ n ≤ (16 : Nat)) ∧ ∀ (j : Nat), j < k + (1 : Nat) → M.okP am pe ph j = true) ∧ n - (k + (1 : Nat)) < n - k ∧ () = () ∧ (↑k : Int) + (1 : Int) = (↑(k + (1 : Nat)) : Int) ∧ mn = mn ∧ (n = n ∧ ∀ (k : Nat), k < n → am k = am k ∧ pe k = pe k ∧ ph k = ph k) ∧ True)) ∧ (decide ((↑k : Int) < (↑n : Int)) = false → (!M.allB (M.okP am pe ph) n) = false ∧ True)
theorem q16 (mn : Int) (n : Nat) (am pe ph : Nat → Int) (k : Nat) : VL true [] [] YS.none Try.f16 0 [0,1,2,3,4,12,16,21,56] [] 0 (lp16 mn n am pe ph) (k) = Rq16 mn n am pe ph k := by kernel_rfl
theorem peq16 (mn : Int) (n : Nat) (am pe ph : Nat → Int) (k : Nat) : (lp16 mn n am pe ph).pre (k) = ((k ≤ n ∧ n ≤ (16 : Nat)) ∧ ∀ (j : Nat), j < k → M.okP am pe ph j = true) := by kernel_rfl
theorem bq16 (mn : Int) (n : Nat) (am pe ph : Nat → Int) (k : Nat) (hp : (k ≤ n ∧ n ≤ (16 : Nat)) ∧ ∀ (j : Nat), j < k → M.okP am pe ph j = true) : Rq16 mn n am pe ph k := by
  unfold Rq16
  obtain ⟨⟨hk, hn⟩, ho⟩ := hp
  have ha := @M.allB_iff (M.okP am pe ph) n
  have hb := @M.okP_iff am pe ph k
  simp only [Int.toNat_natCast]
  by_cases hlt : k < n
  · by_cases hq : M.okP am pe ph k = true
    · obtain ⟨f1, f2, f3, f4, f5, f6⟩ := hb.1 hq
      have hn' : ∀ j, j < k + 1 → M.okP am pe ph j = true := fun j hj => by
        by_cases e : j = k
        · subst e; exact hq
        · exact ho j (by omega)
      simp [hlt, Int.not_lt.2 f1, Int.not_lt.2 f2, Int.not_lt.2 f3, Int.not_lt.2 f4, Int.not_lt.2 f5, Int.not_le.2 f6]
      unfold R64
      repeat' apply And.intro
      all_goals first | omega | exact hn'
    · have hall : M.allB (M.okP am pe ph) n = false := by
        rw [Bool.eq_false_iff]
        intro h
        exact hq (ha.1 h k (by omega))
      have hq' : ¬ (0 ≤ am k ∧ am k ≤ 1000 ∧ 1 ≤ pe k ∧ pe k ≤ 1000000000 ∧ 0 ≤ ph k ∧ ph k < 3600) := fun h => hq (hb.2 h)
      simp [hlt, hall]
      omega
  · have := ha.2 (fun j hj => ho j (by omega))
    simp [hlt, this]
theorem t16 (mn : Int) (n : Nat) (am pe ph : Nat → Int) {F : Fence} (hF : FOK F) (Y : YEnv PP YS.none) : ∀ Q A H nx, loopT false Try.f16.ntmps 0 (lp16 mn n am pe ph) (fun _ _ _ => (0 : Nat)) Q A H nx → WPS Y F Try.f16.ntmps 0 (.block 0 (blkAt 0 Try.f16)) Q A H nx :=
  loopW (E := []) (.nil) (O := []) (.nil) (ck := true) (L := [0,1,2,3,4,12,16,21,56]) (f := Try.f16) (m := 0) (id := 0) (l := (lp16 mn n am pe ph)) (LI := fun i => []) Y hF (by kernel_rfl) (fun _ => .nil) (by
    rintro k hp
    exact Hold.of (q16 mn n am pe ph k) (bq16 mn n am pe ph k ((peq16 mn n am pe ph k).mp hp)))
def e16 : List SV → Option (List Prop × SV)
  | [.agg [.int .i64 mn, .sl 3 n g_1]] => some ([Row 3 n g_1, R64 n], SI (M.modE mn n (cI g_1 0) (cI g_1 1) (cI g_1 2)))
  | _ => none
def Rr16 (mn : Int) (n : Nat) (am pe ph : Nat → Int) : Prop := ((!decide (mn < (-10000 : Int))) = true → (!decide (mn < (-10000 : Int))) = true) ∧ ((!decide (mn < (-10000 : Int))) = true → (!decide (mn < (-10000 : Int))) = true) ∧ (decide (mn < (-10000 : Int)) = false → (!decide (mn < (-10000 : Int))) = true) ∧ ((bif decide (mn < (-10000 : Int)) then true else decide ((10000 : Int) < mn)) = true → (3 : Int) = M.modE mn n am pe ph) ∧ ((bif decide (mn < (-10000 : Int)) then true else decide ((10000 : Int) < mn)) = false → (decide ((16 : Int) < (↑n : Int)) = true → (9 : Int) = M.modE mn n am pe ph) ∧ (decide ((16 : Int) < (↑n : Int)) = false → (((0 : Nat) ≤ n ∧ n ≤ (16 : Nat)) ∧ ∀ (j : Nat), j < (0 : Nat) → M.okP am pe ph j = true) ∧ ((0 : Int) = (↑(0 : Nat) : Int) ∧ mn = mn ∧ (n = n ∧ ∀ (k : Nat), k < n → am k = am k ∧ pe k = pe k ∧ ph k = ph k) ∧ True) ∧ ((!M.allB (M.okP am pe ph) n) = false → (0 : Int) = M.modE mn n am pe ph) ∧ ((!M.allB (M.okP am pe ph) n) = true → (3 : Int) = M.modE mn n am pe ph)))
theorem r16 (mn : Int) (n : Nat) (am pe ph : Nat → Int) : V true [] [] Try.f16 [0,1,2,3,4,12,16,21,56] [(0, loopT false Try.f16.ntmps 0 (lp16 mn n am pe ph) (fun _ _ _ => (0 : Nat)))] [.agg [SI mn, .sl 3 n (fun k => [SI (am k), SI (pe k), SI (ph k)])]] (SI (M.modE mn n am pe ph)) = Rr16 mn n am pe ph := by kernel_rfl
theorem br16 (mn : Int) (n : Nat) (am pe ph : Nat → Int) (hp : (R64 n) ∧ AllP []) : Rr16 mn n am pe ph := by
  unfold Rr16
  unfold M.modE
  have hn := hp.1
  simp only [R64] at hn ⊢
  cases M.allB (M.okP am pe ph) n <;> simp <;> omega
theorem s16 : PureOK PP 16 e16 := by
  intro xs ps res h hp
  unfold e16 at h
  split at h
  · rename_i mn n g_1
    simp only [Option.some.injEq, Prod.mk.injEq] at h
    obtain ⟨rfl, rfl⟩ := h
    simp only [AllP.cons] at hp
    obtain ⟨Hg_1, hp⟩ := hp
    refine Spec.args (ys := [.agg [SI mn, .sl 3 n (fun k => [SI ((cI g_1 0) k), SI ((cI g_1 1) k), SI ((cI g_1 2) k)])]]) ?_ (.cons (.agg (.cons (.refl _) (.cons (.row Hg_1 fun _ => rfl) .nil))) .nil)
    refine enter (L := [0,1,2,3,4,12,16,21,56]) (LO := [(0, loopT false Try.f16.ntmps 0 (lp16 mn n (cI g_1 0) (cI g_1 1) (cI g_1 2)) (fun _ _ _ => (0 : Nat)))]) (E := []) (O := []) (ck := true) (.nil) (.nil) (k := 16) (f := Try.f16) (xs := [.agg [SI mn, .sl 3 n (fun k => [SI ((cI g_1 0) k), SI ((cI g_1 1) k), SI ((cI g_1 2) k)])]]) (r := (SI (M.modE mn n (cI g_1 0) (cI g_1 1) (cI g_1 2)))) (by kernel_rfl) (by kernel_rfl) (fun Y => .cons (by kernel_rfl) (t16 mn n (cI g_1 0) (cI g_1 1) (cI g_1 2) FOK.wide Y) (.nil)) ?_
    exact Hold.of (r16 mn n (cI g_1 0) (cI g_1 1) (cI g_1 2)) (br16 mn n (cI g_1 0) (cI g_1 1) (cI g_1 2) hp)
  · cases h
def lp15 (mn : Int) (n : Nat) (am pe ph : Nat → Int) : LoopS where
  ι := Nat
  β := Unit
  pre k := k ≤ n ∧ n ≤ 100
  μ k := n - k
  next k _ _ _ := k + 1
  out _ := ()
  early _ := false
  SA k := [(1, .ptr 0 0), (2, .ptr 1 0), (3, .ptr 2 0), (4, SI k)]
  SH k := [(0, .cells [SI mn, .sl 3 n (fun k => [SI (am k), SI (pe k), SI (ph k)])]), (1, .cells [.top, .top]), (2, .cells [SI mn, .vec 3 3 0 k]), (3, .row 3 k (fun k => [SI (am k), SI (pe k), SI (ph k)]))]
  n0 := 4
  NA _ := [(2, .ptr 0 0), (3, .ptr 1 0)]
  NH _ := [(0, .cells [.top, .top]), (1, .cells [SI mn, .vec 2 3 0 n]), (2, .row 3 n (fun k => [SI (am k), SI (pe k), SI (ph k)]))]
  n1 := 3
  RA _ := []
  RH _ := []
def Rq15 (mn : Int) (n : Nat) (am pe ph : Nat → Int) (k : Nat) : Prop := (decide ((↑k : Int) < (↑n : Int)) = true → (0 : Int) ≤ (↑k : Int) ∧ (↑k : Int) < (↑n : Int) ∧ Int.toNat (↑k : Int) < n ∧ (0 : Int) ≤ (↑k : Int) ∧ (↑k : Int) < (↑n : Int) ∧ Int.toNat (↑k : Int) < n ∧ (0 : Int) ≤ (↑k : Int) ∧ (↑k : Int) < (↑n : Int) ∧ Int.toNat (↑k : Int) < n ∧ (0 : Nat) + (1 : Nat) ≤ (1 : Nat) ∧ (∀ (k : Nat), k < (1 : Nat) → true = true) ∧ k ≤ k ∧ (k + (1 : Nat)) * (24 : Nat) ≤ (140737488355328 : Nat) ∧ R64 ((↑k : Int) + (1 : Int)) ∧ (k + (1 : Nat) ≤ n ∧ n ≤ (100 : Nat)) ∧ n - (k + (1 : Nat)) < n - k ∧ () = () ∧ (↑k : Int) + (1 : Int) = (↑(k + (1 : Nat)) : Int) ∧ mn = mn ∧ (n = n ∧ ∀ (k : Nat), k < n → am k = am k ∧ pe k = pe k ∧ ph k = ph k) ∧ mn = mn ∧ (0 : Nat) = (0 : Nat) ∧ k + (1 : Nat) = k + (1 : Nat) ∧ k + (1 : Nat) ≤ k + (1 : Nat) ∧ (∀ (k_1 : Nat), k_1 < k + (1 : Nat) → (bif decide (k_1 < k) then am k_1 else am (Int.toNat (↑k : Int))) = am k_1 ∧ (bif decide (k_1 < k) then pe k_1 else pe (Int.toNat (↑k : Int))) = pe k_1 ∧ (bif decide (k_1 < k) then ph k_1 else ph (Int.toNat (↑k : Int))) = ph k_1) ∧ True) ∧ (decide ((↑k : Int) < (↑n : Int)) = false → false = false ∧ mn = mn ∧ (0 : Nat) = (0 : Nat) ∧ k = n ∧ n ≤ k ∧ (∀ (k : Nat), k < n → am k = am k ∧ pe k = pe k ∧ ph k = ph k) ∧ True)
theorem q15 (mn : Int) (n : Nat) (am pe ph : Nat → Int) (k : Nat) : VL true [] [] YS.none Try.f15 0 [0,1,2,3,4,12] [] 0 (lp15 mn n am pe ph) (k) = Rq15 mn n am pe ph k := by kernel_rfl
theorem peq15 (mn : Int) (n : Nat) (am pe ph : Nat → Int) (k : Nat) : (lp15 mn n am pe ph).pre (k) = (k ≤ n ∧ n ≤ (100 : Nat)) := by kernel_rfl
theorem bq15 (mn : Int) (n : Nat) (am pe ph : Nat → Int) (k : Nat) (hp : k ≤ n ∧ n ≤ (100 : Nat)) : Rq15 mn n am pe ph k := by
  unfold Rq15
  obtain ⟨hk, hn⟩ := hp
  simp only [Int.toNat_natCast, decide_eq_true_eq, decide_eq_false_iff_not]
  unfold R64
  have hc : ∀ (u : Nat → Int) (j : Nat), j < k + 1 → (bif decide (j < k) then u j else u k) = u j := fun u j hj => by
    by_cases e : j < k
    · simp [e]
    · have : j = k := by omega
      subst this; simp
  refine ⟨fun hlt => ?_, fun hlt => ?_⟩
  · simp only [true_and, and_true]
    repeat' apply And.intro
    all_goals first | omega | (intro j hj; exact ⟨hc _ _ hj, hc _ _ hj, hc _ _ hj⟩) | simp
  · simp
    omega
theorem t15 (mn : Int) (n : Nat) (am pe ph : Nat → Int) {F : Fence} (hF : FOK F) (Y : YEnv PP YS.none) : ∀ Q A H nx, loopT false Try.f15.ntmps 0 (lp15 mn n am pe ph) (fun _ _ _ => (0 : Nat)) Q A H nx → WPS Y F Try.f15.ntmps 0 (.block 0 (blkAt 0 Try.f15)) Q A H nx :=
  loopW (E := []) (.nil) (O := []) (.nil) (ck := true) (L := [0,1,2,3,4,12]) (f := Try.f15) (m := 0) (id := 0) (l := (lp15 mn n am pe ph)) (LI := fun i => []) Y hF (by kernel_rfl) (fun _ => .nil) (by
    rintro k hp
    exact Hold.of (q15 mn n am pe ph k) (bq15 mn n am pe ph k ((peq15 mn n am pe ph k).mp hp)))
def e15 : List SV → Option (List Prop × SV)
  | [.agg [.int .i64 mn, .sl 3 n g_1]] => some ([Row 3 n g_1, n ≤ 100], .agg [SI mn, .sl 3 n (fun k => [SI ((cI g_1 0) k), SI ((cI g_1 1) k), SI ((cI g_1 2) k)])])
  | _ => none
def Rr15 (mn : Int) (n : Nat) (am pe ph : Nat → Int) : Prop := ((0 : Nat) ≤ n ∧ n ≤ (100 : Nat)) ∧ ((0 : Int) = (↑(0 : Nat) : Int) ∧ mn = mn ∧ (n = n ∧ ∀ (k : Nat), k < n → am k = am k ∧ pe k = pe k ∧ ph k = ph k) ∧ mn = mn ∧ (0 : Nat) = (0 : Nat) ∧ (0 : Nat) = (0 : Nat) ∧ True) ∧ (false = false → (0 : Nat) + n ≤ n ∧ mn = mn ∧ n = n ∧ ∀ (k : Nat), k < n → am ((0 : Nat) + k) = am k ∧ pe ((0 : Nat) + k) = pe k ∧ ph ((0 : Nat) + k) = ph k) ∧ (false = true → False)
theorem r15 (mn : Int) (n : Nat) (am pe ph : Nat → Int) : V true [] [] Try.f15 [0,1,2,3,4,12] [(0, loopT false Try.f15.ntmps 0 (lp15 mn n am pe ph) (fun _ _ _ => (0 : Nat)))] [.agg [SI mn, .sl 3 n (fun k => [SI (am k), SI (pe k), SI (ph k)])]] (.agg [SI mn, .sl 3 n (fun k => [SI (am k), SI (pe k), SI (ph k)])]) = Rr15 mn n am pe ph := by kernel_rfl
theorem br15 (mn : Int) (n : Nat) (am pe ph : Nat → Int) (hp : (n ≤ 100) ∧ AllP []) : Rr15 mn n am pe ph := by
  unfold Rr15
  simp [hp.1]
theorem s15 : PureOK PP 15 e15 := by
  intro xs ps res h hp
  unfold e15 at h
  split at h
  · rename_i mn n g_1
    simp only [Option.some.injEq, Prod.mk.injEq] at h
    obtain ⟨rfl, rfl⟩ := h
    simp only [AllP.cons] at hp
    obtain ⟨Hg_1, hp⟩ := hp
    refine Spec.args (ys := [.agg [SI mn, .sl 3 n (fun k => [SI ((cI g_1 0) k), SI ((cI g_1 1) k), SI ((cI g_1 2) k)])]]) ?_ (.cons (.agg (.cons (.refl _) (.cons (.row Hg_1 fun _ => rfl) .nil))) .nil)
    refine enter (L := [0,1,2,3,4,12]) (LO := [(0, loopT false Try.f15.ntmps 0 (lp15 mn n (cI g_1 0) (cI g_1 1) (cI g_1 2)) (fun _ _ _ => (0 : Nat)))]) (E := []) (O := []) (ck := true) (.nil) (.nil) (k := 15) (f := Try.f15) (xs := [.agg [SI mn, .sl 3 n (fun k => [SI ((cI g_1 0) k), SI ((cI g_1 1) k), SI ((cI g_1 2) k)])]]) (r := (.agg [SI mn, .sl 3 n (fun k => [SI ((cI g_1 0) k), SI ((cI g_1 1) k), SI ((cI g_1 2) k)])])) (by kernel_rfl) (by kernel_rfl) (fun Y => .cons (by kernel_rfl) (t15 mn n (cI g_1 0) (cI g_1 1) (cI g_1 2) FOK.wide Y) (.nil)) ?_
    exact Hold.of (r15 mn n (cI g_1 0) (cI g_1 1) (cI g_1 2)) (br15 mn n (cI g_1 0) (cI g_1 1) (cI g_1 2) hp)
  · cases h
end Go.Proofs.Ytpbgkohljjmbhaa.Sep
