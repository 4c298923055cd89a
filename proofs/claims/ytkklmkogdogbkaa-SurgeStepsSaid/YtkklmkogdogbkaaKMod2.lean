/-
  What the stage 'surge' computes, in plain numbers: water, rays, rises. No condition. (This text proves no statement by itself.)
-/
import Derived.Test.YtkklmkogdogbkaaKSep17

namespace Go.Proofs.Ytkklmkogdogbkaa.M
/-- A number that is not too great. -/
def Sm (x : Int) : Prop := -100000000000000000 ≤ x ∧ x ≤ 100000000000000000

/-- Ground with a span of levels of the sea. -/
structure W where
  w : Int
  h : Int
  s : Int
  n : Nat
  x : Nat → Int
  y : Nat → Int
  lo : Int
  hi : Int
structure W.ok (g : W) : Prop where
  w1 : 1 ≤ g.w
  w2 : g.w ≤ 24
  h1 : 1 ≤ g.h
  h2 : g.h ≤ 24
  s1 : 1 ≤ g.s
  s2 : g.s ≤ 10000
  nn : (g.n : Int) = g.w * g.h
  gr : ∀ k, k < g.n → g.x k ≤ g.y k ∧ -1200000 ≤ g.x k ∧ g.y k ≤ 1200000
  s3 : g.lo ≤ g.hi
  s4 : -20000 ≤ g.lo
  s5 : g.hi ≤ 20000
theorem W.ok.n_le {g : W} (h : g.ok) : 1 ≤ g.n ∧ g.n ≤ 576 := by
  have := area h.w1 h.w2 h.h1 h.h2
  have := h.nn
  omega

def dx (d : Int) : Int := [1, 1, 0, -1, -1, -1, 0, 1].getD d.toNat 0
def dy (d : Int) : Int := [0, 1, 1, 1, 0, -1, -1, -1].getD d.toNat 0
theorem dir_cases {d : Int} (h : 0 ≤ d) (h' : d ≤ 7) : d = 0 ∨ d = 1 ∨ d = 2 ∨ d = 3 ∨ d = 4 ∨ d = 5 ∨ d = 6 ∨ d = 7 := by omega
theorem dxy {d : Int} (h : 0 ≤ d) (h' : d ≤ 7) : -1 ≤ dx d ∧ dx d ≤ 1 ∧ -1 ≤ dy d ∧ dy d ≤ 1 ∧ (dx d ≠ 0 ∨ dy d ≠ 0) := by
  rcases dir_cases h h' with e | e | e | e | e | e | e | e <;> subst e <;> decide
/-- The column and the row of the k-th cell of a ray. -/
def rx (w c d : Int) (k : Nat) : Int := c.tmod w + (k + 1) * dx d
def ry (w c d : Int) (k : Nat) : Int := c.tdiv w + (k + 1) * dy d
theorem rx_0 (w c d : Int) : rx w c d 0 = c.tmod w + dx d := by simp [rx]
theorem ry_0 (w c d : Int) : ry w c d 0 = c.tdiv w + dy d := by simp [ry]
theorem rx_succ (w c d : Int) (k : Nat) : rx w c d (k + 1) = rx w c d k + dx d := by simp only [rx, Int.natCast_add, Int.add_mul]; omega
theorem ry_succ (w c d : Int) (k : Nat) : ry w c d (k + 1) = ry w c d k + dy d := by simp only [ry, Int.natCast_add, Int.add_mul]; omega
def inn (w h c d : Int) (k : Nat) : Bool := decide (0 ≤ rx w c d k) && decide (rx w c d k < w) && decide (0 ≤ ry w c d k) && decide (ry w c d k < h)
def rayN (w h c d : Int) : Nat := first (fun k => !inn w h c d k) 24
def rayC (w c d : Int) (k : Nat) : Int := ry w c d k * w + rx w c d k

theorem cell_at {w h c : Int} (hw : 1 ≤ w) (hc : 0 ≤ c) (hc' : c < w * h) : 0 ≤ c.tmod w ∧ c.tmod w < w ∧ 0 ≤ c.tdiv w ∧ c.tdiv w < h := by
  have h1 := Int.tmod_nonneg w hc
  have h2 := Int.tmod_lt_of_pos c (show 0 < w by omega)
  have h3 := Int.tdiv_nonneg hc (show 0 ≤ w by omega)
  refine ⟨h1, h2, h3, ?_⟩
  rw [Int.tdiv_eq_ediv_of_nonneg hc]
  exact Int.ediv_lt_of_lt_mul (by omega) (by rw [Int.mul_comm]; exact hc')
theorem inn_out {w h c d : Int} (hw : 1 ≤ w) (hw2 : w ≤ 24) (h2 : h ≤ 24) (hc : 0 ≤ c) (hc' : c < w * h) (hd : 0 ≤ d) (hd' : d ≤ 7) : inn w h c d 23 = false := by
  obtain ⟨a1, a2, a3, a4⟩ := cell_at hw hc hc'
  obtain ⟨b1, b2, b3, b4, b5⟩ := dxy hd hd'
  unfold inn rx ry
  generalize dx d = p at *
  generalize dy d = q at *
  have hp : p = -1 ∨ p = 0 ∨ p = 1 := by omega
  have hq : q = -1 ∨ q = 0 ∨ q = 1 := by omega
  rcases hp with e | e | e <;> rcases hq with e' | e' | e' <;> subst e <;> subst e' <;> simp <;> omega
theorem rayN_lt {w h c d : Int} (hw : 1 ≤ w) (hw2 : w ≤ 24) (h2 : h ≤ 24) (hc : 0 ≤ c) (hc' : c < w * h) (hd : 0 ≤ d) (hd' : d ≤ 7) : rayN w h c d < 24 ∧ inn w h c d (rayN w h c d) = false := by
  have ho := inn_out hw hw2 h2 hc hc' hd hd'
  obtain ⟨h1, h3, h4⟩ := first_spec (fun k => !inn w h c d k) 24
  have : rayN w h c d < 24 := by
    rcases Nat.lt_or_ge (rayN w h c d) 24 with h5 | h5
    · exact h5
    · have := h3 23 (by unfold rayN at h5; omega)
      simp [ho] at this
  exact ⟨this, by have := h4 this; unfold rayN; simpa using this⟩
theorem inn_rayN {w h c d : Int} {k : Nat} (hk : k < rayN w h c d) : inn w h c d k = true := by
  obtain ⟨-, h3, -⟩ := first_spec (fun k => !inn w h c d k) 24
  simpa using h3 k hk
theorem rayN_eq {w h c d : Int} {k : Nat} (hk : k < 24) (hi : ∀ j, j < k → inn w h c d j = true) (hn : inn w h c d k = false) : rayN w h c d = k :=
  first_at hk (fun j hj => by simp [hi j hj]) (by simp [hn])
theorem inn_iff {w h c d : Int} {k : Nat} : inn w h c d k = true ↔ 0 ≤ rx w c d k ∧ rx w c d k < w ∧ 0 ≤ ry w c d k ∧ ry w c d k < h := by
  simp only [inn, Bool.and_eq_true, decide_eq_true_eq]; constructor
  · rintro ⟨⟨⟨a, b⟩, c⟩, d⟩; exact ⟨a, b, c, d⟩
  · rintro ⟨a, b, c, d⟩; exact ⟨⟨⟨a, b⟩, c⟩, d⟩
theorem rayC_in {w h c d : Int} {k : Nat} (hw : 1 ≤ w) (hk : inn w h c d k = true) : 0 ≤ rayC w c d k ∧ rayC w c d k < w * h ∧ 0 ≤ ry w c d k * w ∧ ry w c d k * w ≤ w * h := by
  obtain ⟨h1, h2, h3, h4⟩ := inn_iff.1 hk
  unfold rayC
  have a := Int.mul_nonneg h3 (show 0 ≤ w by omega)
  have b := Int.mul_le_mul_of_nonneg_right (show ry w c d k ≤ h - 1 by omega) (show 0 ≤ w by omega)
  rw [Int.sub_mul, Int.one_mul, Int.mul_comm h w] at b
  omega

/-- The depth of a cell. -/
def W.dlo (g : W) (c : Int) : Int := g.lo - g.y c.toNat
def W.dhi (g : W) (c : Int) : Int := g.hi - g.x c.toNat
theorem W.ok.depth {g : W} (h : g.ok) {c : Int} (hc : 0 ≤ c) (hc' : c < g.w * g.h) : c.toNat < g.n ∧ g.dlo c ≤ g.dhi c ∧ -1220000 ≤ g.dlo c ∧ g.dhi c ≤ 1220000 := by
  have h1 := h.nn
  have h2 : c.toNat < g.n := by omega
  have h3 := h.gr _ h2
  have := h.s3; have := h.s4; have := h.s5
  unfold dlo dhi
  omega
/-- The k-th cell of a ray is sea for sure, or maybe. -/
def W.sea (g : W) (c d : Int) (sure : Bool) (k : Nat) : Bool := (!sure || decide (1 ≤ g.dlo (rayC g.w c d k))) && decide (1 ≤ g.dhi (rayC g.w c d k))
def W.fetchN (g : W) (c d : Int) (sure : Bool) : Nat := first (fun k => !g.sea c d sure k) (rayN g.w g.h c d)
def W.ray (g : W) (c d : Int) (k : Nat) : Int := rayC g.w c d k
theorem W.fetchN_le (g : W) (c d : Int) (sure : Bool) : g.fetchN c d sure ≤ rayN g.w g.h c d := (first_spec _ _).1
theorem W.sea_fetchN {g : W} {c d : Int} {sure : Bool} {k : Nat} (hk : k < g.fetchN c d sure) : g.sea c d sure k = true := by
  obtain ⟨-, h3, -⟩ := first_spec (fun k => !g.sea c d sure k) (rayN g.w g.h c d)
  simpa using h3 k hk
def sum (f : Nat → Int) : Nat → Int
  | 0 => 0
  | k + 1 => sum f k + f k
theorem sum_le {f : Nat → Int} {a b : Int} : ∀ {n : Nat}, (∀ k, k < n → a ≤ f k ∧ f k ≤ b) → n * a ≤ sum f n ∧ sum f n ≤ n * b
  | 0, _ => by simp [sum]
  | n + 1, h => by
    have h1 := sum_le (n := n) fun k hk => h k (by omega)
    have h2 := h n (by omega)
    simp only [sum, Int.natCast_add, Int.add_mul]
    omega
theorem sum_congr {f g : Nat → Int} : ∀ {n : Nat}, (∀ k, k < n → f k = g k) → sum f n = sum g n
  | 0, _ => rfl
  | n + 1, h => by simp only [sum, sum_congr (n := n) fun k hk => h k (by omega), h n (by omega)]
/-- A product within bounds. -/
theorem mul_bd {a b p q : Int} (h1 : 0 ≤ a) (h2 : a ≤ p) (h3 : 0 ≤ b) (h4 : b ≤ q) : 0 ≤ a * b ∧ a * b ≤ p * q :=
  ⟨Int.mul_nonneg h1 h3, Int.mul_le_mul h2 h4 h3 (by omega)⟩

/-- A place. -/
structure P extends W where
  dl : Int
  dh : Int
  ll : Int
  lh : Int
  c : Int
structure P.ok (p : P) : Prop where
  g : W.ok p.toW
  d1 : 1 ≤ p.dl
  d2 : p.dl ≤ p.dh
  d3 : p.dh ≤ 10000
  l1 : 1 ≤ p.ll
  l2 : p.ll ≤ p.lh
  l3 : p.lh ≤ 1024
  c1 : 0 ≤ p.c
  c2 : p.c < p.w * p.h
def long (s d : Int) : Int := if d.tmod 2 = 1 then 141 * s else 100 * s
def wide (s d : Int) : Int := if d.tmod 2 = 1 then 142 * s else 100 * s
def tlo (dl v a b : Int) : Int := (dl * v * v * a) / (3832031250 * b)
def thi (dh v a b : Int) : Int := -(-(dh * v * v * a) / (3832031250 * max 1 b))
def P.rlo (p : P) (d v : Int) : Int := sum (fun k => tlo p.dl v (long p.s d) (p.dhi (p.ray p.c d k))) (p.fetchN p.c d true)
def P.rhi (p : P) (d v : Int) : Int := sum (fun k => thi p.dh v (wide p.s d) (p.dlo (p.ray p.c d k))) (p.fetchN p.c d false)
theorem tlo_bd {dl v a b : Int} (h1 : 1 ≤ dl) (h2 : dl ≤ 10000) (h3 : 0 ≤ v) (h4 : v ≤ 10000) (h5 : 0 ≤ a) (h6 : a ≤ 1420000) (h7 : 1 ≤ b) (h8 : b ≤ 1220000) :
    0 ≤ dl * v ∧ dl * v ≤ 100000000 ∧ 0 ≤ dl * v * v ∧ dl * v * v ≤ 1000000000000 ∧ 0 ≤ dl * v * v * a ∧ dl * v * v * a ≤ 1420000000000000000 ∧ 0 ≤ tlo dl v a b ∧ tlo dl v a b ≤ 370561111 := by
  obtain ⟨a1, a2⟩ := mul_bd (show 0 ≤ dl by omega) h2 h3 h4
  obtain ⟨a3, a4⟩ := mul_bd a1 a2 h3 h4
  obtain ⟨a5, a6⟩ := mul_bd a3 a4 h5 h6
  refine ⟨a1, a2, a3, a4, a5, a6, Int.ediv_nonneg a5 (by omega), ?_⟩
  unfold tlo
  have := Int.ediv_le_of_le_mul (a := dl * v * v * a) (b := 370561111) (c := 3832031250 * b) (by omega) (by omega)
  exact this
theorem thi_bd {dh v a b : Int} (h1 : 1 ≤ dh) (h2 : dh ≤ 10000) (h3 : 0 ≤ v) (h4 : v ≤ 10000) (h5 : 0 ≤ a) (h6 : a ≤ 1420000) (h8 : b ≤ 1220000) :
    0 ≤ dh * v ∧ dh * v ≤ 100000000 ∧ 0 ≤ dh * v * v ∧ dh * v * v ≤ 1000000000000 ∧ 0 ≤ dh * v * v * a ∧ dh * v * v * a ≤ 1420000000000000000 ∧ 0 ≤ thi dh v a b ∧ thi dh v a b ≤ 370561111 := by
  obtain ⟨a1, a2⟩ := mul_bd (show 0 ≤ dh by omega) h2 h3 h4
  obtain ⟨a3, a4⟩ := mul_bd a1 a2 h3 h4
  obtain ⟨a5, a6⟩ := mul_bd a3 a4 h5 h6
  refine ⟨a1, a2, a3, a4, a5, a6, ?_⟩
  unfold thi
  have hm : 1 ≤ max 1 b ∧ max 1 b ≤ 1220000 := by omega
  generalize max 1 b = m at *
  have e1 : -(dh * v * v * a) / (3832031250 * m) ≤ 0 := by
    have := Int.ediv_le_ediv (c := 3832031250 * m) (by omega) (show -(dh * v * v * a) ≤ 0 by omega)
    simpa using this
  have e2 : -370561111 ≤ -(dh * v * v * a) / (3832031250 * m) := by
    rw [Int.le_ediv_iff_mul_le (by omega)]
    omega
  omega
theorem wl_bd {s d : Int} (h1 : 1 ≤ s) (h2 : s ≤ 10000) : 0 ≤ long s d ∧ long s d ≤ 1420000 ∧ 0 ≤ wide s d ∧ wide s d ≤ 1420000 := by
  unfold long wide
  split <;> omega
theorem P.ok.fetch {p : P} (h : p.ok) {d : Int} (hd : 0 ≤ d) (hd' : d ≤ 7) {sure : Bool} {k : Nat} (hk : k < p.fetchN p.c d sure) : p.fetchN p.c d sure ≤ 23 ∧ (sure = true → 1 ≤ p.dlo (p.ray p.c d k)) ∧ 1 ≤ p.dhi (p.ray p.c d k) ∧ p.dhi (p.ray p.c d k) ≤ 1220000 ∧ p.dlo (p.ray p.c d k) ≤ 1220000 ∧ -1220000 ≤ p.dlo (p.ray p.c d k) := by
  have h1 := p.fetchN_le p.c d sure
  have h2 := (rayN_lt h.g.w1 h.g.w2 h.g.h2 h.c1 h.c2 hd hd').1
  have h3 := W.sea_fetchN hk
  have h4 := rayC_in h.g.w1 (inn_rayN (show k < rayN p.w p.h p.c d by omega))
  have h5 := h.g.depth (c := p.ray p.c d k) h4.1 h4.2.1
  unfold W.sea at h3
  unfold W.ray at *
  simp only [Bool.and_eq_true, Bool.or_eq_true, Bool.not_eq_true', decide_eq_true_eq] at h3
  refine ⟨by omega, fun e => ?_, h3.2, h5.2.2.2, by omega, h5.2.2.1⟩
  rcases h3.1 with h6 | h6
  · rw [e] at h6; cases h6
  · exact h6
theorem P.ok.rise {p : P} (h : p.ok) {d v0 v1 : Int} (hd : 0 ≤ d) (hd' : d ≤ 7) (hv : 0 ≤ v0) (hv' : v0 ≤ v1) (hv2 : v1 ≤ 10000) : 0 ≤ p.rlo d v0 ∧ p.rlo d v0 ≤ 8522905553 ∧ 0 ≤ p.rhi d v1 ∧ p.rhi d v1 ≤ 8522905553 := by
  have hw := wl_bd (d := d) h.g.s1 h.g.s2
  have h1 := p.fetchN_le p.c d true
  have h2 := p.fetchN_le p.c d false
  have h3 := (rayN_lt h.g.w1 h.g.w2 h.g.h2 h.c1 h.c2 hd hd').1
  have h4 := sum_le (f := fun k => tlo p.dl v0 (long p.s d) (p.dhi (p.ray p.c d k))) (a := 0) (b := 370561111) (n := p.fetchN p.c d true) fun k hk => by
    have := h.fetch hd hd' hk
    have := tlo_bd h.d1 (show p.dl ≤ 10000 by have := h.d2; have := h.d3; omega) hv (show v0 ≤ 10000 by omega) hw.1 hw.2.1 this.2.2.1 this.2.2.2.1
    exact this.2.2.2.2.2.2
  have h5 := sum_le (f := fun k => thi p.dh v1 (wide p.s d) (p.dlo (p.ray p.c d k))) (a := 0) (b := 370561111) (n := p.fetchN p.c d false) fun k hk => by
    have := h.fetch hd hd' hk
    have := thi_bd (show 1 ≤ p.dh by have := h.d1; have := h.d2; omega) h.d3 (show 0 ≤ v1 by omega) hv2 hw.2.2.1 hw.2.2.2 this.2.2.2.2.1
    exact this.2.2.2.2.2.2
  unfold P.rlo P.rhi
  omega
end Go.Proofs.Ytkklmkogdogbkaa.M
/-
  Contracts of small functions of the stage 'surge' and of its reference. No condition. (This text proves no statement by itself.)
-/
namespace Go.Proofs.Ytkklmkogdogbkaa.Sep
open Go
set_option linter.unusedVariables false
set_option linter.unusedSimpArgs false
def e24 : List SV → Option (List Prop × SV)
  | [.int .i64 a] => some ([], .agg [SI a, SI a])
  | _ => none
def Rr24 (a : Int) : Prop := a = a ∧ a = a
theorem r24 (a : Int) : V true [] [] Try.f24 [0,2] [] [SI a] (.agg [SI a, SI a]) = Rr24 a := by kernel_rfl
theorem br24 (a : Int)  : Rr24 a := by
  unfold Rr24
  simp
theorem s24 : PureOK PP 24 e24 := by
  intro xs ps res h hp
  unfold e24 at h
  split at h
  · rename_i a
    simp only [Option.some.injEq, Prod.mk.injEq] at h
    obtain ⟨rfl, rfl⟩ := h
    clear hp
    refine enter (L := [0,2]) (LO := []) (E := []) (O := []) (ck := true) (.nil) (.nil) (k := 24) (f := Try.f24) (xs := [SI a]) (r := (.agg [SI a, SI a])) (by kernel_rfl) (by kernel_rfl) (fun _ => .nil) ?_
    exact Hold.of (r24 a) (br24 a )
  · cases h
def e58 : List SV → Option (List Prop × SV)
  | [.int .i64 a, .int .i64 b] => some ([], .agg [SI a, SI b])
  | _ => none
def Rr58 (a b : Int) : Prop := a = a ∧ b = b
theorem r58 (a b : Int) : V true [] [] Try.f58 [0,1,4] [] [SI a, SI b] (.agg [SI a, SI b]) = Rr58 a b := by kernel_rfl
theorem br58 (a b : Int)  : Rr58 a b := by
  unfold Rr58
  simp
theorem s58 : PureOK PP 58 e58 := by
  intro xs ps res h hp
  unfold e58 at h
  split at h
  · rename_i a b
    simp only [Option.some.injEq, Prod.mk.injEq] at h
    obtain ⟨rfl, rfl⟩ := h
    clear hp
    refine enter (L := [0,1,4]) (LO := []) (E := []) (O := []) (ck := true) (.nil) (.nil) (k := 58) (f := Try.f58) (xs := [SI a, SI b]) (r := (.agg [SI a, SI b])) (by kernel_rfl) (by kernel_rfl) (fun _ => .nil) ?_
    exact Hold.of (r58 a b) (br58 a b )
  · cases h
def e59 : List SV → Option (List Prop × SV)
  | [.agg [.int .i64 a, .int .i64 b], .agg [.int .i64 c, .int .i64 d]] => some ([R64 (a - d), R64 (b - c)], .agg [SI (a - d), SI (b - c)])
  | _ => none
def Rr59 (a b c d : Int) : Prop := R64 (a - d) ∧ R64 (b - c) ∧ a - d = a - d ∧ b - c = b - c
theorem r59 (a b c d : Int) : V true [] [(58, pureE e58)] Try.f59 [0,1,2,3,4] [] [.agg [SI a, SI b], .agg [SI c, SI d]] (.agg [SI (a - d), SI (b - c)]) = Rr59 a b c d := by kernel_rfl
theorem br59 (a b c d : Int) (hp : (R64 (a - d)) ∧ (R64 (b - c)) ∧ AllP []) : Rr59 a b c d := by
  unfold Rr59
  simp [hp]
theorem s59 : PureOK PP 59 e59 := by
  intro xs ps res h hp
  unfold e59 at h
  split at h
  · rename_i a b c d
    simp only [Option.some.injEq, Prod.mk.injEq] at h
    obtain ⟨rfl, rfl⟩ := h
    simp only [AllP.cons] at hp
    refine enter (L := [0,1,2,3,4]) (LO := []) (E := []) (O := [(58, pureE e58)]) (ck := true) (.nil) (.cons (pureE_ok s58) (.nil)) (k := 59) (f := Try.f59) (xs := [.agg [SI a, SI b], .agg [SI c, SI d]]) (r := (.agg [SI (a - d), SI (b - c)])) (by kernel_rfl) (by kernel_rfl) (fun _ => .nil) ?_
    exact Hold.of (r59 a b c d) (br59 a b c d hp)
  · cases h
def e61 : List SV → Option (List Prop × SV)
  | [.agg [.int .i64 a, .int .i64 b]] => some ([R64 (-b)], SI (M.near a b))
  | _ => none
def Rr61 (a b : Int) : Prop := R64 (-b) ∧ max (max (0 : Int) a) (-b) = M.near a b
theorem r61 (a b : Int) : V true [] [] Try.f61 [0,1,2] [] [.agg [SI a, SI b]] (SI (M.near a b)) = Rr61 a b := by kernel_rfl
theorem br61 (a b : Int) (hp : (R64 (-b)) ∧ AllP []) : Rr61 a b := by
  unfold Rr61
  simp [hp, M.near]
theorem s61 : PureOK PP 61 e61 := by
  intro xs ps res h hp
  unfold e61 at h
  split at h
  · rename_i a b
    simp only [Option.some.injEq, Prod.mk.injEq] at h
    obtain ⟨rfl, rfl⟩ := h
    simp only [AllP.cons] at hp
    refine enter (L := [0,1,2]) (LO := []) (E := []) (O := []) (ck := true) (.nil) (.nil) (k := 61) (f := Try.f61) (xs := [.agg [SI a, SI b]]) (r := (SI (M.near a b))) (by kernel_rfl) (by kernel_rfl) (fun _ => .nil) ?_
    exact Hold.of (r61 a b) (br61 a b hp)
  · cases h
def e74 : List SV → Option (List Prop × SV)
  | [.agg [.int .i64 a, .int .i64 b]] => some ([R64 (-b)], SI (M.near a b))
  | _ => none
def Rr74 (a b : Int) : Prop := R64 (-b) ∧ max (max (0 : Int) a) (-b) = M.near a b
theorem r74 (a b : Int) : V true [] [] Try.f74 [0,1,2] [] [.agg [SI a, SI b]] (SI (M.near a b)) = Rr74 a b := by kernel_rfl
theorem br74 (a b : Int) (hp : (R64 (-b)) ∧ AllP []) : Rr74 a b := by
  unfold Rr74
  simp [hp, M.near]
theorem s74 : PureOK PP 74 e74 := by
  intro xs ps res h hp
  unfold e74 at h
  split at h
  · rename_i a b
    simp only [Option.some.injEq, Prod.mk.injEq] at h
    obtain ⟨rfl, rfl⟩ := h
    simp only [AllP.cons] at hp
    refine enter (L := [0,1,2]) (LO := []) (E := []) (O := []) (ck := true) (.nil) (.nil) (k := 74) (f := Try.f74) (xs := [.agg [SI a, SI b]]) (r := (SI (M.near a b))) (by kernel_rfl) (by kernel_rfl) (fun _ => .nil) ?_
    exact Hold.of (r74 a b) (br74 a b hp)
  · cases h
def e62 : List SV → Option (List Prop × SV)
  | [.agg [.int .i64 a, .int .i64 b]] => some ([R64 (-a)], SI (M.far a b))
  | _ => none
def Rr62 (a b : Int) : Prop := R64 (-a) ∧ max b (-a) = M.far a b
theorem r62 (a b : Int) : V true [] [] Try.f62 [0,1,2] [] [.agg [SI a, SI b]] (SI (M.far a b)) = Rr62 a b := by kernel_rfl
theorem br62 (a b : Int) (hp : (R64 (-a)) ∧ AllP []) : Rr62 a b := by
  unfold Rr62
  simp [hp, M.far]
theorem s62 : PureOK PP 62 e62 := by
  intro xs ps res h hp
  unfold e62 at h
  split at h
  · rename_i a b
    simp only [Option.some.injEq, Prod.mk.injEq] at h
    obtain ⟨rfl, rfl⟩ := h
    simp only [AllP.cons] at hp
    refine enter (L := [0,1,2]) (LO := []) (E := []) (O := []) (ck := true) (.nil) (.nil) (k := 62) (f := Try.f62) (xs := [.agg [SI a, SI b]]) (r := (SI (M.far a b))) (by kernel_rfl) (by kernel_rfl) (fun _ => .nil) ?_
    exact Hold.of (r62 a b) (br62 a b hp)
  · cases h
def e75 : List SV → Option (List Prop × SV)
  | [.agg [.int .i64 a, .int .i64 b]] => some ([R64 (-a)], SI (M.far a b))
  | _ => none
def Rr75 (a b : Int) : Prop := R64 (-a) ∧ max b (-a) = M.far a b
theorem r75 (a b : Int) : V true [] [] Try.f75 [0,1,2] [] [.agg [SI a, SI b]] (SI (M.far a b)) = Rr75 a b := by kernel_rfl
theorem br75 (a b : Int) (hp : (R64 (-a)) ∧ AllP []) : Rr75 a b := by
  unfold Rr75
  simp [hp, M.far]
theorem s75 : PureOK PP 75 e75 := by
  intro xs ps res h hp
  unfold e75 at h
  split at h
  · rename_i a b
    simp only [Option.some.injEq, Prod.mk.injEq] at h
    obtain ⟨rfl, rfl⟩ := h
    simp only [AllP.cons] at hp
    refine enter (L := [0,1,2]) (LO := []) (E := []) (O := []) (ck := true) (.nil) (.nil) (k := 75) (f := Try.f75) (xs := [.agg [SI a, SI b]]) (r := (SI (M.far a b))) (by kernel_rfl) (by kernel_rfl) (fun _ => .nil) ?_
    exact Hold.of (r75 a b) (br75 a b hp)
  · cases h
def e64 : List SV → Option (List Prop × SV)
  | [.int .i64 a, .int .i64 b] => some ([0 < b, R64 a, R64 b, R64 (b - 1 - a)], SI (a / b))
  | _ => none
def Rr64 (a b : Int) : Prop := (decide (a < (0 : Int)) = true → R64 (b - (1 : Int)) ∧ R64 (b - (1 : Int) - a) ∧ b ≠ (0 : Int) ∧ R64 (Int.tdiv (b - (1 : Int) - a) b) ∧ R64 (-Int.tdiv (b - (1 : Int) - a) b) ∧ -Int.tdiv (b - (1 : Int) - a) b = a / b) ∧ (decide (a < (0 : Int)) = false → b ≠ (0 : Int) ∧ R64 (Int.tdiv a b) ∧ Int.tdiv a b = a / b)
theorem r64 (a b : Int) : V true [] [] Try.f64 [0,1,4,6] [] [SI a, SI b] (SI (a / b)) = Rr64 a b := by kernel_rfl
theorem br64 (a b : Int) (hp : (0 < b) ∧ (R64 a) ∧ (R64 b) ∧ (R64 (b - 1 - a)) ∧ AllP []) : Rr64 a b := by
  unfold Rr64
  have hf := M.floor_eq (a := a) hp.1
  unfold M.floor at hf
  unfold R64 at hp ⊢
  refine ⟨fun ha => ?_, fun ha => ?_⟩ <;> simp only [decide_eq_true_eq, decide_eq_false_iff_not] at ha
  · have h1 : 0 ≤ (b - 1 - a).tdiv b := Int.tdiv_nonneg (by omega) (by omega)
    have h2 : (b - 1 - a).tdiv b ≤ b - 1 - a := Int.tdiv_le_self _ (by omega)
    rw [if_pos ha] at hf
    omega
  · have h1 : 0 ≤ a.tdiv b := Int.tdiv_nonneg (by omega) (by omega)
    have h2 : a.tdiv b ≤ a := Int.tdiv_le_self _ (by omega)
    rw [if_neg ha] at hf
    omega
theorem s64 : PureOK PP 64 e64 := by
  intro xs ps res h hp
  unfold e64 at h
  split at h
  · rename_i a b
    simp only [Option.some.injEq, Prod.mk.injEq] at h
    obtain ⟨rfl, rfl⟩ := h
    simp only [AllP.cons] at hp
    refine enter (L := [0,1,4,6]) (LO := []) (E := []) (O := []) (ck := true) (.nil) (.nil) (k := 64) (f := Try.f64) (xs := [SI a, SI b]) (r := (SI (a / b))) (by kernel_rfl) (by kernel_rfl) (fun _ => .nil) ?_
    exact Hold.of (r64 a b) (br64 a b hp)
  · cases h
def e65 : List SV → Option (List Prop × SV)
  | [.int .i64 a, .int .i64 b] => some ([0 < b, R64 (-a), R64 b, R64 (b - 1 + a), R64 (-(-a / b))], SI (-(-a / b)))
  | _ => none
def Rr65 (a b : Int) : Prop := R64 (-a) ∧ (0 : Int) < b ∧ R64 (-a) ∧ R64 b ∧ R64 (b - (1 : Int) - -a) ∧ R64 (-(-a / b)) ∧ -(-a / b) = -(-a / b)
theorem r65 (a b : Int) : V true [] [(64, pureE e64)] Try.f65 [0,1,4] [] [SI a, SI b] (SI (-(-a / b))) = Rr65 a b := by kernel_rfl
theorem br65 (a b : Int) (hp : (0 < b) ∧ (R64 (-a)) ∧ (R64 b) ∧ (R64 (b - 1 + a)) ∧ (R64 (-(-a / b))) ∧ AllP []) : Rr65 a b := by
  unfold Rr65
  refine ⟨by simp [hp], by simp [hp], by simp [hp], by simp [hp], ?_, by simp [hp], rfl⟩
  have := hp.2.2.2.1
  rw [show b - 1 - -a = b - 1 + a by omega]
  exact this
theorem s65 : PureOK PP 65 e65 := by
  intro xs ps res h hp
  unfold e65 at h
  split at h
  · rename_i a b
    simp only [Option.some.injEq, Prod.mk.injEq] at h
    obtain ⟨rfl, rfl⟩ := h
    simp only [AllP.cons] at hp
    refine enter (L := [0,1,4]) (LO := []) (E := []) (O := [(64, pureE e64)]) (ck := true) (.nil) (.cons (pureE_ok s64) (.nil)) (k := 65) (f := Try.f65) (xs := [SI a, SI b]) (r := (SI (-(-a / b)))) (by kernel_rfl) (by kernel_rfl) (fun _ => .nil) ?_
    exact Hold.of (r65 a b) (br65 a b hp)
  · cases h
def e104 : List SV → Option (List Prop × SV)
  | [.int .i64 a, .int .i64 b] => some ([0 < b, M.Sm a, R64 b], SI (a / b))
  | _ => none
def Rr104 (a b : Int) : Prop := b ≠ (0 : Int) ∧ R64 (Int.tdiv a b) ∧ R64 (Int.tdiv a b * b) ∧ (decide (a < Int.tdiv a b * b) = true → R64 (Int.tdiv a b - (1 : Int)) ∧ Int.tdiv a b - (1 : Int) = a / b) ∧ (decide (a < Int.tdiv a b * b) = false → Int.tdiv a b = a / b)
theorem r104 (a b : Int) : V true [] [] Try.f104 [0,1,4,5,13] [] [SI a, SI b] (SI (a / b)) = Rr104 a b := by kernel_rfl
theorem br104 (a b : Int) (hp : (0 < b) ∧ (M.Sm a) ∧ (R64 b) ∧ AllP []) : Rr104 a b := by
  unfold Rr104
  have hf := M.down_eq (a := a) hp.1
  have h1 := M.tdiv_mul_abs (m := 100000000000000000) hp.1 hp.2.1.1 hp.2.1.2
  unfold R64
  refine ⟨by omega, by omega, by omega, fun ha => ?_, fun ha => ?_⟩ <;> simp only [decide_eq_true_eq, decide_eq_false_iff_not] at ha
  · rw [if_pos ha] at hf; omega
  · rw [if_neg ha] at hf; omega
theorem s104 : PureOK PP 104 e104 := by
  intro xs ps res h hp
  unfold e104 at h
  split at h
  · rename_i a b
    simp only [Option.some.injEq, Prod.mk.injEq] at h
    obtain ⟨rfl, rfl⟩ := h
    simp only [AllP.cons] at hp
    refine enter (L := [0,1,4,5,13]) (LO := []) (E := []) (O := []) (ck := true) (.nil) (.nil) (k := 104) (f := Try.f104) (xs := [SI a, SI b]) (r := (SI (a / b))) (by kernel_rfl) (by kernel_rfl) (fun _ => .nil) ?_
    exact Hold.of (r104 a b) (br104 a b hp)
  · cases h
def e105 : List SV → Option (List Prop × SV)
  | [.int .i64 a, .int .i64 b] => some ([0 < b, M.Sm a, R64 b], SI (-(-a / b)))
  | _ => none
def Rr105 (a b : Int) : Prop := R64 (-a) ∧ (0 : Int) < b ∧ M.Sm (-a) ∧ R64 b ∧ R64 (-(-a / b)) ∧ -(-a / b) = -(-a / b)
theorem r105 (a b : Int) : V true [] [(104, pureE e104)] Try.f105 [0,1,4] [] [SI a, SI b] (SI (-(-a / b))) = Rr105 a b := by kernel_rfl
theorem br105 (a b : Int) (hp : (0 < b) ∧ (M.Sm a) ∧ (R64 b) ∧ AllP []) : Rr105 a b := by
  unfold Rr105
  have h1 := M.ediv_abs (a := -a) (m := 100000000000000000) hp.1 (by have := hp.2.1; unfold M.Sm at this; omega) (by have := hp.2.1; unfold M.Sm at this; omega)
  have h2 := hp.2.1
  unfold M.Sm at h2 ⊢
  unfold R64 at hp ⊢
  refine ⟨by omega, hp.1, by omega, by omega, by omega, rfl⟩
theorem s105 : PureOK PP 105 e105 := by
  intro xs ps res h hp
  unfold e105 at h
  split at h
  · rename_i a b
    simp only [Option.some.injEq, Prod.mk.injEq] at h
    obtain ⟨rfl, rfl⟩ := h
    simp only [AllP.cons] at hp
    refine enter (L := [0,1,4]) (LO := []) (E := []) (O := [(104, pureE e104)]) (ck := true) (.nil) (.cons (pureE_ok s104) (.nil)) (k := 105) (f := Try.f105) (xs := [SI a, SI b]) (r := (SI (-(-a / b)))) (by kernel_rfl) (by kernel_rfl) (fun _ => .nil) ?_
    exact Hold.of (r105 a b) (br105 a b hp)
  · cases h
def e69 : List SV → Option (List Prop × SV)
  | [.agg [.int .i64 a, .int .i64 b], .int .i64 lo, .int .i64 hi] => some ([], .bool (M.within a b lo hi))
  | _ => none
def Rr69 (a b lo hi : Int) : Prop := (decide (a ≤ b) = true → decide (a ≤ b) = true) ∧ (decide (a ≤ b) = true → decide (a ≤ b) = true) ∧ (decide (a ≤ b) = true → decide (a ≤ b) = true) ∧ (decide (a ≤ b) = true → decide (a ≤ b) = true) ∧ (decide (a ≤ b) = true → decide (a ≤ b) = true) ∧ ((bif decide (a ≤ b) then decide (lo ≤ a) else false) = true → (bif decide (a ≤ b) then decide (lo ≤ a) else false) = true) ∧ ((bif decide (a ≤ b) then decide (lo ≤ a) else false) = true → (bif decide (a ≤ b) then decide (lo ≤ a) else false) = true) ∧ ((bif decide (a ≤ b) then decide (lo ≤ a) else false) = true → (bif decide (a ≤ b) then decide (lo ≤ a) else false) = true) ∧ ((bif decide (a ≤ b) then decide (lo ≤ a) else false) = true → (bif decide (a ≤ b) then decide (lo ≤ a) else false) = true) ∧ ((bif decide (a ≤ b) then decide (lo ≤ a) else false) = true → (bif decide (a ≤ b) then decide (lo ≤ a) else false) = true) ∧ (bif bif decide (a ≤ b) then decide (lo ≤ a) else false then decide (b ≤ hi) else false) = M.within a b lo hi
theorem r69 (a b lo hi : Int) : V true [] [] Try.f69 [0,1,2,3,6] [] [.agg [SI a, SI b], SI lo, SI hi] (.bool (M.within a b lo hi)) = Rr69 a b lo hi := by kernel_rfl
theorem br69 (a b lo hi : Int)  : Rr69 a b lo hi := by
  unfold Rr69
  unfold M.within
  grind
theorem s69 : PureOK PP 69 e69 := by
  intro xs ps res h hp
  unfold e69 at h
  split at h
  · rename_i a b lo hi
    simp only [Option.some.injEq, Prod.mk.injEq] at h
    obtain ⟨rfl, rfl⟩ := h
    clear hp
    refine enter (L := [0,1,2,3,6]) (LO := []) (E := []) (O := []) (ck := true) (.nil) (.nil) (k := 69) (f := Try.f69) (xs := [.agg [SI a, SI b], SI lo, SI hi]) (r := (.bool (M.within a b lo hi))) (by kernel_rfl) (by kernel_rfl) (fun _ => .nil) ?_
    exact Hold.of (r69 a b lo hi) (br69 a b lo hi )
  · cases h
def e71 : List SV → Option (List Prop × SV)
  | [.agg [.int .i64 a, .int .i64 b], .int .i64 lo, .int .i64 hi] => some ([], .bool (M.within a b lo hi))
  | _ => none
def Rr71 (a b lo hi : Int) : Prop := (decide (a ≤ b) = true → decide (a ≤ b) = true) ∧ (decide (a ≤ b) = true → decide (a ≤ b) = true) ∧ (decide (a ≤ b) = true → decide (a ≤ b) = true) ∧ (decide (a ≤ b) = true → decide (a ≤ b) = true) ∧ ((bif decide (a ≤ b) then decide (lo ≤ a) else false) = true → (bif decide (a ≤ b) then decide (lo ≤ a) else false) = true) ∧ ((bif decide (a ≤ b) then decide (lo ≤ a) else false) = true → (bif decide (a ≤ b) then decide (lo ≤ a) else false) = true) ∧ ((bif decide (a ≤ b) then decide (lo ≤ a) else false) = true → (bif decide (a ≤ b) then decide (lo ≤ a) else false) = true) ∧ ((bif decide (a ≤ b) then decide (lo ≤ a) else false) = true → (bif decide (a ≤ b) then decide (lo ≤ a) else false) = true) ∧ (bif bif decide (a ≤ b) then decide (lo ≤ a) else false then decide (b ≤ hi) else false) = M.within a b lo hi
theorem r71 (a b lo hi : Int) : V true [] [] Try.f71 [0,1,2,3,6] [] [.agg [SI a, SI b], SI lo, SI hi] (.bool (M.within a b lo hi)) = Rr71 a b lo hi := by kernel_rfl
theorem br71 (a b lo hi : Int)  : Rr71 a b lo hi := by
  unfold Rr71
  unfold M.within
  grind
theorem s71 : PureOK PP 71 e71 := by
  intro xs ps res h hp
  unfold e71 at h
  split at h
  · rename_i a b lo hi
    simp only [Option.some.injEq, Prod.mk.injEq] at h
    obtain ⟨rfl, rfl⟩ := h
    clear hp
    refine enter (L := [0,1,2,3,6]) (LO := []) (E := []) (O := []) (ck := true) (.nil) (.nil) (k := 71) (f := Try.f71) (xs := [.agg [SI a, SI b], SI lo, SI hi]) (r := (.bool (M.within a b lo hi))) (by kernel_rfl) (by kernel_rfl) (fun _ => .nil) ?_
    exact Hold.of (r71 a b lo hi) (br71 a b lo hi )
  · cases h
def e19 : List SV → Option (List Prop × SV)
  | [.agg [.int .i64 a, .int .i64 b], .agg [.int .i64 c, .int .i64 d]] => some ([], .bool (M.within a b c d))
  | _ => none
def Rr19 (a b c d : Int) : Prop := (decide (a ≤ b) = true → decide (a ≤ b) = true) ∧ (decide (a ≤ b) = true → decide (a ≤ b) = true) ∧ (decide (a ≤ b) = true → decide (a ≤ b) = true) ∧ (decide (a ≤ b) = true → decide (a ≤ b) = true) ∧ (decide (a ≤ b) = true → decide (a ≤ b) = true) ∧ ((bif decide (a ≤ b) then decide (c ≤ a) else false) = true → (bif decide (a ≤ b) then decide (c ≤ a) else false) = true) ∧ ((bif decide (a ≤ b) then decide (c ≤ a) else false) = true → (bif decide (a ≤ b) then decide (c ≤ a) else false) = true) ∧ ((bif decide (a ≤ b) then decide (c ≤ a) else false) = true → (bif decide (a ≤ b) then decide (c ≤ a) else false) = true) ∧ ((bif decide (a ≤ b) then decide (c ≤ a) else false) = true → (bif decide (a ≤ b) then decide (c ≤ a) else false) = true) ∧ ((bif decide (a ≤ b) then decide (c ≤ a) else false) = true → (bif decide (a ≤ b) then decide (c ≤ a) else false) = true) ∧ (bif bif decide (a ≤ b) then decide (c ≤ a) else false then decide (b ≤ d) else false) = M.within a b c d
theorem r19 (a b c d : Int) : V true [] [] Try.f19 [0,1,2,3,4] [] [.agg [SI a, SI b], .agg [SI c, SI d]] (.bool (M.within a b c d)) = Rr19 a b c d := by kernel_rfl
theorem br19 (a b c d : Int)  : Rr19 a b c d := by
  unfold Rr19
  unfold M.within
  grind
theorem s19 : PureOK PP 19 e19 := by
  intro xs ps res h hp
  unfold e19 at h
  split at h
  · rename_i a b c d
    simp only [Option.some.injEq, Prod.mk.injEq] at h
    obtain ⟨rfl, rfl⟩ := h
    clear hp
    refine enter (L := [0,1,2,3,4]) (LO := []) (E := []) (O := []) (ck := true) (.nil) (.nil) (k := 19) (f := Try.f19) (xs := [.agg [SI a, SI b], .agg [SI c, SI d]]) (r := (.bool (M.within a b c d))) (by kernel_rfl) (by kernel_rfl) (fun _ => .nil) ?_
    exact Hold.of (r19 a b c d) (br19 a b c d )
  · cases h
def e72 : List SV → Option (List Prop × SV)
  | [.int .i64 n, .int .i64 lo, .int .i64 hi] => some ([], .bool (decide (lo ≤ n) && decide (n ≤ hi)))
  | _ => none
def Rr72 (n lo hi : Int) : Prop := (decide (lo ≤ n) = true → decide (lo ≤ n) = true) ∧ (decide (lo ≤ n) = true → decide (lo ≤ n) = true) ∧ (decide (lo ≤ n) = true → decide (lo ≤ n) = true) ∧ (bif decide (lo ≤ n) then decide (n ≤ hi) else false) = (decide (lo ≤ n) && decide (n ≤ hi))
theorem r72 (n lo hi : Int) : V true [] [] Try.f72 [0,1,2,6] [] [SI n, SI lo, SI hi] (.bool (decide (lo ≤ n) && decide (n ≤ hi))) = Rr72 n lo hi := by kernel_rfl
theorem br72 (n lo hi : Int)  : Rr72 n lo hi := by
  unfold Rr72
  grind
theorem s72 : PureOK PP 72 e72 := by
  intro xs ps res h hp
  unfold e72 at h
  split at h
  · rename_i n lo hi
    simp only [Option.some.injEq, Prod.mk.injEq] at h
    obtain ⟨rfl, rfl⟩ := h
    clear hp
    refine enter (L := [0,1,2,6]) (LO := []) (E := []) (O := []) (ck := true) (.nil) (.nil) (k := 72) (f := Try.f72) (xs := [SI n, SI lo, SI hi]) (r := (.bool (decide (lo ≤ n) && decide (n ≤ hi)))) (by kernel_rfl) (by kernel_rfl) (fun _ => .nil) ?_
    exact Hold.of (r72 n lo hi) (br72 n lo hi )
  · cases h
def e93 : List SV → Option (List Prop × SV)
  | [.int .i64 n, .int .i64 lo, .int .i64 hi] => some ([], .bool (decide (lo ≤ n) && decide (n ≤ hi)))
  | _ => none
def Rr93 (n lo hi : Int) : Prop := (decide (lo ≤ n) = true → decide (lo ≤ n) = true) ∧ (decide (lo ≤ n) = true → decide (lo ≤ n) = true) ∧ (decide (lo ≤ n) = true → decide (lo ≤ n) = true) ∧ (bif decide (lo ≤ n) then decide (n ≤ hi) else false) = (decide (lo ≤ n) && decide (n ≤ hi))
theorem r93 (n lo hi : Int) : V true [] [] Try.f93 [0,1,2,6] [] [SI n, SI lo, SI hi] (.bool (decide (lo ≤ n) && decide (n ≤ hi))) = Rr93 n lo hi := by kernel_rfl
theorem br93 (n lo hi : Int)  : Rr93 n lo hi := by
  unfold Rr93
  grind
theorem s93 : PureOK PP 93 e93 := by
  intro xs ps res h hp
  unfold e93 at h
  split at h
  · rename_i n lo hi
    simp only [Option.some.injEq, Prod.mk.injEq] at h
    obtain ⟨rfl, rfl⟩ := h
    clear hp
    refine enter (L := [0,1,2,6]) (LO := []) (E := []) (O := []) (ck := true) (.nil) (.nil) (k := 93) (f := Try.f93) (xs := [SI n, SI lo, SI hi]) (r := (.bool (decide (lo ≤ n) && decide (n ≤ hi)))) (by kernel_rfl) (by kernel_rfl) (fun _ => .nil) ?_
    exact Hold.of (r93 n lo hi) (br93 n lo hi )
  · cases h
def e101 : List SV → Option (List Prop × SV)
  | [.int .i64 n, .int .i64 lo, .int .i64 hi] => some ([], .bool (decide (lo ≤ n) && decide (n ≤ hi)))
  | _ => none
def Rr101 (n lo hi : Int) : Prop := (decide (lo ≤ n) = true → decide (lo ≤ n) = true) ∧ (decide (lo ≤ n) = true → decide (lo ≤ n) = true) ∧ (decide (lo ≤ n) = true → decide (lo ≤ n) = true) ∧ (bif decide (lo ≤ n) then decide (n ≤ hi) else false) = (decide (lo ≤ n) && decide (n ≤ hi))
theorem r101 (n lo hi : Int) : V true [] [] Try.f101 [0,1,2,6] [] [SI n, SI lo, SI hi] (.bool (decide (lo ≤ n) && decide (n ≤ hi))) = Rr101 n lo hi := by kernel_rfl
theorem br101 (n lo hi : Int)  : Rr101 n lo hi := by
  unfold Rr101
  grind
theorem s101 : PureOK PP 101 e101 := by
  intro xs ps res h hp
  unfold e101 at h
  split at h
  · rename_i n lo hi
    simp only [Option.some.injEq, Prod.mk.injEq] at h
    obtain ⟨rfl, rfl⟩ := h
    clear hp
    refine enter (L := [0,1,2,6]) (LO := []) (E := []) (O := []) (ck := true) (.nil) (.nil) (k := 101) (f := Try.f101) (xs := [SI n, SI lo, SI hi]) (r := (.bool (decide (lo ≤ n) && decide (n ≤ hi)))) (by kernel_rfl) (by kernel_rfl) (fun _ => .nil) ?_
    exact Hold.of (r101 n lo hi) (br101 n lo hi )
  · cases h
def e96 : List SV → Option (List Prop × SV)
  | [.agg [.int .i64 a, .int .i64 b], .int .i64 m] => some ([R64 (-m)], .bool (M.within a b (-m) m))
  | _ => none
def Rr96 (a b m : Int) : Prop := (decide (a ≤ b) = true → decide (a ≤ b) = true) ∧ (decide (a ≤ b) = true → decide (a ≤ b) = true) ∧ (decide (a ≤ b) = true → R64 (-m)) ∧ (decide (a ≤ b) = true → decide (a ≤ b) = true) ∧ (decide (a ≤ b) = true → decide (a ≤ b) = true) ∧ (decide (a ≤ b) = true → decide (a ≤ b) = true) ∧ ((bif decide (a ≤ b) then decide (-m ≤ a) else false) = true → (bif decide (a ≤ b) then decide (-m ≤ a) else false) = true) ∧ ((bif decide (a ≤ b) then decide (-m ≤ a) else false) = true → (bif decide (a ≤ b) then decide (-m ≤ a) else false) = true) ∧ ((bif decide (a ≤ b) then decide (-m ≤ a) else false) = true → (bif decide (a ≤ b) then decide (-m ≤ a) else false) = true) ∧ ((bif decide (a ≤ b) then decide (-m ≤ a) else false) = true → (bif decide (a ≤ b) then decide (-m ≤ a) else false) = true) ∧ (bif bif decide (a ≤ b) then decide (-m ≤ a) else false then decide (b ≤ m) else false) = M.within a b (-m) m
theorem r96 (a b m : Int) : V true [] [] Try.f96 [0,1,2,4] [] [.agg [SI a, SI b], SI m] (.bool (M.within a b (-m) m)) = Rr96 a b m := by kernel_rfl
theorem br96 (a b m : Int) (hp : (R64 (-m)) ∧ AllP []) : Rr96 a b m := by
  unfold Rr96
  unfold M.within
  grind
theorem s96 : PureOK PP 96 e96 := by
  intro xs ps res h hp
  unfold e96 at h
  split at h
  · rename_i a b m
    simp only [Option.some.injEq, Prod.mk.injEq] at h
    obtain ⟨rfl, rfl⟩ := h
    simp only [AllP.cons] at hp
    refine enter (L := [0,1,2,4]) (LO := []) (E := []) (O := []) (ck := true) (.nil) (.nil) (k := 96) (f := Try.f96) (xs := [.agg [SI a, SI b], SI m]) (r := (.bool (M.within a b (-m) m))) (by kernel_rfl) (by kernel_rfl) (fun _ => .nil) ?_
    exact Hold.of (r96 a b m) (br96 a b m hp)
  · cases h
def e95 : List SV → Option (List Prop × SV)
  | [.agg [.int .i64 a, .int .i64 b]] => some ([], .bool (!M.within a b (-1200000) 1200000))
  | _ => none
def Rr95 (a b : Int) : Prop := R64 (-1200000 : Int) ∧ (!M.within a b (-1200000 : Int) (1200000 : Int)) = !M.within a b (-1200000 : Int) (1200000 : Int)
theorem r95 (a b : Int) : V true [] [(96, pureE e96)] Try.f95 [0,1,2] [] [.agg [SI a, SI b]] (.bool (!M.within a b (-1200000) 1200000)) = Rr95 a b := by kernel_rfl
theorem br95 (a b : Int)  : Rr95 a b := by
  unfold Rr95
  unfold R64
  grind
theorem s95 : PureOK PP 95 e95 := by
  intro xs ps res h hp
  unfold e95 at h
  split at h
  · rename_i a b
    simp only [Option.some.injEq, Prod.mk.injEq] at h
    obtain ⟨rfl, rfl⟩ := h
    clear hp
    refine enter (L := [0,1,2]) (LO := []) (E := []) (O := [(96, pureE e96)]) (ck := true) (.nil) (.cons (pureE_ok s96) (.nil)) (k := 95) (f := Try.f95) (xs := [.agg [SI a, SI b]]) (r := (.bool (!M.within a b (-1200000) 1200000))) (by kernel_rfl) (by kernel_rfl) (fun _ => .nil) ?_
    exact Hold.of (r95 a b) (br95 a b )
  · cases h
def e63 : List SV → Option (List Prop × SV)
  | [.agg [.int .i64 x0, .int .i64 x1, .int .i64 y0, .int .i64 y1, .int .i64 r, .int .i64 m0, .int .i64 m1, .int .i64 l0, .int .i64 l1], .int .i64 d] => some ([], .tup [SI (min d r), SI (max d r)])
  | _ => none
def Rr63 (x0 x1 y0 y1 r m0 m1 l0 l1 d : Int) : Prop := min d r = min d r ∧ max d r = max d r
theorem r63 (x0 x1 y0 y1 r m0 m1 l0 l1 d : Int) : V true [] [] Try.f63 [0,1,2,4,5] [] [.agg [SI x0, SI x1, SI y0, SI y1, SI r, SI m0, SI m1, SI l0, SI l1], SI d] (.tup [SI (min d r), SI (max d r)]) = Rr63 x0 x1 y0 y1 r m0 m1 l0 l1 d := by kernel_rfl
theorem br63 (x0 x1 y0 y1 r m0 m1 l0 l1 d : Int)  : Rr63 x0 x1 y0 y1 r m0 m1 l0 l1 d := by
  unfold Rr63
  simp
theorem s63 : PureOK PP 63 e63 := by
  intro xs ps res h hp
  unfold e63 at h
  split at h
  · rename_i x0 x1 y0 y1 r m0 m1 l0 l1 d
    simp only [Option.some.injEq, Prod.mk.injEq] at h
    obtain ⟨rfl, rfl⟩ := h
    clear hp
    refine enter (L := [0,1,2,4,5]) (LO := []) (E := []) (O := []) (ck := true) (.nil) (.nil) (k := 63) (f := Try.f63) (xs := [.agg [SI x0, SI x1, SI y0, SI y1, SI r, SI m0, SI m1, SI l0, SI l1], SI d]) (r := (.tup [SI (min d r), SI (max d r)])) (by kernel_rfl) (by kernel_rfl) (fun _ => .nil) ?_
    exact Hold.of (r63 x0 x1 y0 y1 r m0 m1 l0 l1 d) (br63 x0 x1 y0 y1 r m0 m1 l0 l1 d )
  · cases h
def e68 : List SV → Option (List Prop × SV)
  | [.agg [.int .i64 a, .int .i64 b]] => some ([R64 (-b), R64 (-a)], .agg [SI (-b), SI (-a)])
  | _ => none
def Rr68 (a b : Int) : Prop := R64 (-b) ∧ R64 (-a) ∧ -b = -b ∧ -a = -a
theorem r68 (a b : Int) : V true [] [(58, pureE e58)] Try.f68 [0,1,2] [] [.agg [SI a, SI b]] (.agg [SI (-b), SI (-a)]) = Rr68 a b := by kernel_rfl
theorem br68 (a b : Int) (hp : (R64 (-b)) ∧ (R64 (-a)) ∧ AllP []) : Rr68 a b := by
  unfold Rr68
  simp [hp]
theorem s68 : PureOK PP 68 e68 := by
  intro xs ps res h hp
  unfold e68 at h
  split at h
  · rename_i a b
    simp only [Option.some.injEq, Prod.mk.injEq] at h
    obtain ⟨rfl, rfl⟩ := h
    simp only [AllP.cons] at hp
    refine enter (L := [0,1,2]) (LO := []) (E := []) (O := [(58, pureE e58)]) (ck := true) (.nil) (.cons (pureE_ok s58) (.nil)) (k := 68) (f := Try.f68) (xs := [.agg [SI a, SI b]]) (r := (.agg [SI (-b), SI (-a)])) (by kernel_rfl) (by kernel_rfl) (fun _ => .nil) ?_
    exact Hold.of (r68 a b) (br68 a b hp)
  · cases h
def e78 : List SV → Option (List Prop × SV)
  | [.agg [.int .i64 a, .int .i64 b]] => some ([R64 (-b), R64 (-a)], .agg [SI (-b), SI (-a)])
  | _ => none
def Rr78 (a b : Int) : Prop := R64 (-b) ∧ R64 (-a) ∧ -b = -b ∧ -a = -a
theorem r78 (a b : Int) : V true [] [] Try.f78 [0,1,2] [] [.agg [SI a, SI b]] (.agg [SI (-b), SI (-a)]) = Rr78 a b := by kernel_rfl
theorem br78 (a b : Int) (hp : (R64 (-b)) ∧ (R64 (-a)) ∧ AllP []) : Rr78 a b := by
  unfold Rr78
  simp [hp]
theorem s78 : PureOK PP 78 e78 := by
  intro xs ps res h hp
  unfold e78 at h
  split at h
  · rename_i a b
    simp only [Option.some.injEq, Prod.mk.injEq] at h
    obtain ⟨rfl, rfl⟩ := h
    simp only [AllP.cons] at hp
    refine enter (L := [0,1,2]) (LO := []) (E := []) (O := []) (ck := true) (.nil) (.nil) (k := 78) (f := Try.f78) (xs := [.agg [SI a, SI b]]) (r := (.agg [SI (-b), SI (-a)])) (by kernel_rfl) (by kernel_rfl) (fun _ => .nil) ?_
    exact Hold.of (r78 a b) (br78 a b hp)
  · cases h
def e18 : List SV → Option (List Prop × SV)
  | [.agg [.int .i64 a, .int .i64 b, .int .i64 d, .int .i64 e, .int .i64 f]] => some ([], SI (if M.wind a b d e f then 0 else 3))
  | _ => none
def Rr18 (a b d e f : Int) : Prop := ((!!M.within a b (0 : Int) (10000 : Int)) = true → (!!M.within a b (0 : Int) (10000 : Int)) = true) ∧ ((!!M.within a b (0 : Int) (10000 : Int)) = true → (!!M.within a b (0 : Int) (10000 : Int)) = true) ∧ ((!M.within a b (0 : Int) (10000 : Int)) = false → (!!M.within a b (0 : Int) (10000 : Int)) = true) ∧ ((!bif !M.within a b (0 : Int) (10000 : Int) then true else decide (d < (1 : Int))) = true → (!bif !M.within a b (0 : Int) (10000 : Int) then true else decide (d < (1 : Int))) = true) ∧ ((!bif !M.within a b (0 : Int) (10000 : Int) then true else decide (d < (1 : Int))) = true → (!bif !M.within a b (0 : Int) (10000 : Int) then true else decide (d < (1 : Int))) = true) ∧ ((bif !M.within a b (0 : Int) (10000 : Int) then true else decide (d < (1 : Int))) = false → (!bif !M.within a b (0 : Int) (10000 : Int) then true else decide (d < (1 : Int))) = true) ∧ ((!bif bif !M.within a b (0 : Int) (10000 : Int) then true else decide (d < (1 : Int)) then true else decide ((255 : Int) < d)) = true → (!bif bif !M.within a b (0 : Int) (10000 : Int) then true else decide (d < (1 : Int)) then true else decide ((255 : Int) < d)) = true) ∧ ((!bif bif !M.within a b (0 : Int) (10000 : Int) then true else decide (d < (1 : Int)) then true else decide ((255 : Int) < d)) = true → (!bif bif !M.within a b (0 : Int) (10000 : Int) then true else decide (d < (1 : Int)) then true else decide ((255 : Int) < d)) = true) ∧ ((!bif bif !M.within a b (0 : Int) (10000 : Int) then true else decide (d < (1 : Int)) then true else decide ((255 : Int) < d)) = true → (!bif bif !M.within a b (0 : Int) (10000 : Int) then true else decide (d < (1 : Int)) then true else decide ((255 : Int) < d)) = true) ∧ ((!bif bif !M.within a b (0 : Int) (10000 : Int) then true else decide (d < (1 : Int)) then true else decide ((255 : Int) < d)) = true → (!bif bif !M.within a b (0 : Int) (10000 : Int) then true else decide (d < (1 : Int)) then true else decide ((255 : Int) < d)) = true) ∧ ((bif bif !M.within a b (0 : Int) (10000 : Int) then true else decide (d < (1 : Int)) then true else decide ((255 : Int) < d)) = false → (!bif bif !M.within a b (0 : Int) (10000 : Int) then true else decide (d < (1 : Int)) then true else decide ((255 : Int) < d)) = true) ∧ ((bif bif bif !M.within a b (0 : Int) (10000 : Int) then true else decide (d < (1 : Int)) then true else decide ((255 : Int) < d) then true else !M.within e f (-20000 : Int) (20000 : Int)) = true → (3 : Int) = if M.wind a b d e f = true then (0 : Int) else (3 : Int)) ∧ ((bif bif bif !M.within a b (0 : Int) (10000 : Int) then true else decide (d < (1 : Int)) then true else decide ((255 : Int) < d) then true else !M.within e f (-20000 : Int) (20000 : Int)) = false → (0 : Int) = if M.wind a b d e f = true then (0 : Int) else (3 : Int))
theorem r18 (a b d e f : Int) : V true [] [(69, pureE e69)] Try.f18 [0,1,2,24] [] [.agg [SI a, SI b, SI d, SI e, SI f]] (SI (if M.wind a b d e f then 0 else 3)) = Rr18 a b d e f := by kernel_rfl
theorem br18 (a b d e f : Int)  : Rr18 a b d e f := by
  unfold Rr18
  unfold M.wind
  grind
theorem s18 : PureOK PP 18 e18 := by
  intro xs ps res h hp
  unfold e18 at h
  split at h
  · rename_i a b d e f
    simp only [Option.some.injEq, Prod.mk.injEq] at h
    obtain ⟨rfl, rfl⟩ := h
    clear hp
    refine enter (L := [0,1,2,24]) (LO := []) (E := []) (O := [(69, pureE e69)]) (ck := true) (.nil) (.cons (pureE_ok s69) (.nil)) (k := 18) (f := Try.f18) (xs := [.agg [SI a, SI b, SI d, SI e, SI f]]) (r := (SI (if M.wind a b d e f then 0 else 3))) (by kernel_rfl) (by kernel_rfl) (fun _ => .nil) ?_
    exact Hold.of (r18 a b d e f) (br18 a b d e f )
  · cases h
def e46 : List SV → Option (List Prop × SV)
  | [.agg [.int .i64 a, .int .i64 b, .int .i64 d, .int .i64 e, .int .i64 f]] => some ([], SI (if M.wind a b d e f then 0 else 3))
  | _ => none
def Rr46 (a b d e f : Int) : Prop := ((!!M.within a b (0 : Int) (10000 : Int)) = true → (!!M.within a b (0 : Int) (10000 : Int)) = true) ∧ ((!!M.within a b (0 : Int) (10000 : Int)) = true → (!!M.within a b (0 : Int) (10000 : Int)) = true) ∧ ((!!M.within a b (0 : Int) (10000 : Int)) = true → (!!M.within a b (0 : Int) (10000 : Int)) = true) ∧ ((!M.within a b (0 : Int) (10000 : Int)) = false → (!!M.within a b (0 : Int) (10000 : Int)) = true) ∧ ((!bif !M.within a b (0 : Int) (10000 : Int) then true else !(decide ((1 : Int) ≤ d) && decide (d ≤ (255 : Int)))) = true → (!bif !M.within a b (0 : Int) (10000 : Int) then true else !(decide ((1 : Int) ≤ d) && decide (d ≤ (255 : Int)))) = true) ∧ ((!bif !M.within a b (0 : Int) (10000 : Int) then true else !(decide ((1 : Int) ≤ d) && decide (d ≤ (255 : Int)))) = true → (!bif !M.within a b (0 : Int) (10000 : Int) then true else !(decide ((1 : Int) ≤ d) && decide (d ≤ (255 : Int)))) = true) ∧ ((!bif !M.within a b (0 : Int) (10000 : Int) then true else !(decide ((1 : Int) ≤ d) && decide (d ≤ (255 : Int)))) = true → (!bif !M.within a b (0 : Int) (10000 : Int) then true else !(decide ((1 : Int) ≤ d) && decide (d ≤ (255 : Int)))) = true) ∧ ((bif !M.within a b (0 : Int) (10000 : Int) then true else !(decide ((1 : Int) ≤ d) && decide (d ≤ (255 : Int)))) = false → (!bif !M.within a b (0 : Int) (10000 : Int) then true else !(decide ((1 : Int) ≤ d) && decide (d ≤ (255 : Int)))) = true) ∧ ((bif bif !M.within a b (0 : Int) (10000 : Int) then true else !(decide ((1 : Int) ≤ d) && decide (d ≤ (255 : Int))) then true else !M.within e f (-20000 : Int) (20000 : Int)) = true → (3 : Int) = if M.wind a b d e f = true then (0 : Int) else (3 : Int)) ∧ ((bif bif !M.within a b (0 : Int) (10000 : Int) then true else !(decide ((1 : Int) ≤ d) && decide (d ≤ (255 : Int))) then true else !M.within e f (-20000 : Int) (20000 : Int)) = false → (0 : Int) = if M.wind a b d e f = true then (0 : Int) else (3 : Int))
theorem r46 (a b d e f : Int) : V true [] [(71, pureE e71), (72, pureE e72)] Try.f46 [0,1,2,18] [] [.agg [SI a, SI b, SI d, SI e, SI f]] (SI (if M.wind a b d e f then 0 else 3)) = Rr46 a b d e f := by kernel_rfl
theorem br46 (a b d e f : Int)  : Rr46 a b d e f := by
  unfold Rr46
  unfold M.wind
  grind
theorem s46 : PureOK PP 46 e46 := by
  intro xs ps res h hp
  unfold e46 at h
  split at h
  · rename_i a b d e f
    simp only [Option.some.injEq, Prod.mk.injEq] at h
    obtain ⟨rfl, rfl⟩ := h
    clear hp
    refine enter (L := [0,1,2,18]) (LO := []) (E := []) (O := [(71, pureE e71), (72, pureE e72)]) (ck := true) (.nil) (.cons (pureE_ok s71) (.cons (pureE_ok s72) (.nil))) (k := 46) (f := Try.f46) (xs := [.agg [SI a, SI b, SI d, SI e, SI f]]) (r := (SI (if M.wind a b d e f then 0 else 3))) (by kernel_rfl) (by kernel_rfl) (fun _ => .nil) ?_
    exact Hold.of (r46 a b d e f) (br46 a b d e f )
  · cases h
def e44 : List SV → Option (List Prop × SV)
  | [.agg [.int .i64 a, .int .i64 b, .int .i64 c, .int .i64 d]] => some ([], SI (if M.within a b 1 10000 && M.within c d 1 1024 then 0 else 3))
  | _ => none
def Rr44 (a b c d : Int) : Prop := ((!!M.within a b (1 : Int) (10000 : Int)) = true → (!!M.within a b (1 : Int) (10000 : Int)) = true) ∧ ((!!M.within a b (1 : Int) (10000 : Int)) = true → (!!M.within a b (1 : Int) (10000 : Int)) = true) ∧ ((!!M.within a b (1 : Int) (10000 : Int)) = true → (!!M.within a b (1 : Int) (10000 : Int)) = true) ∧ ((!!M.within a b (1 : Int) (10000 : Int)) = true → (!!M.within a b (1 : Int) (10000 : Int)) = true) ∧ ((!M.within a b (1 : Int) (10000 : Int)) = false → (!!M.within a b (1 : Int) (10000 : Int)) = true) ∧ ((bif !M.within a b (1 : Int) (10000 : Int) then true else !M.within c d (1 : Int) (1024 : Int)) = true → (3 : Int) = if (M.within a b (1 : Int) (10000 : Int) && M.within c d (1 : Int) (1024 : Int)) = true then (0 : Int) else (3 : Int)) ∧ ((bif !M.within a b (1 : Int) (10000 : Int) then true else !M.within c d (1 : Int) (1024 : Int)) = false → (0 : Int) = if (M.within a b (1 : Int) (10000 : Int) && M.within c d (1 : Int) (1024 : Int)) = true then (0 : Int) else (3 : Int))
theorem r44 (a b c d : Int) : V true [] [(69, pureE e69)] Try.f44 [0,1,2,14] [] [.agg [SI a, SI b, SI c, SI d]] (SI (if M.within a b 1 10000 && M.within c d 1 1024 then 0 else 3)) = Rr44 a b c d := by kernel_rfl
theorem br44 (a b c d : Int)  : Rr44 a b c d := by
  unfold Rr44
  grind
theorem s44 : PureOK PP 44 e44 := by
  intro xs ps res h hp
  unfold e44 at h
  split at h
  · rename_i a b c d
    simp only [Option.some.injEq, Prod.mk.injEq] at h
    obtain ⟨rfl, rfl⟩ := h
    clear hp
    refine enter (L := [0,1,2,14]) (LO := []) (E := []) (O := [(69, pureE e69)]) (ck := true) (.nil) (.cons (pureE_ok s69) (.nil)) (k := 44) (f := Try.f44) (xs := [.agg [SI a, SI b, SI c, SI d]]) (r := (SI (if M.within a b 1 10000 && M.within c d 1 1024 then 0 else 3))) (by kernel_rfl) (by kernel_rfl) (fun _ => .nil) ?_
    exact Hold.of (r44 a b c d) (br44 a b c d )
  · cases h
def e45 : List SV → Option (List Prop × SV)
  | [.agg [.int .i64 a, .int .i64 b, .int .i64 c, .int .i64 d]] => some ([], SI (if M.within a b 1 10000 && M.within c d 1 1024 then 0 else 3))
  | _ => none
def Rr45 (a b c d : Int) : Prop := ((!!M.within a b (1 : Int) (10000 : Int)) = true → (!!M.within a b (1 : Int) (10000 : Int)) = true) ∧ ((!!M.within a b (1 : Int) (10000 : Int)) = true → (!!M.within a b (1 : Int) (10000 : Int)) = true) ∧ ((!!M.within a b (1 : Int) (10000 : Int)) = true → (!!M.within a b (1 : Int) (10000 : Int)) = true) ∧ ((!M.within a b (1 : Int) (10000 : Int)) = false → (!!M.within a b (1 : Int) (10000 : Int)) = true) ∧ ((bif !M.within a b (1 : Int) (10000 : Int) then true else !M.within c d (1 : Int) (1024 : Int)) = true → (3 : Int) = if (M.within a b (1 : Int) (10000 : Int) && M.within c d (1 : Int) (1024 : Int)) = true then (0 : Int) else (3 : Int)) ∧ ((bif !M.within a b (1 : Int) (10000 : Int) then true else !M.within c d (1 : Int) (1024 : Int)) = false → (0 : Int) = if (M.within a b (1 : Int) (10000 : Int) && M.within c d (1 : Int) (1024 : Int)) = true then (0 : Int) else (3 : Int))
theorem r45 (a b c d : Int) : V true [] [(71, pureE e71)] Try.f45 [0,1,2,12] [] [.agg [SI a, SI b, SI c, SI d]] (SI (if M.within a b 1 10000 && M.within c d 1 1024 then 0 else 3)) = Rr45 a b c d := by kernel_rfl
theorem br45 (a b c d : Int)  : Rr45 a b c d := by
  unfold Rr45
  grind
theorem s45 : PureOK PP 45 e45 := by
  intro xs ps res h hp
  unfold e45 at h
  split at h
  · rename_i a b c d
    simp only [Option.some.injEq, Prod.mk.injEq] at h
    obtain ⟨rfl, rfl⟩ := h
    clear hp
    refine enter (L := [0,1,2,12]) (LO := []) (E := []) (O := [(71, pureE e71)]) (ck := true) (.nil) (.cons (pureE_ok s71) (.nil)) (k := 45) (f := Try.f45) (xs := [.agg [SI a, SI b, SI c, SI d]]) (r := (SI (if M.within a b 1 10000 && M.within c d 1 1024 then 0 else 3))) (by kernel_rfl) (by kernel_rfl) (fun _ => .nil) ?_
    exact Hold.of (r45 a b c d) (br45 a b c d )
  · cases h
def e99 : List SV → Option (List Prop × SV)
  | [.agg [.int .i64 a, .int .i64 b], .agg [.int .i64 c, .int .i64 d]] => some ([M.Sm a, M.Sm b, M.Sm c, M.Sm d], .bool (M.ahead a b c d))
  | _ => none
def Rr99 (a b c d : Int) : Prop := (decide ((0 : Int) < b) = true → decide ((0 : Int) < b) = true) ∧ (decide ((0 : Int) < b) = true → R64 (-d)) ∧ (decide ((0 : Int) < b) = true → decide ((0 : Int) < b) = true) ∧ (decide ((0 : Int) < b) = true → R64 ((12 : Int) * M.near c d)) ∧ (decide ((0 : Int) < b) = true → decide ((0 : Int) < b) = true) ∧ (decide ((0 : Int) < b) = true → decide ((0 : Int) < b) = true) ∧ (decide ((0 : Int) < b) = true → decide ((0 : Int) < b) = true) ∧ (decide ((0 : Int) < b) = true → R64 ((5 : Int) * b)) ∧ (decide ((0 : Int) < b) = true → decide ((0 : Int) < b) = true) ∧ (decide ((0 : Int) < b) = true → decide ((0 : Int) < b) = true) ∧ (decide ((0 : Int) < b) = true → decide ((0 : Int) < b) = true) ∧ (bif decide ((0 : Int) < b) then decide ((12 : Int) * M.near c d ≤ (5 : Int) * b) else false) = M.ahead a b c d
theorem r99 (a b c d : Int) : V true [] [(61, pureE e61)] Try.f99 [0,1,2,3,4] [] [.agg [SI a, SI b], .agg [SI c, SI d]] (.bool (M.ahead a b c d)) = Rr99 a b c d := by kernel_rfl
theorem br99 (a b c d : Int) (hp : (M.Sm a) ∧ (M.Sm b) ∧ (M.Sm c) ∧ (M.Sm d) ∧ AllP []) : Rr99 a b c d := by
  unfold Rr99
  unfold M.ahead M.near R64
  unfold M.Sm at hp
  grind
theorem s99 : PureOK PP 99 e99 := by
  intro xs ps res h hp
  unfold e99 at h
  split at h
  · rename_i a b c d
    simp only [Option.some.injEq, Prod.mk.injEq] at h
    obtain ⟨rfl, rfl⟩ := h
    simp only [AllP.cons] at hp
    refine enter (L := [0,1,2,3,4]) (LO := []) (E := []) (O := [(61, pureE e61)]) (ck := true) (.nil) (.cons (pureE_ok s61) (.nil)) (k := 99) (f := Try.f99) (xs := [.agg [SI a, SI b], .agg [SI c, SI d]]) (r := (.bool (M.ahead a b c d))) (by kernel_rfl) (by kernel_rfl) (fun _ => .nil) ?_
    exact Hold.of (r99 a b c d) (br99 a b c d hp)
  · cases h
def e102 : List SV → Option (List Prop × SV)
  | [.agg [.int .i64 a, .int .i64 b], .agg [.int .i64 c, .int .i64 d]] => some ([M.Sm a, M.Sm b, M.Sm c, M.Sm d], .bool (M.ahead a b c d))
  | _ => none
def Rr102 (a b c d : Int) : Prop := (decide ((0 : Int) < b) = true → decide ((0 : Int) < b) = true) ∧ (decide ((0 : Int) < b) = true → R64 (-d)) ∧ (decide ((0 : Int) < b) = true → decide ((0 : Int) < b) = true) ∧ (decide ((0 : Int) < b) = true → R64 ((12 : Int) * M.near c d)) ∧ (decide ((0 : Int) < b) = true → decide ((0 : Int) < b) = true) ∧ (decide ((0 : Int) < b) = true → decide ((0 : Int) < b) = true) ∧ (decide ((0 : Int) < b) = true → R64 ((5 : Int) * b)) ∧ (decide ((0 : Int) < b) = true → decide ((0 : Int) < b) = true) ∧ (decide ((0 : Int) < b) = true → decide ((0 : Int) < b) = true) ∧ (decide ((0 : Int) < b) = true → decide ((0 : Int) < b) = true) ∧ (bif decide ((0 : Int) < b) then decide ((12 : Int) * M.near c d ≤ (5 : Int) * b) else false) = M.ahead a b c d
theorem r102 (a b c d : Int) : V true [] [(74, pureE e74)] Try.f102 [0,1,2,3,4] [] [.agg [SI a, SI b], .agg [SI c, SI d]] (.bool (M.ahead a b c d)) = Rr102 a b c d := by kernel_rfl
theorem br102 (a b c d : Int) (hp : (M.Sm a) ∧ (M.Sm b) ∧ (M.Sm c) ∧ (M.Sm d) ∧ AllP []) : Rr102 a b c d := by
  unfold Rr102
  unfold M.ahead M.near R64
  unfold M.Sm at hp
  grind
theorem s102 : PureOK PP 102 e102 := by
  intro xs ps res h hp
  unfold e102 at h
  split at h
  · rename_i a b c d
    simp only [Option.some.injEq, Prod.mk.injEq] at h
    obtain ⟨rfl, rfl⟩ := h
    simp only [AllP.cons] at hp
    refine enter (L := [0,1,2,3,4]) (LO := []) (E := []) (O := [(74, pureE e74)]) (ck := true) (.nil) (.cons (pureE_ok s74) (.nil)) (k := 102) (f := Try.f102) (xs := [.agg [SI a, SI b], .agg [SI c, SI d]]) (r := (.bool (M.ahead a b c d))) (by kernel_rfl) (by kernel_rfl) (fun _ => .nil) ?_
    exact Hold.of (r102 a b c d) (br102 a b c d hp)
  · cases h
def e100 : List SV → Option (List Prop × SV)
  | [.agg [.int .i64 a, .int .i64 b], .agg [.int .i64 c, .int .i64 d]] => some ([M.Sm a, M.Sm b, M.Sm c, M.Sm d], .bool (M.aslant a b c d))
  | _ => none
def Rr100 (a b c d : Int) : Prop := (decide ((0 : Int) < b) = true → decide ((0 : Int) < b) = true) ∧ (decide ((0 : Int) < b) = true → decide ((0 : Int) < b) = true) ∧ (decide ((0 : Int) < b) = true → decide ((0 : Int) < b) = true) ∧ (decide ((0 : Int) < b) = true → decide ((0 : Int) < b) = true) ∧ ((bif decide ((0 : Int) < b) then decide ((0 : Int) < d) else false) = true → (bif decide ((0 : Int) < b) then decide ((0 : Int) < d) else false) = true) ∧ ((bif decide ((0 : Int) < b) then decide ((0 : Int) < d) else false) = true → (bif decide ((0 : Int) < b) then decide ((0 : Int) < d) else false) = true) ∧ ((bif decide ((0 : Int) < b) then decide ((0 : Int) < d) else false) = true → (bif decide ((0 : Int) < b) then decide ((0 : Int) < d) else false) = true) ∧ ((bif decide ((0 : Int) < b) then decide ((0 : Int) < d) else false) = true → R64 ((12 : Int) * d)) ∧ ((bif decide ((0 : Int) < b) then decide ((0 : Int) < d) else false) = true → (bif decide ((0 : Int) < b) then decide ((0 : Int) < d) else false) = true) ∧ ((bif decide ((0 : Int) < b) then decide ((0 : Int) < d) else false) = true → (bif decide ((0 : Int) < b) then decide ((0 : Int) < d) else false) = true) ∧ ((bif decide ((0 : Int) < b) then decide ((0 : Int) < d) else false) = true → (bif decide ((0 : Int) < b) then decide ((0 : Int) < d) else false) = true) ∧ ((bif decide ((0 : Int) < b) then decide ((0 : Int) < d) else false) = true → (bif decide ((0 : Int) < b) then decide ((0 : Int) < d) else false) = true) ∧ ((bif decide ((0 : Int) < b) then decide ((0 : Int) < d) else false) = true → R64 ((5 : Int) * max (1 : Int) a)) ∧ ((bif decide ((0 : Int) < b) then decide ((0 : Int) < d) else false) = true → (bif decide ((0 : Int) < b) then decide ((0 : Int) < d) else false) = true) ∧ ((bif decide ((0 : Int) < b) then decide ((0 : Int) < d) else false) = true → (bif decide ((0 : Int) < b) then decide ((0 : Int) < d) else false) = true) ∧ ((bif decide ((0 : Int) < b) then decide ((0 : Int) < d) else false) = true → (bif decide ((0 : Int) < b) then decide ((0 : Int) < d) else false) = true) ∧ ((bif bif decide ((0 : Int) < b) then decide ((0 : Int) < d) else false then decide ((5 : Int) * max (1 : Int) a ≤ (12 : Int) * d) else false) = true → (bif bif decide ((0 : Int) < b) then decide ((0 : Int) < d) else false then decide ((5 : Int) * max (1 : Int) a ≤ (12 : Int) * d) else false) = true) ∧ ((bif bif decide ((0 : Int) < b) then decide ((0 : Int) < d) else false then decide ((5 : Int) * max (1 : Int) a ≤ (12 : Int) * d) else false) = true → (bif bif decide ((0 : Int) < b) then decide ((0 : Int) < d) else false then decide ((5 : Int) * max (1 : Int) a ≤ (12 : Int) * d) else false) = true) ∧ ((bif bif decide ((0 : Int) < b) then decide ((0 : Int) < d) else false then decide ((5 : Int) * max (1 : Int) a ≤ (12 : Int) * d) else false) = true → (bif bif decide ((0 : Int) < b) then decide ((0 : Int) < d) else false then decide ((5 : Int) * max (1 : Int) a ≤ (12 : Int) * d) else false) = true) ∧ ((bif bif decide ((0 : Int) < b) then decide ((0 : Int) < d) else false then decide ((5 : Int) * max (1 : Int) a ≤ (12 : Int) * d) else false) = true → R64 ((12 : Int) * b)) ∧ ((bif bif decide ((0 : Int) < b) then decide ((0 : Int) < d) else false then decide ((5 : Int) * max (1 : Int) a ≤ (12 : Int) * d) else false) = true → (bif bif decide ((0 : Int) < b) then decide ((0 : Int) < d) else false then decide ((5 : Int) * max (1 : Int) a ≤ (12 : Int) * d) else false) = true) ∧ ((bif bif decide ((0 : Int) < b) then decide ((0 : Int) < d) else false then decide ((5 : Int) * max (1 : Int) a ≤ (12 : Int) * d) else false) = true → (bif bif decide ((0 : Int) < b) then decide ((0 : Int) < d) else false then decide ((5 : Int) * max (1 : Int) a ≤ (12 : Int) * d) else false) = true) ∧ ((bif bif decide ((0 : Int) < b) then decide ((0 : Int) < d) else false then decide ((5 : Int) * max (1 : Int) a ≤ (12 : Int) * d) else false) = true → (bif bif decide ((0 : Int) < b) then decide ((0 : Int) < d) else false then decide ((5 : Int) * max (1 : Int) a ≤ (12 : Int) * d) else false) = true) ∧ ((bif bif decide ((0 : Int) < b) then decide ((0 : Int) < d) else false then decide ((5 : Int) * max (1 : Int) a ≤ (12 : Int) * d) else false) = true → (bif bif decide ((0 : Int) < b) then decide ((0 : Int) < d) else false then decide ((5 : Int) * max (1 : Int) a ≤ (12 : Int) * d) else false) = true) ∧ ((bif bif decide ((0 : Int) < b) then decide ((0 : Int) < d) else false then decide ((5 : Int) * max (1 : Int) a ≤ (12 : Int) * d) else false) = true → R64 ((5 : Int) * max (1 : Int) c)) ∧ ((bif bif decide ((0 : Int) < b) then decide ((0 : Int) < d) else false then decide ((5 : Int) * max (1 : Int) a ≤ (12 : Int) * d) else false) = true → (bif bif decide ((0 : Int) < b) then decide ((0 : Int) < d) else false then decide ((5 : Int) * max (1 : Int) a ≤ (12 : Int) * d) else false) = true) ∧ ((bif bif decide ((0 : Int) < b) then decide ((0 : Int) < d) else false then decide ((5 : Int) * max (1 : Int) a ≤ (12 : Int) * d) else false) = true → (bif bif decide ((0 : Int) < b) then decide ((0 : Int) < d) else false then decide ((5 : Int) * max (1 : Int) a ≤ (12 : Int) * d) else false) = true) ∧ ((bif bif decide ((0 : Int) < b) then decide ((0 : Int) < d) else false then decide ((5 : Int) * max (1 : Int) a ≤ (12 : Int) * d) else false) = true → (bif bif decide ((0 : Int) < b) then decide ((0 : Int) < d) else false then decide ((5 : Int) * max (1 : Int) a ≤ (12 : Int) * d) else false) = true) ∧ (bif bif bif decide ((0 : Int) < b) then decide ((0 : Int) < d) else false then decide ((5 : Int) * max (1 : Int) a ≤ (12 : Int) * d) else false then decide ((5 : Int) * max (1 : Int) c ≤ (12 : Int) * b) else false) = M.aslant a b c d
theorem r100 (a b c d : Int) : V true [] [] Try.f100 [0,1,2,3,4] [] [.agg [SI a, SI b], .agg [SI c, SI d]] (.bool (M.aslant a b c d)) = Rr100 a b c d := by kernel_rfl
theorem br100 (a b c d : Int) (hp : (M.Sm a) ∧ (M.Sm b) ∧ (M.Sm c) ∧ (M.Sm d) ∧ AllP []) : Rr100 a b c d := by
  unfold Rr100
  unfold M.aslant R64
  unfold M.Sm at hp
  grind
theorem s100 : PureOK PP 100 e100 := by
  intro xs ps res h hp
  unfold e100 at h
  split at h
  · rename_i a b c d
    simp only [Option.some.injEq, Prod.mk.injEq] at h
    obtain ⟨rfl, rfl⟩ := h
    simp only [AllP.cons] at hp
    refine enter (L := [0,1,2,3,4]) (LO := []) (E := []) (O := []) (ck := true) (.nil) (.nil) (k := 100) (f := Try.f100) (xs := [.agg [SI a, SI b], .agg [SI c, SI d]]) (r := (.bool (M.aslant a b c d))) (by kernel_rfl) (by kernel_rfl) (fun _ => .nil) ?_
    exact Hold.of (r100 a b c d) (br100 a b c d hp)
  · cases h
def e103 : List SV → Option (List Prop × SV)
  | [.agg [.int .i64 a, .int .i64 b], .agg [.int .i64 c, .int .i64 d]] => some ([M.Sm a, M.Sm b, M.Sm c, M.Sm d], .bool (M.aslant a b c d))
  | _ => none
def Rr103 (a b c d : Int) : Prop := (decide ((0 : Int) < b) = true → decide ((0 : Int) < b) = true) ∧ (decide ((0 : Int) < b) = true → decide ((0 : Int) < b) = true) ∧ (decide ((0 : Int) < b) = true → decide ((0 : Int) < b) = true) ∧ ((bif decide ((0 : Int) < b) then decide ((0 : Int) < d) else false) = true → (bif decide ((0 : Int) < b) then decide ((0 : Int) < d) else false) = true) ∧ ((bif decide ((0 : Int) < b) then decide ((0 : Int) < d) else false) = true → (bif decide ((0 : Int) < b) then decide ((0 : Int) < d) else false) = true) ∧ ((bif decide ((0 : Int) < b) then decide ((0 : Int) < d) else false) = true → R64 ((12 : Int) * d)) ∧ ((bif decide ((0 : Int) < b) then decide ((0 : Int) < d) else false) = true → (bif decide ((0 : Int) < b) then decide ((0 : Int) < d) else false) = true) ∧ ((bif decide ((0 : Int) < b) then decide ((0 : Int) < d) else false) = true → (bif decide ((0 : Int) < b) then decide ((0 : Int) < d) else false) = true) ∧ ((bif decide ((0 : Int) < b) then decide ((0 : Int) < d) else false) = true → (bif decide ((0 : Int) < b) then decide ((0 : Int) < d) else false) = true) ∧ ((bif decide ((0 : Int) < b) then decide ((0 : Int) < d) else false) = true → R64 ((5 : Int) * max (1 : Int) a)) ∧ ((bif decide ((0 : Int) < b) then decide ((0 : Int) < d) else false) = true → (bif decide ((0 : Int) < b) then decide ((0 : Int) < d) else false) = true) ∧ ((bif decide ((0 : Int) < b) then decide ((0 : Int) < d) else false) = true → (bif decide ((0 : Int) < b) then decide ((0 : Int) < d) else false) = true) ∧ ((bif decide ((0 : Int) < b) then decide ((0 : Int) < d) else false) = true → (bif decide ((0 : Int) < b) then decide ((0 : Int) < d) else false) = true) ∧ ((bif bif decide ((0 : Int) < b) then decide ((0 : Int) < d) else false then decide ((5 : Int) * max (1 : Int) a ≤ (12 : Int) * d) else false) = true → (bif bif decide ((0 : Int) < b) then decide ((0 : Int) < d) else false then decide ((5 : Int) * max (1 : Int) a ≤ (12 : Int) * d) else false) = true) ∧ ((bif bif decide ((0 : Int) < b) then decide ((0 : Int) < d) else false then decide ((5 : Int) * max (1 : Int) a ≤ (12 : Int) * d) else false) = true → (bif bif decide ((0 : Int) < b) then decide ((0 : Int) < d) else false then decide ((5 : Int) * max (1 : Int) a ≤ (12 : Int) * d) else false) = true) ∧ ((bif bif decide ((0 : Int) < b) then decide ((0 : Int) < d) else false then decide ((5 : Int) * max (1 : Int) a ≤ (12 : Int) * d) else false) = true → R64 ((12 : Int) * b)) ∧ ((bif bif decide ((0 : Int) < b) then decide ((0 : Int) < d) else false then decide ((5 : Int) * max (1 : Int) a ≤ (12 : Int) * d) else false) = true → (bif bif decide ((0 : Int) < b) then decide ((0 : Int) < d) else false then decide ((5 : Int) * max (1 : Int) a ≤ (12 : Int) * d) else false) = true) ∧ ((bif bif decide ((0 : Int) < b) then decide ((0 : Int) < d) else false then decide ((5 : Int) * max (1 : Int) a ≤ (12 : Int) * d) else false) = true → (bif bif decide ((0 : Int) < b) then decide ((0 : Int) < d) else false then decide ((5 : Int) * max (1 : Int) a ≤ (12 : Int) * d) else false) = true) ∧ ((bif bif decide ((0 : Int) < b) then decide ((0 : Int) < d) else false then decide ((5 : Int) * max (1 : Int) a ≤ (12 : Int) * d) else false) = true → (bif bif decide ((0 : Int) < b) then decide ((0 : Int) < d) else false then decide ((5 : Int) * max (1 : Int) a ≤ (12 : Int) * d) else false) = true) ∧ ((bif bif decide ((0 : Int) < b) then decide ((0 : Int) < d) else false then decide ((5 : Int) * max (1 : Int) a ≤ (12 : Int) * d) else false) = true → R64 ((5 : Int) * max (1 : Int) c)) ∧ ((bif bif decide ((0 : Int) < b) then decide ((0 : Int) < d) else false then decide ((5 : Int) * max (1 : Int) a ≤ (12 : Int) * d) else false) = true → (bif bif decide ((0 : Int) < b) then decide ((0 : Int) < d) else false then decide ((5 : Int) * max (1 : Int) a ≤ (12 : Int) * d) else false) = true) ∧ ((bif bif decide ((0 : Int) < b) then decide ((0 : Int) < d) else false then decide ((5 : Int) * max (1 : Int) a ≤ (12 : Int) * d) else false) = true → (bif bif decide ((0 : Int) < b) then decide ((0 : Int) < d) else false then decide ((5 : Int) * max (1 : Int) a ≤ (12 : Int) * d) else false) = true) ∧ ((bif bif decide ((0 : Int) < b) then decide ((0 : Int) < d) else false then decide ((5 : Int) * max (1 : Int) a ≤ (12 : Int) * d) else false) = true → (bif bif decide ((0 : Int) < b) then decide ((0 : Int) < d) else false then decide ((5 : Int) * max (1 : Int) a ≤ (12 : Int) * d) else false) = true) ∧ (bif bif bif decide ((0 : Int) < b) then decide ((0 : Int) < d) else false then decide ((5 : Int) * max (1 : Int) a ≤ (12 : Int) * d) else false then decide ((5 : Int) * max (1 : Int) c ≤ (12 : Int) * b) else false) = M.aslant a b c d
theorem r103 (a b c d : Int) : V true [] [] Try.f103 [0,1,2,3,4] [] [.agg [SI a, SI b], .agg [SI c, SI d]] (.bool (M.aslant a b c d)) = Rr103 a b c d := by kernel_rfl
theorem br103 (a b c d : Int) (hp : (M.Sm a) ∧ (M.Sm b) ∧ (M.Sm c) ∧ (M.Sm d) ∧ AllP []) : Rr103 a b c d := by
  unfold Rr103
  unfold M.aslant R64
  unfold M.Sm at hp
  grind
theorem s103 : PureOK PP 103 e103 := by
  intro xs ps res h hp
  unfold e103 at h
  split at h
  · rename_i a b c d
    simp only [Option.some.injEq, Prod.mk.injEq] at h
    obtain ⟨rfl, rfl⟩ := h
    simp only [AllP.cons] at hp
    refine enter (L := [0,1,2,3,4]) (LO := []) (E := []) (O := []) (ck := true) (.nil) (.nil) (k := 103) (f := Try.f103) (xs := [.agg [SI a, SI b], .agg [SI c, SI d]]) (r := (.bool (M.aslant a b c d))) (by kernel_rfl) (by kernel_rfl) (fun _ => .nil) ?_
    exact Hold.of (r103 a b c d) (br103 a b c d hp)
  · cases h
def e50 : List SV → Option (List Prop × SV)
  | [.int .i64 n, .int .i64 a, .int .i64 b] => some ([], .bool (decide (min a b ≤ n) && decide (n ≤ max a b)))
  | _ => none
def Rr50 (n a b : Int) : Prop := (decide (min a b ≤ n) = true → decide (min a b ≤ n) = true) ∧ (decide (min a b ≤ n) = true → decide (min a b ≤ n) = true) ∧ (decide (min a b ≤ n) = true → decide (min a b ≤ n) = true) ∧ (decide (min a b ≤ n) = true → decide (min a b ≤ n) = true) ∧ (decide (min a b ≤ n) = true → decide (min a b ≤ n) = true) ∧ (bif decide (min a b ≤ n) then decide (n ≤ max a b) else false) = (decide (min a b ≤ n) && decide (n ≤ max a b))
theorem r50 (n a b : Int) : V true [] [] Try.f50 [0,1,2,6] [] [SI n, SI a, SI b] (.bool (decide (min a b ≤ n) && decide (n ≤ max a b))) = Rr50 n a b := by kernel_rfl
theorem br50 (n a b : Int)  : Rr50 n a b := by
  unfold Rr50
  grind
theorem s50 : PureOK PP 50 e50 := by
  intro xs ps res h hp
  unfold e50 at h
  split at h
  · rename_i n a b
    simp only [Option.some.injEq, Prod.mk.injEq] at h
    obtain ⟨rfl, rfl⟩ := h
    clear hp
    refine enter (L := [0,1,2,6]) (LO := []) (E := []) (O := []) (ck := true) (.nil) (.nil) (k := 50) (f := Try.f50) (xs := [SI n, SI a, SI b]) (r := (.bool (decide (min a b ≤ n) && decide (n ≤ max a b)))) (by kernel_rfl) (by kernel_rfl) (fun _ => .nil) ?_
    exact Hold.of (r50 n a b) (br50 n a b )
  · cases h
end Go.Proofs.Ytkklmkogdogbkaa.Sep
/-
  Contracts of functions with loops of the stage 'surge'. No condition. (This text proves no statement by itself.)
-/
namespace Go.Proofs.Ytkklmkogdogbkaa.Sep
open Go
set_option linter.unusedVariables false
set_option linter.unusedSimpArgs false
def lp25 (n : Int) : LoopS where
  ι := Nat
  β := Unit
  pre d := d ≤ 8
  μ d := 8 - d
  next d _ _ _ := d + 1
  out _ := ()
  early _ := false
  SA d := [(0, SI n), (3, SI (M.bits n d)), (4, SI d)]
  SH _ := []
  n0 := 0
  NA _ := [(3, SI (M.bits n 8))]
  NH _ := []
  n1 := 0
  RA _ := []
  RH _ := []
def Rq25 (n : Int) (d : Nat) : Prop := (decide ((↑d : Int) < (8 : Int)) = true → (0 : Int) ≤ (↑d : Int) ∧ (2 : Int) ≠ (0 : Int) ∧ R64 (M.bits n d + Int.tmod (Int.fdiv n ((2 : Int) ^ min (Int.toNat (↑d : Int)) (IntKind.bits IntKind.i64))) (2 : Int)) ∧ R64 ((↑d : Int) + (1 : Int)) ∧ d + (1 : Nat) ≤ (8 : Nat) ∧ (8 : Nat) - (d + (1 : Nat)) < (8 : Nat) - d ∧ () = () ∧ n = n ∧ M.bits n d + Int.tmod (Int.fdiv n ((2 : Int) ^ min (Int.toNat (↑d : Int)) (IntKind.bits IntKind.i64))) (2 : Int) = M.bits n (d + (1 : Nat)) ∧ (↑d : Int) + (1 : Int) = (↑(d + (1 : Nat)) : Int) ∧ True) ∧ (decide ((↑d : Int) < (8 : Int)) = false → false = false ∧ M.bits n d = M.bits n (8 : Nat) ∧ True)
theorem q25 (n : Int) (d : Nat) : VL true [] [] YS.none Try.f25 0 [0,2,3,4,6] [] 0 (lp25 n) (d) = Rq25 n d := by kernel_rfl
theorem peq25 (n : Int) (d : Nat) : (lp25 n).pre (d) = (d ≤ (8 : Nat)) := by kernel_rfl
theorem bq25 (n : Int) (d : Nat) (hp : d ≤ (8 : Nat)) : Rq25 n d := by
  unfold Rq25
  have h1 := M.bits_le n d
  have h2 := M.bit_le n d
  have h3 : M.bits n (d + 1) = M.bits n d + M.bit n d := rfl
  simp only [decide_eq_true_eq, decide_eq_false_iff_not, Int.toNat_natCast, Int.natCast_nonneg, true_and, and_true, and_self, implies_true, forall_const, Int.ofNat_lt, Int.natCast_inj, R64]
  refine ⟨fun hd => ?_, fun hd => ?_⟩
  · have e : min d (IntKind.bits .i64) = d := by simp only [IntKind.bits]; omega
    rw [e]
    unfold M.bit at h2 h3
    exact ⟨by omega, by omega, by omega, by omega, by omega, h3.symm, by omega⟩
  · have e : d = 8 := by omega
    subst e; trivial
theorem t25 (n : Int) {F : Fence} (hF : FOK F) (Y : YEnv PP YS.none) : ∀ Q A H nx, loopT false Try.f25.ntmps 0 (lp25 n) (fun _ _ _ => (0 : Nat)) Q A H nx → WPS Y F Try.f25.ntmps 0 (.block 0 (blkAt 0 Try.f25)) Q A H nx :=
  loopW (E := []) (.nil) (O := []) (.nil) (ck := true) (L := [0,2,3,4,6]) (f := Try.f25) (m := 0) (id := 0) (l := (lp25 n)) (LI := fun i => []) Y hF (by kernel_rfl) (fun _ => .nil) (by
    rintro d hp
    exact Hold.of (q25 n d) (bq25 n d ((peq25 n d).mp hp)))
def e25 : List SV → Option (List Prop × SV)
  | [.int .i64 n] => some ([], SI (M.bits n 8))
  | _ => none
def Rr25 (n : Int) : Prop := (0 : Nat) ≤ (8 : Nat) ∧ (n = n ∧ (0 : Int) = M.bits n (0 : Nat) ∧ (0 : Int) = (↑(0 : Nat) : Int) ∧ True) ∧ (false = false → M.bits n (8 : Nat) = M.bits n (8 : Nat)) ∧ (false = true → False)
theorem r25 (n : Int) : V true [] [] Try.f25 [0,2,3,4,6] [(0, loopT false Try.f25.ntmps 0 (lp25 n) (fun _ _ _ => (0 : Nat)))] [SI n] (SI (M.bits n 8)) = Rr25 n := by kernel_rfl
theorem br25 (n : Int)  : Rr25 n := by
  unfold Rr25
  simp [M.bits]
theorem s25 : PureOK PP 25 e25 := by
  intro xs ps res h hp
  unfold e25 at h
  split at h
  · rename_i n
    simp only [Option.some.injEq, Prod.mk.injEq] at h
    obtain ⟨rfl, rfl⟩ := h
    clear hp
    refine enter (L := [0,2,3,4,6]) (LO := [(0, loopT false Try.f25.ntmps 0 (lp25 n) (fun _ _ _ => (0 : Nat)))]) (E := []) (O := []) (ck := true) (.nil) (.nil) (k := 25) (f := Try.f25) (xs := [SI n]) (r := (SI (M.bits n 8))) (by kernel_rfl) (by kernel_rfl) (fun Y => .cons (by kernel_rfl) (t25 n FOK.wide Y) (.nil)) ?_
    exact Hold.of (r25 n) (br25 n )
  · cases h
def lp66 (a b : Int) (m : Nat) (x y : Nat → Int) : LoopS where
  ι := Nat
  β := Unit
  pre k := k ≤ m ∧ R64 m
  μ k := m - k
  next k _ _ _ := k + 1
  out _ := ()
  early _ := false
  SA k := [(2, .ptr 0 0), (4, .ptr 1 0), (7, .sl 2 m (fun k => [SI (x k), SI (y k)])), (8, SI m), (9, SI k)]
  SH k := [(0, .cells [SI (M.low x a k), SI (M.high y b k)]), (1, .cells [SI 0, SI 0])]
  n0 := 2
  NA _ := [(2, .ptr 0 0), (4, .ptr 1 0)]
  NH _ := [(0, .cells [SI (M.low x a m), SI (M.high y b m)]), (1, .cells [SI 0, SI 0])]
  n1 := 2
  RA _ := []
  RH _ := []
def Rq66 (a b : Int) (m : Nat) (x y : Nat → Int) (k : Nat) : Prop := (decide ((↑k : Int) < (↑m : Int)) = true → (0 : Int) ≤ (↑k : Int) ∧ (↑k : Int) < (↑m : Int) ∧ Int.toNat (↑k : Int) < m ∧ R64 ((↑k : Int) + (1 : Int)) ∧ (k + (1 : Nat) ≤ m ∧ R64 (↑m : Int)) ∧ m - (k + (1 : Nat)) < m - k ∧ () = () ∧ (m = m ∧ ∀ (k : Nat), k < m → x k = x k ∧ y k = y k) ∧ (↑m : Int) = (↑m : Int) ∧ (↑k : Int) + (1 : Int) = (↑(k + (1 : Nat)) : Int) ∧ min (M.low x a k) (x (Int.toNat (↑k : Int))) = M.low x a (k + (1 : Nat)) ∧ max (M.high y b k) (y (Int.toNat (↑k : Int))) = M.high y b (k + (1 : Nat)) ∧ (0 : Int) = (0 : Int) ∧ (0 : Int) = (0 : Int) ∧ True) ∧ (decide ((↑k : Int) < (↑m : Int)) = false → false = false ∧ M.low x a k = M.low x a m ∧ M.high y b k = M.high y b m ∧ (0 : Int) = (0 : Int) ∧ (0 : Int) = (0 : Int) ∧ True)
theorem q66 (a b : Int) (m : Nat) (x y : Nat → Int) (k : Nat) : VL true [] [(58, pureE e58)] YS.none Try.f66 0 [0,1,2,4,6,7,8,9,10] [] 0 (lp66 a b m x y) (k) = Rq66 a b m x y k := by kernel_rfl
theorem peq66 (a b : Int) (m : Nat) (x y : Nat → Int) (k : Nat) : (lp66 a b m x y).pre (k) = (k ≤ m ∧ R64 (↑m : Int)) := by kernel_rfl
theorem bq66 (a b : Int) (m : Nat) (x y : Nat → Int) (k : Nat) (hp : k ≤ m ∧ R64 (↑m : Int)) : Rq66 a b m x y k := by
  unfold Rq66
  simp only [decide_eq_true_eq, decide_eq_false_iff_not, Int.toNat_natCast, Int.natCast_nonneg, true_and, and_true, and_self, implies_true, forall_const, Int.ofNat_lt, Int.natCast_inj, R64]
  obtain ⟨hp, hm⟩ := hp
  unfold R64 at hm
  refine ⟨fun hk => ⟨hk, by omega, by omega, ⟨by omega, hm⟩, by omega, by omega, rfl, rfl⟩, fun hk => ?_⟩
  have e : k = m := by omega
  subst e; exact ⟨rfl, rfl⟩
theorem t66 (a b : Int) (m : Nat) (x y : Nat → Int) {F : Fence} (hF : FOK F) (Y : YEnv PP YS.none) : ∀ Q A H nx, loopT false Try.f66.ntmps 0 (lp66 a b m x y) (fun _ _ _ => (0 : Nat)) Q A H nx → WPS Y F Try.f66.ntmps 0 (.block 0 (blkAt 0 Try.f66)) Q A H nx :=
  loopW (E := []) (.nil) (O := [(58, pureE e58)]) (.cons (pureE_ok s58) (.nil)) (ck := true) (L := [0,1,2,4,6,7,8,9,10]) (f := Try.f66) (m := 0) (id := 0) (l := (lp66 a b m x y)) (LI := fun i => []) Y hF (by kernel_rfl) (fun _ => .nil) (by
    rintro k hp
    exact Hold.of (q66 a b m x y k) (bq66 a b m x y k ((peq66 a b m x y k).mp hp)))
def e66 : List SV → Option (List Prop × SV)
  | [.agg [.int .i64 a, .int .i64 b], .sl 2 m g_1] => some ([Row 2 m g_1, R64 m], .agg [SI (M.low (cI g_1 0) a m), SI (M.high (cI g_1 1) b m)])
  | _ => none
def Rr66 (a b : Int) (m : Nat) (x y : Nat → Int) : Prop := ((0 : Nat) ≤ m ∧ R64 (↑m : Int)) ∧ ((m = m ∧ ∀ (k : Nat), k < m → x k = x k ∧ y k = y k) ∧ (↑m : Int) = (↑m : Int) ∧ (0 : Int) = (↑(0 : Nat) : Int) ∧ a = M.low x a (0 : Nat) ∧ b = M.high y b (0 : Nat) ∧ (0 : Int) = (0 : Int) ∧ (0 : Int) = (0 : Int) ∧ True) ∧ (false = false → M.low x a m = M.low x a m ∧ M.high y b m = M.high y b m) ∧ (false = true → False)
theorem r66 (a b : Int) (m : Nat) (x y : Nat → Int) : V true [] [] Try.f66 [0,1,2,4,6,7,8,9,10] [(0, loopT false Try.f66.ntmps 0 (lp66 a b m x y) (fun _ _ _ => (0 : Nat)))] [.agg [SI a, SI b], .sl 2 m (fun k => [SI (x k), SI (y k)])] (.agg [SI (M.low x a m), SI (M.high y b m)]) = Rr66 a b m x y := by kernel_rfl
theorem br66 (a b : Int) (m : Nat) (x y : Nat → Int) (hp : (R64 m) ∧ AllP []) : Rr66 a b m x y := by
  unfold Rr66
  simp [M.low, M.high, hp]
theorem s66 : PureOK PP 66 e66 := by
  intro xs ps res h hp
  unfold e66 at h
  split at h
  · rename_i a b m g_1
    simp only [Option.some.injEq, Prod.mk.injEq] at h
    obtain ⟨rfl, rfl⟩ := h
    simp only [AllP.cons] at hp
    obtain ⟨Hg_1, hp⟩ := hp
    refine Spec.args (ys := [.agg [SI a, SI b], .sl 2 m (fun k => [SI ((cI g_1 0) k), SI ((cI g_1 1) k)])]) ?_ (.cons (.refl _) (.cons (.row Hg_1 fun _ => rfl) .nil))
    refine enter (L := [0,1,2,4,6,7,8,9,10]) (LO := [(0, loopT false Try.f66.ntmps 0 (lp66 a b m (cI g_1 0) (cI g_1 1)) (fun _ _ _ => (0 : Nat)))]) (E := []) (O := []) (ck := true) (.nil) (.nil) (k := 66) (f := Try.f66) (xs := [.agg [SI a, SI b], .sl 2 m (fun k => [SI ((cI g_1 0) k), SI ((cI g_1 1) k)])]) (r := (.agg [SI (M.low (cI g_1 0) a m), SI (M.high (cI g_1 1) b m)])) (by kernel_rfl) (by kernel_rfl) (fun Y => .cons (by kernel_rfl) (t66 a b m (cI g_1 0) (cI g_1 1) FOK.wide Y) (.nil)) ?_
    exact Hold.of (r66 a b m (cI g_1 0) (cI g_1 1)) (br66 a b m (cI g_1 0) (cI g_1 1) hp)
  · cases h
abbrev p113 (x y : Nat → Int) : Nat → Bool := fun k => !M.okS x y k
def lp113 (n : Nat) (x y : Nat → Int) : LoopS where
  ι := Nat
  β := Unit
  pre k := (k ≤ n ∧ R64 n) ∧ ∀ j, j < k → M.okS x y j = true
  μ k := n - k
  next k _ _ _ := k + 1
  out _ := ()
  early _ := decide (M.first (p113 x y) n < n)
  SA k := [(0, .sl 2 n (fun k => [SI (x k), SI (y k)])), (1, .fn 95 [] []), (7, SI n), (8, SI k)]
  SH _ := []
  n0 := 0
  NA _ := []
  NH _ := []
  n1 := 0
  RA _ := [(4, SI (M.first (p113 x y) n))]
  RH _ := []
def Rq113 (n : Nat) (x y : Nat → Int) (k : Nat) : Prop := (decide ((↑k : Int) < (↑n : Int)) = true → (0 : Int) ≤ (↑k : Int) ∧ (↑k : Int) < (↑n : Int) ∧ Int.toNat (↑k : Int) < n ∧ ((!M.within (x (Int.toNat (↑k : Int))) (y (Int.toNat (↑k : Int))) (-1200000 : Int) (1200000 : Int)) = true → decide (M.first (fun k => !M.okS x y k) n < n) = true ∧ (↑k : Int) = (↑(M.first (fun k => !M.okS x y k) n) : Int) ∧ True) ∧ ((!M.within (x (Int.toNat (↑k : Int))) (y (Int.toNat (↑k : Int))) (-1200000 : Int) (1200000 : Int)) = false → R64 ((↑k : Int) + (1 : Int)) ∧ ((k + (1 : Nat) ≤ n ∧ R64 (↑n : Int)) ∧ ∀ (j : Nat), j < k + (1 : Nat) → M.okS x y j = true) ∧ n - (k + (1 : Nat)) < n - k ∧ () = () ∧ (n = n ∧ ∀ (k : Nat), k < n → x k = x k ∧ y k = y k) ∧ (↑n : Int) = (↑n : Int) ∧ (↑k : Int) + (1 : Int) = (↑(k + (1 : Nat)) : Int) ∧ True)) ∧ (decide ((↑k : Int) < (↑n : Int)) = false → decide (M.first (fun k => !M.okS x y k) n < n) = false ∧ True)
theorem q113 (n : Nat) (x y : Nat → Int) (k : Nat) : VL true [] [(95, pureE e95)] YS.none Try.f113 0 [0,1,4,5,7,8,9,16] [] 0 (lp113 n x y) (k) = Rq113 n x y k := by kernel_rfl
theorem peq113 (n : Nat) (x y : Nat → Int) (k : Nat) : (lp113 n x y).pre (k) = ((k ≤ n ∧ R64 (↑n : Int)) ∧ ∀ (j : Nat), j < k → M.okS x y j = true) := by kernel_rfl
theorem bq113 (n : Nat) (x y : Nat → Int) (k : Nat) (hp : (k ≤ n ∧ R64 (↑n : Int)) ∧ ∀ (j : Nat), j < k → M.okS x y j = true) : Rq113 n x y k := by
  unfold Rq113
  obtain ⟨⟨hp, hm⟩, ho⟩ := hp
  unfold R64 at hm
  simp only [decide_eq_true_eq, decide_eq_false_iff_not, Int.toNat_natCast, Int.natCast_nonneg, true_and, and_true, and_self, implies_true, forall_const, Int.ofNat_lt, Int.natCast_inj, R64]
  refine ⟨fun hk => ⟨by omega, by omega, fun hb => ?_, fun hb => ⟨by omega, ⟨⟨by omega, hm⟩, fun j hj => ?_⟩, by omega, by omega⟩⟩, fun hk => ?_⟩
  · have e : M.first (fun k => !M.okS x y k) n = k := M.first_at (by omega) (fun j hj => by rw [ho j hj]; rfl) (by unfold M.okS; exact hb)
    rw [e]
    exact ⟨by omega, rfl⟩
  · by_cases e : j = k
    · subst e; unfold M.okS; simpa using hb
    · exact ho j (by omega)
  · have e : M.first (fun k => !M.okS x y k) n = n := M.first_end (fun j hj => by rw [ho j (by omega)]; rfl)
    omega
theorem t113 (n : Nat) (x y : Nat → Int) {F : Fence} (hF : FOK F) (Y : YEnv PP YS.none) : ∀ Q A H nx, loopT false Try.f113.ntmps 0 (lp113 n x y) (fun _ _ _ => (0 : Nat)) Q A H nx → WPS Y F Try.f113.ntmps 0 (.block 0 (blkAt 0 Try.f113)) Q A H nx :=
  loopW (E := []) (.nil) (O := [(95, pureE e95)]) (.cons (pureE_ok s95) (.nil)) (ck := true) (L := [0,1,4,5,7,8,9,16]) (f := Try.f113) (m := 0) (id := 0) (l := (lp113 n x y)) (LI := fun i => []) Y hF (by kernel_rfl) (fun _ => .nil) (by
    rintro k hp
    exact Hold.of (q113 n x y k) (bq113 n x y k ((peq113 n x y k).mp hp)))
def e113 : List SV → Option (List Prop × SV)
  | [.sl 2 n g_1, .fn 95 [] []] => some ([Row 2 n g_1, R64 n], SI (M.idx (p113 (cI g_1 0) (cI g_1 1)) n))
  | _ => none
def Rr113 (n : Nat) (x y : Nat → Int) : Prop := (((0 : Nat) ≤ n ∧ R64 (↑n : Int)) ∧ ∀ (j : Nat), j < (0 : Nat) → M.okS x y j = true) ∧ ((n = n ∧ ∀ (k : Nat), k < n → x k = x k ∧ y k = y k) ∧ (↑n : Int) = (↑n : Int) ∧ (0 : Int) = (↑(0 : Nat) : Int) ∧ True) ∧ (decide (M.first (fun k => !M.okS x y k) n < n) = false → (-1 : Int) = M.idx (fun k => !M.okS x y k) n) ∧ (decide (M.first (fun k => !M.okS x y k) n < n) = true → (↑(M.first (fun k => !M.okS x y k) n) : Int) = M.idx (fun k => !M.okS x y k) n)
theorem r113 (n : Nat) (x y : Nat → Int) : V true [] [] Try.f113 [0,1,4,5,7,8,9,16] [(0, loopT false Try.f113.ntmps 0 (lp113 n x y) (fun _ _ _ => (0 : Nat)))] [.sl 2 n (fun k => [SI (x k), SI (y k)]), .fn 95 [] []] (SI (M.idx (p113 x y) n)) = Rr113 n x y := by kernel_rfl
theorem br113 (n : Nat) (x y : Nat → Int) (hp : (R64 n) ∧ AllP []) : Rr113 n x y := by
  unfold Rr113
  refine ⟨⟨⟨by omega, hp.1⟩, fun j hj => by omega⟩, ⟨⟨rfl, fun _ _ => ⟨rfl, rfl⟩⟩, rfl, rfl, trivial⟩, fun h => ?_, fun h => ?_⟩
  all_goals simp only [decide_eq_true_eq, decide_eq_false_iff_not] at h
  · unfold M.idx; rw [if_neg h]
  · unfold M.idx; rw [if_pos h]
theorem s113 : PureOK PP 113 e113 := by
  intro xs ps res h hp
  unfold e113 at h
  split at h
  · rename_i n g_1
    simp only [Option.some.injEq, Prod.mk.injEq] at h
    obtain ⟨rfl, rfl⟩ := h
    simp only [AllP.cons] at hp
    obtain ⟨Hg_1, hp⟩ := hp
    refine Spec.args (ys := [.sl 2 n (fun k => [SI ((cI g_1 0) k), SI ((cI g_1 1) k)]), .fn 95 [] []]) ?_ (.cons (.row Hg_1 fun _ => rfl) (.cons (.refl _) .nil))
    refine enter (L := [0,1,4,5,7,8,9,16]) (LO := [(0, loopT false Try.f113.ntmps 0 (lp113 n (cI g_1 0) (cI g_1 1)) (fun _ _ _ => (0 : Nat)))]) (E := []) (O := []) (ck := true) (.nil) (.nil) (k := 113) (f := Try.f113) (xs := [.sl 2 n (fun k => [SI ((cI g_1 0) k), SI ((cI g_1 1) k)]), .fn 95 [] []]) (r := (SI (M.idx (p113 (cI g_1 0) (cI g_1 1)) n))) (by kernel_rfl) (by kernel_rfl) (fun Y => .cons (by kernel_rfl) (t113 n (cI g_1 0) (cI g_1 1) FOK.wide Y) (.nil)) ?_
    exact Hold.of (r113 n (cI g_1 0) (cI g_1 1)) (br113 n (cI g_1 0) (cI g_1 1) hp)
  · cases h
def e94 : List SV → Option (List Prop × SV)
  | [.sl 2 n g_1, .fn 95 [] []] => some ([Row 2 n g_1, R64 n], .bool (!M.allB (M.okS (cI g_1 0) (cI g_1 1)) n))
  | _ => none
def Rr94 (n : Nat) (x y : Nat → Int) : Prop := (∀ (k : Nat), k < n → x k = x k ∧ y k = y k) ∧ R64 (↑n : Int) ∧ decide ((0 : Int) ≤ M.idx (fun k => !M.okS x y k) n) = !M.allB (M.okS x y) n
theorem r94 (n : Nat) (x y : Nat → Int) : V true [] [(113, pureE e113)] Try.f94 [0,1,4] [] [.sl 2 n (fun k => [SI (x k), SI (y k)]), .fn 95 [] []] (.bool (!M.allB (M.okS x y) n)) = Rr94 n x y := by kernel_rfl
theorem br94 (n : Nat) (x y : Nat → Int) (hp : (R64 n) ∧ AllP []) : Rr94 n x y := by
  unfold Rr94
  refine ⟨fun _ _ => ⟨rfl, rfl⟩, hp.1, ?_⟩
  have h := @M.first_lt (fun k => !M.okS x y k) n
  simp only [Bool.not_not] at h
  unfold M.idx
  rw [Bool.eq_iff_iff]
  simp only [decide_eq_true_eq, Bool.not_eq_true']
  rw [← Bool.not_eq_true, ← h]
  split <;> omega
theorem s94 : PureOK PP 94 e94 := by
  intro xs ps res h hp
  unfold e94 at h
  split at h
  · rename_i n g_1
    simp only [Option.some.injEq, Prod.mk.injEq] at h
    obtain ⟨rfl, rfl⟩ := h
    simp only [AllP.cons] at hp
    obtain ⟨Hg_1, hp⟩ := hp
    refine Spec.args (ys := [.sl 2 n (fun k => [SI ((cI g_1 0) k), SI ((cI g_1 1) k)]), .fn 95 [] []]) ?_ (.cons (.row Hg_1 fun _ => rfl) (.cons (.refl _) .nil))
    refine enter (L := [0,1,4]) (LO := []) (E := []) (O := [(113, pureE e113)]) (ck := true) (.nil) (.cons (pureE_ok s113) (.nil)) (k := 94) (f := Try.f94) (xs := [.sl 2 n (fun k => [SI ((cI g_1 0) k), SI ((cI g_1 1) k)]), .fn 95 [] []]) (r := (.bool (!M.allB (M.okS (cI g_1 0) (cI g_1 1)) n))) (by kernel_rfl) (by kernel_rfl) (fun _ => .nil) ?_
    exact Hold.of (r94 n (cI g_1 0) (cI g_1 1)) (br94 n (cI g_1 0) (cI g_1 1) hp)
  · cases h
def e55 : List SV → Option (List Prop × SV)
  | [.agg [.int .i64 w, .int .i64 h, .int .i64 s, .sl 2 n g_1]] => some ([Row 2 n g_1, R64 n], SI (M.gridE w h s n (cI g_1 0) (cI g_1 1)))
  | _ => none
def Rr55 (w h s : Int) (n : Nat) (x y : Nat → Int) : Prop := ((!!(decide ((1 : Int) ≤ w) && decide (w ≤ (24 : Int)))) = true → (!!(decide ((1 : Int) ≤ w) && decide (w ≤ (24 : Int)))) = true) ∧ ((!!(decide ((1 : Int) ≤ w) && decide (w ≤ (24 : Int)))) = true → (!!(decide ((1 : Int) ≤ w) && decide (w ≤ (24 : Int)))) = true) ∧ ((!!(decide ((1 : Int) ≤ w) && decide (w ≤ (24 : Int)))) = true → (!!(decide ((1 : Int) ≤ w) && decide (w ≤ (24 : Int)))) = true) ∧ ((!(decide ((1 : Int) ≤ w) && decide (w ≤ (24 : Int)))) = false → (!!(decide ((1 : Int) ≤ w) && decide (w ≤ (24 : Int)))) = true) ∧ ((!bif !(decide ((1 : Int) ≤ w) && decide (w ≤ (24 : Int))) then true else !(decide ((1 : Int) ≤ h) && decide (h ≤ (24 : Int)))) = true → (!bif !(decide ((1 : Int) ≤ w) && decide (w ≤ (24 : Int))) then true else !(decide ((1 : Int) ≤ h) && decide (h ≤ (24 : Int)))) = true) ∧ ((!bif !(decide ((1 : Int) ≤ w) && decide (w ≤ (24 : Int))) then true else !(decide ((1 : Int) ≤ h) && decide (h ≤ (24 : Int)))) = true → (!bif !(decide ((1 : Int) ≤ w) && decide (w ≤ (24 : Int))) then true else !(decide ((1 : Int) ≤ h) && decide (h ≤ (24 : Int)))) = true) ∧ ((!bif !(decide ((1 : Int) ≤ w) && decide (w ≤ (24 : Int))) then true else !(decide ((1 : Int) ≤ h) && decide (h ≤ (24 : Int)))) = true → (!bif !(decide ((1 : Int) ≤ w) && decide (w ≤ (24 : Int))) then true else !(decide ((1 : Int) ≤ h) && decide (h ≤ (24 : Int)))) = true) ∧ ((bif !(decide ((1 : Int) ≤ w) && decide (w ≤ (24 : Int))) then true else !(decide ((1 : Int) ≤ h) && decide (h ≤ (24 : Int)))) = false → (!bif !(decide ((1 : Int) ≤ w) && decide (w ≤ (24 : Int))) then true else !(decide ((1 : Int) ≤ h) && decide (h ≤ (24 : Int)))) = true) ∧ ((bif bif !(decide ((1 : Int) ≤ w) && decide (w ≤ (24 : Int))) then true else !(decide ((1 : Int) ≤ h) && decide (h ≤ (24 : Int))) then true else !(decide ((1 : Int) ≤ s) && decide (s ≤ (10000 : Int)))) = true → (3 : Int) = M.gridE w h s n x y) ∧ ((bif bif !(decide ((1 : Int) ≤ w) && decide (w ≤ (24 : Int))) then true else !(decide ((1 : Int) ≤ h) && decide (h ≤ (24 : Int))) then true else !(decide ((1 : Int) ≤ s) && decide (s ≤ (10000 : Int)))) = false → R64 (w * h) ∧ ((!decide ((↑n : Int) = w * h)) = true → (11 : Int) = M.gridE w h s n x y) ∧ ((!decide ((↑n : Int) = w * h)) = false → (∀ (k : Nat), k < n → x k = x k ∧ y k = y k) ∧ R64 (↑n : Int) ∧ ((!M.allB (M.okS x y) n) = true → (3 : Int) = M.gridE w h s n x y) ∧ ((!M.allB (M.okS x y) n) = false → (0 : Int) = M.gridE w h s n x y)))
theorem r55 (w h s : Int) (n : Nat) (x y : Nat → Int) : V true [] [(93, pureE e93), (94, pureE e94)] Try.f55 [0,1,2,3,20,30] [] [.agg [SI w, SI h, SI s, .sl 2 n (fun k => [SI (x k), SI (y k)])]] (SI (M.gridE w h s n x y)) = Rr55 w h s n x y := by kernel_rfl
theorem br55 (w h s : Int) (n : Nat) (x y : Nat → Int) (hp : (R64 n) ∧ AllP []) : Rr55 w h s n x y := by
  unfold Rr55
  unfold M.gridE
  have hn := hp.1
  simp only [R64] at hn ⊢
  have hm : (decide (1 ≤ w) && decide (w ≤ 24)) = true → (decide (1 ≤ h) && decide (h ≤ 24)) = true → 1 ≤ w * h ∧ w * h ≤ 576 := fun h1 h2 => by
    simp only [Bool.and_eq_true, decide_eq_true_eq] at h1 h2
    exact M.area h1.1 h1.2 h2.1 h2.2
  grind
theorem s55 : PureOK PP 55 e55 := by
  intro xs ps res h hp
  unfold e55 at h
  split at h
  · rename_i w h s n g_1
    simp only [Option.some.injEq, Prod.mk.injEq] at h
    obtain ⟨rfl, rfl⟩ := h
    simp only [AllP.cons] at hp
    obtain ⟨Hg_1, hp⟩ := hp
    refine Spec.args (ys := [.agg [SI w, SI h, SI s, .sl 2 n (fun k => [SI ((cI g_1 0) k), SI ((cI g_1 1) k)])]]) ?_ (.cons (.agg (.cons (.refl _) (.cons (.refl _) (.cons (.refl _) (.cons (.row Hg_1 fun _ => rfl) .nil))))) .nil)
    refine enter (L := [0,1,2,3,20,30]) (LO := []) (E := []) (O := [(93, pureE e93), (94, pureE e94)]) (ck := true) (.nil) (.cons (pureE_ok s93) (.cons (pureE_ok s94) (.nil))) (k := 55) (f := Try.f55) (xs := [.agg [SI w, SI h, SI s, .sl 2 n (fun k => [SI ((cI g_1 0) k), SI ((cI g_1 1) k)])]]) (r := (SI (M.gridE w h s n (cI g_1 0) (cI g_1 1)))) (by kernel_rfl) (by kernel_rfl) (fun _ => .nil) ?_
    exact Hold.of (r55 w h s n (cI g_1 0) (cI g_1 1)) (br55 w h s n (cI g_1 0) (cI g_1 1) hp)
  · cases h
end Go.Proofs.Ytkklmkogdogbkaa.Sep
/-
  Contracts of the iterators of the stage 'surge'. No condition. (This text proves no statement by itself.)
-/
namespace Go.Proofs.Ytkklmkogdogbkaa.Sep
open Go
set_option linter.unusedVariables false
set_option linter.unusedSimpArgs false
def e118 : List SV → Option (List Prop × SV)
  | [] => some ([], .agg [SI 1, SI 0, SI 1, SI 1, SI 0, SI 1, SI (-1), SI 1, SI (-1), SI 0, SI (-1), SI (-1), SI 0, SI (-1), SI 1, SI (-1)])
  | _ => none
def Rr118  : Prop := (1 : Int) = (1 : Int) ∧ (0 : Int) = (0 : Int) ∧ (1 : Int) = (1 : Int) ∧ (1 : Int) = (1 : Int) ∧ (0 : Int) = (0 : Int) ∧ (1 : Int) = (1 : Int) ∧ (-1 : Int) = (-1 : Int) ∧ (1 : Int) = (1 : Int) ∧ (-1 : Int) = (-1 : Int) ∧ (0 : Int) = (0 : Int) ∧ (-1 : Int) = (-1 : Int) ∧ (-1 : Int) = (-1 : Int) ∧ (0 : Int) = (0 : Int) ∧ (-1 : Int) = (-1 : Int) ∧ (1 : Int) = (1 : Int) ∧ (-1 : Int) = (-1 : Int)
theorem r118  : V true [] [] Try.f118 [0] [] [] (.agg [SI 1, SI 0, SI 1, SI 1, SI 0, SI 1, SI (-1), SI 1, SI (-1), SI 0, SI (-1), SI (-1), SI 0, SI (-1), SI 1, SI (-1)]) = Rr118  := by kernel_rfl
theorem br118   : Rr118  := by
  unfold Rr118
  simp
theorem s118 : PureOK PP 118 e118 := by
  intro xs ps res h hp
  unfold e118 at h
  split at h
  · skip
    simp only [Option.some.injEq, Prod.mk.injEq] at h
    obtain ⟨rfl, rfl⟩ := h
    clear hp
    refine enter (L := [0]) (LO := []) (E := []) (O := []) (ck := true) (.nil) (.nil) (k := 118) (f := Try.f118) (xs := []) (r := (.agg [SI 1, SI 0, SI 1, SI 1, SI 0, SI 1, SI (-1), SI 1, SI (-1), SI 0, SI (-1), SI (-1), SI 0, SI (-1), SI 1, SI (-1)])) (by kernel_rfl) (by kernel_rfl) (fun _ => .nil) ?_
    exact Hold.of (r118 ) (br118  )
  · cases h
def e110 : List SV → Option (List Prop × SV)
  | [.agg [.int .i64 w, .int .i64 h, .int .i64 s, .sl 2 n g_1, .int .i64 lo, .int .i64 hi], .int .i64 c] => some ([Row 2 n g_1, R64 (lo - (cI g_1 1) c.toNat), R64 (hi - (cI g_1 0) c.toNat), 0 ≤ c, c < n], .agg [SI (lo - (cI g_1 1) c.toNat), SI (hi - (cI g_1 0) c.toNat)])
  | _ => none
def Rr110 (w h s : Int) (n : Nat) (x y : Nat → Int) (lo hi : Int) (c : Int) : Prop := (0 : Int) ≤ c ∧ c < (↑n : Int) ∧ Int.toNat c < n ∧ R64 (lo - y (Int.toNat c)) ∧ R64 (hi - x (Int.toNat c)) ∧ lo - y (Int.toNat c) = lo - y (Int.toNat c) ∧ hi - x (Int.toNat c) = hi - x (Int.toNat c)
theorem r110 (w h s : Int) (n : Nat) (x y : Nat → Int) (lo hi : Int) (c : Int) : V true [] [(59, pureE e59)] Try.f110 [0,1,2,4] [] [.agg [SI w, SI h, SI s, .sl 2 n (fun k => [SI (x k), SI (y k)]), SI lo, SI hi], SI c] (.agg [SI (lo - y c.toNat), SI (hi - x c.toNat)]) = Rr110 w h s n x y lo hi c := by kernel_rfl
theorem br110 (w h s : Int) (n : Nat) (x y : Nat → Int) (lo hi : Int) (c : Int) (hp : (R64 (lo - y c.toNat)) ∧ (R64 (hi - x c.toNat)) ∧ (0 ≤ c) ∧ (c < n) ∧ AllP []) : Rr110 w h s n x y lo hi c := by
  unfold Rr110
  simp [hp]
theorem s110 : PureOK PP 110 e110 := by
  intro xs ps res h hp
  unfold e110 at h
  split at h
  · rename_i w h s n g_1 lo hi c
    simp only [Option.some.injEq, Prod.mk.injEq] at h
    obtain ⟨rfl, rfl⟩ := h
    simp only [AllP.cons] at hp
    obtain ⟨Hg_1, hp⟩ := hp
    refine Spec.args (ys := [.agg [SI w, SI h, SI s, .sl 2 n (fun k => [SI ((cI g_1 0) k), SI ((cI g_1 1) k)]), SI lo, SI hi], SI c]) ?_ (.cons (.agg (.cons (.refl _) (.cons (.refl _) (.cons (.refl _) (.cons (.row Hg_1 fun _ => rfl) (.cons (.refl _) (.cons (.refl _) .nil))))))) (.cons (.refl _) .nil))
    refine enter (L := [0,1,2,4]) (LO := []) (E := []) (O := [(59, pureE e59)]) (ck := true) (.nil) (.cons (pureE_ok s59) (.nil)) (k := 110) (f := Try.f110) (xs := [.agg [SI w, SI h, SI s, .sl 2 n (fun k => [SI ((cI g_1 0) k), SI ((cI g_1 1) k)]), SI lo, SI hi], SI c]) (r := (.agg [SI (lo - (cI g_1 1) c.toNat), SI (hi - (cI g_1 0) c.toNat)])) (by kernel_rfl) (by kernel_rfl) (fun _ => .nil) ?_
    exact Hold.of (r110 w h s n (cI g_1 0) (cI g_1 1) lo hi c) (br110 w h s n (cI g_1 0) (cI g_1 1) lo hi c hp)
  · cases h
def e109 : List SV → Option (List Prop × SV)
  | [.agg [.int .i64 w, .int .i64 h, .int .i64 s, .sl 2 n g_1, .int .i64 lo, .int .i64 hi], .int .i64 c, .int .i64 d] => some ([Row 2 n g_1], .fn 117 [] [.sptr 1 1 (fun _ => [SI d]) 0 0, .sptr 1 1 (fun _ => [SI c]) 0 0, .sptr 6 1 (fun _ => [SI w, SI h, SI s, .sl 2 n (fun k => [SI ((cI g_1 0) k), SI ((cI g_1 1) k)]), SI lo, SI hi]) 0 0])
  | _ => none
def Rr109 (w h s : Int) (n : Nat) (x y : Nat → Int) (lo hi : Int) (c d : Int) : Prop := True ∧ ((1 : Nat) = (1 : Nat) ∧ (0 : Nat) = (0 : Nat) ∧ ∀ (q : Nat), q < (1 : Nat) → d = d) ∧ ((1 : Nat) = (1 : Nat) ∧ (0 : Nat) = (0 : Nat) ∧ ∀ (q : Nat), q < (1 : Nat) → c = c) ∧ (1 : Nat) = (1 : Nat) ∧ (0 : Nat) = (0 : Nat) ∧ ∀ (q : Nat), q < (1 : Nat) → w = w ∧ h = h ∧ s = s ∧ (n = n ∧ ∀ (k : Nat), k < n → x k = x k ∧ y k = y k) ∧ lo = lo ∧ hi = hi
theorem r109 (w h s : Int) (n : Nat) (x y : Nat → Int) (lo hi : Int) (c d : Int) : V true [] [] Try.f109 [0,1,2,3,4,5,6] [] [.agg [SI w, SI h, SI s, .sl 2 n (fun k => [SI (x k), SI (y k)]), SI lo, SI hi], SI c, SI d] (.fn 117 [] [.sptr 1 1 (fun _ => [SI d]) 0 0, .sptr 1 1 (fun _ => [SI c]) 0 0, .sptr 6 1 (fun _ => [SI w, SI h, SI s, .sl 2 n (fun k => [SI (x k), SI (y k)]), SI lo, SI hi]) 0 0]) = Rr109 w h s n x y lo hi c d := by kernel_rfl
theorem br109 (w h s : Int) (n : Nat) (x y : Nat → Int) (lo hi : Int) (c d : Int)  : Rr109 w h s n x y lo hi c d := by
  unfold Rr109
  simp
theorem s109 : PureOK PP 109 e109 := by
  intro xs ps res h hp
  unfold e109 at h
  split at h
  · rename_i w h s n g_1 lo hi c d
    simp only [Option.some.injEq, Prod.mk.injEq] at h
    obtain ⟨rfl, rfl⟩ := h
    simp only [AllP.cons] at hp
    obtain ⟨Hg_1, hp⟩ := hp
    refine Spec.args (ys := [.agg [SI w, SI h, SI s, .sl 2 n (fun k => [SI ((cI g_1 0) k), SI ((cI g_1 1) k)]), SI lo, SI hi], SI c, SI d]) ?_ (.cons (.agg (.cons (.refl _) (.cons (.refl _) (.cons (.refl _) (.cons (.row Hg_1 fun _ => rfl) (.cons (.refl _) (.cons (.refl _) .nil))))))) (.cons (.refl _) (.cons (.refl _) .nil)))
    refine enter (L := [0,1,2,3,4,5,6]) (LO := []) (E := []) (O := []) (ck := true) (.nil) (.nil) (k := 109) (f := Try.f109) (xs := [.agg [SI w, SI h, SI s, .sl 2 n (fun k => [SI ((cI g_1 0) k), SI ((cI g_1 1) k)]), SI lo, SI hi], SI c, SI d]) (r := (.fn 117 [] [.sptr 1 1 (fun _ => [SI d]) 0 0, .sptr 1 1 (fun _ => [SI c]) 0 0, .sptr 6 1 (fun _ => [SI w, SI h, SI s, .sl 2 n (fun k => [SI ((cI g_1 0) k), SI ((cI g_1 1) k)]), SI lo, SI hi]) 0 0])) (by kernel_rfl) (by kernel_rfl) (fun _ => .nil) ?_
    exact Hold.of (r109 w h s n (cI g_1 0) (cI g_1 1) lo hi c d) (br109 w h s n (cI g_1 0) (cI g_1 1) lo hi c d )
  · cases h
def e89 : List SV → Option (List Prop × SV)
  | [.agg [.int .i64 w, .int .i64 h, .int .i64 s, .sl 2 n g_1, .int .i64 lo, .int .i64 hi], .int .i64 c, .int .i64 d, .bool sure] => some ([Row 2 n g_1], .fn 108 [] [.sptr 6 1 (fun _ => [SI w, SI h, SI s, .sl 2 n (fun k => [SI ((cI g_1 0) k), SI ((cI g_1 1) k)]), SI lo, SI hi]) 0 0, .sptr 1 1 (fun _ => [SI c]) 0 0, .sptr 1 1 (fun _ => [SI d]) 0 0, .sptr 1 1 (fun _ => [.bool sure]) 0 0])
  | _ => none
def Rr89 (w h s : Int) (n : Nat) (x y : Nat → Int) (lo hi : Int) (c d : Int) (sure : Bool) : Prop := True ∧ ((1 : Nat) = (1 : Nat) ∧ (0 : Nat) = (0 : Nat) ∧ ∀ (q : Nat), q < (1 : Nat) → w = w ∧ h = h ∧ s = s ∧ (n = n ∧ ∀ (k : Nat), k < n → x k = x k ∧ y k = y k) ∧ lo = lo ∧ hi = hi) ∧ ((1 : Nat) = (1 : Nat) ∧ (0 : Nat) = (0 : Nat) ∧ ∀ (q : Nat), q < (1 : Nat) → c = c) ∧ ((1 : Nat) = (1 : Nat) ∧ (0 : Nat) = (0 : Nat) ∧ ∀ (q : Nat), q < (1 : Nat) → d = d) ∧ (1 : Nat) = (1 : Nat) ∧ (0 : Nat) = (0 : Nat) ∧ ∀ (q : Nat), q < (1 : Nat) → sure = sure
theorem r89 (w h s : Int) (n : Nat) (x y : Nat → Int) (lo hi : Int) (c d : Int) (sure : Bool) : V true [] [] Try.f89 [0,1,2,3,4,5,6,7,8] [] [.agg [SI w, SI h, SI s, .sl 2 n (fun k => [SI (x k), SI (y k)]), SI lo, SI hi], SI c, SI d, .bool sure] (.fn 108 [] [.sptr 6 1 (fun _ => [SI w, SI h, SI s, .sl 2 n (fun k => [SI (x k), SI (y k)]), SI lo, SI hi]) 0 0, .sptr 1 1 (fun _ => [SI c]) 0 0, .sptr 1 1 (fun _ => [SI d]) 0 0, .sptr 1 1 (fun _ => [.bool sure]) 0 0]) = Rr89 w h s n x y lo hi c d sure := by kernel_rfl
theorem br89 (w h s : Int) (n : Nat) (x y : Nat → Int) (lo hi : Int) (c d : Int) (sure : Bool)  : Rr89 w h s n x y lo hi c d sure := by
  unfold Rr89
  simp
theorem s89 : PureOK PP 89 e89 := by
  intro xs ps res h hp
  unfold e89 at h
  split at h
  · rename_i w h s n g_1 lo hi c d sure
    simp only [Option.some.injEq, Prod.mk.injEq] at h
    obtain ⟨rfl, rfl⟩ := h
    simp only [AllP.cons] at hp
    obtain ⟨Hg_1, hp⟩ := hp
    refine Spec.args (ys := [.agg [SI w, SI h, SI s, .sl 2 n (fun k => [SI ((cI g_1 0) k), SI ((cI g_1 1) k)]), SI lo, SI hi], SI c, SI d, .bool sure]) ?_ (.cons (.agg (.cons (.refl _) (.cons (.refl _) (.cons (.refl _) (.cons (.row Hg_1 fun _ => rfl) (.cons (.refl _) (.cons (.refl _) .nil))))))) (.cons (.refl _) (.cons (.refl _) (.cons (.refl _) .nil))))
    refine enter (L := [0,1,2,3,4,5,6,7,8]) (LO := []) (E := []) (O := []) (ck := true) (.nil) (.nil) (k := 89) (f := Try.f89) (xs := [.agg [SI w, SI h, SI s, .sl 2 n (fun k => [SI ((cI g_1 0) k), SI ((cI g_1 1) k)]), SI lo, SI hi], SI c, SI d, .bool sure]) (r := (.fn 108 [] [.sptr 6 1 (fun _ => [SI w, SI h, SI s, .sl 2 n (fun k => [SI ((cI g_1 0) k), SI ((cI g_1 1) k)]), SI lo, SI hi]) 0 0, .sptr 1 1 (fun _ => [SI c]) 0 0, .sptr 1 1 (fun _ => [SI d]) 0 0, .sptr 1 1 (fun _ => [.bool sure]) 0 0])) (by kernel_rfl) (by kernel_rfl) (fun _ => .nil) ?_
    exact Hold.of (r89 w h s n (cI g_1 0) (cI g_1 1) lo hi c d sure) (br89 w h s n (cI g_1 0) (cI g_1 1) lo hi c d sure )
  · cases h
theorem dx_selI {d : Int} (h : 0 ≤ d) (h' : d ≤ 7) : selI [1, 0, 1, 1, 0, 1, -1, 1, -1, 0, -1, -1, 0, -1, 1, -1] (d.toNat * 2) = M.dx d ∧ selI [1, 0, 1, 1, 0, 1, -1, 1, -1, 0, -1, -1, 0, -1, 1, -1] (d.toNat * 2 + 1) = M.dy d := by
  rcases M.dir_cases h h' with e | e | e | e | e | e | e | e <;> subst e <;> decide
def lp117 (l : Nat) (w h s : Int) (n : Nat) (x y : Nat → Int) (lo hi : Int) (c d : Int) : LoopS where
  ι := Nat
  β := Unit
  pre k := (k ≤ M.rayN w h c d ∧ ∀ j, j < k → M.inn w h c d j = true) ∧ (0 ≤ d ∧ d ≤ 7 ∧ 1 ≤ w ∧ w ≤ 24 ∧ 1 ≤ h ∧ h ≤ 24 ∧ 0 ≤ c ∧ c < w * h)
  μ k := 24 - k
  next k _ _ _ := k + 1
  out _ := ()
  early _ := false
  SA k := [(0, .lit (.func (.yield l) #[] #[])), (3, .sptr 6 1 (fun _ => [SI w, SI h, SI s, .sl 2 n (fun k => [SI (x k), SI (y k)]), SI lo, SI hi]) 0 0), (5, .ptr 0 0), (6, SI (M.rx w c d k)), (7, SI (M.ry w c d k))]
  SH _ := [(0, .cells [SI (M.dx d), SI (M.dy d)])]
  n0 := 1
  g0 k := (k, true)
  NA _ := []
  NH _ := []
  n1 := 0
  gN _ k go := go = true → k = M.rayN w h c d
  RA _ := []
  RH _ := []
def Rq117 (l : Nat) (w h s : Int) (n : Nat) (x y : Nat → Int) (lo hi : Int) (c d : Int) (k : Nat) : Prop := (decide ((0 : Int) ≤ M.rx w c d k) = true → decide ((0 : Int) ≤ M.rx w c d k) = true) ∧ (decide ((0 : Int) ≤ M.rx w c d k) = true → decide ((0 : Int) ≤ M.rx w c d k) = true) ∧ (decide ((0 : Int) ≤ M.rx w c d k) = true → (0 : Nat) < (1 : Nat)) ∧ (decide ((0 : Int) ≤ M.rx w c d k) = true → decide ((0 : Int) ≤ M.rx w c d k) = true) ∧ (decide ((0 : Int) ≤ M.rx w c d k) = true → decide ((0 : Int) ≤ M.rx w c d k) = true) ∧ (decide ((0 : Int) ≤ M.rx w c d k) = true → decide ((0 : Int) ≤ M.rx w c d k) = true) ∧ ((bif decide ((0 : Int) ≤ M.rx w c d k) then decide (M.rx w c d k < w) else false) = true → (bif decide ((0 : Int) ≤ M.rx w c d k) then decide (M.rx w c d k < w) else false) = true) ∧ ((bif decide ((0 : Int) ≤ M.rx w c d k) then decide (M.rx w c d k < w) else false) = true → (bif decide ((0 : Int) ≤ M.rx w c d k) then decide (M.rx w c d k < w) else false) = true) ∧ ((bif bif decide ((0 : Int) ≤ M.rx w c d k) then decide (M.rx w c d k < w) else false then decide ((0 : Int) ≤ M.ry w c d k) else false) = true → (bif bif decide ((0 : Int) ≤ M.rx w c d k) then decide (M.rx w c d k < w) else false then decide ((0 : Int) ≤ M.ry w c d k) else false) = true) ∧ ((bif bif decide ((0 : Int) ≤ M.rx w c d k) then decide (M.rx w c d k < w) else false then decide ((0 : Int) ≤ M.ry w c d k) else false) = true → (bif bif decide ((0 : Int) ≤ M.rx w c d k) then decide (M.rx w c d k < w) else false then decide ((0 : Int) ≤ M.ry w c d k) else false) = true) ∧ ((bif bif decide ((0 : Int) ≤ M.rx w c d k) then decide (M.rx w c d k < w) else false then decide ((0 : Int) ≤ M.ry w c d k) else false) = true → (0 : Nat) < (1 : Nat)) ∧ ((bif bif decide ((0 : Int) ≤ M.rx w c d k) then decide (M.rx w c d k < w) else false then decide ((0 : Int) ≤ M.ry w c d k) else false) = true → (bif bif decide ((0 : Int) ≤ M.rx w c d k) then decide (M.rx w c d k < w) else false then decide ((0 : Int) ≤ M.ry w c d k) else false) = true) ∧ ((bif bif decide ((0 : Int) ≤ M.rx w c d k) then decide (M.rx w c d k < w) else false then decide ((0 : Int) ≤ M.ry w c d k) else false) = true → (bif bif decide ((0 : Int) ≤ M.rx w c d k) then decide (M.rx w c d k < w) else false then decide ((0 : Int) ≤ M.ry w c d k) else false) = true) ∧ ((bif bif decide ((0 : Int) ≤ M.rx w c d k) then decide (M.rx w c d k < w) else false then decide ((0 : Int) ≤ M.ry w c d k) else false) = true → (bif bif decide ((0 : Int) ≤ M.rx w c d k) then decide (M.rx w c d k < w) else false then decide ((0 : Int) ≤ M.ry w c d k) else false) = true) ∧ ((bif bif bif decide ((0 : Int) ≤ M.rx w c d k) then decide (M.rx w c d k < w) else false then decide ((0 : Int) ≤ M.ry w c d k) else false then decide (M.ry w c d k < h) else false) = true → (bif bif bif decide ((0 : Int) ≤ M.rx w c d k) then decide (M.rx w c d k < w) else false then decide ((0 : Int) ≤ M.ry w c d k) else false then decide (M.ry w c d k < h) else false) = true) ∧ ((bif bif bif decide ((0 : Int) ≤ M.rx w c d k) then decide (M.rx w c d k < w) else false then decide ((0 : Int) ≤ M.ry w c d k) else false then decide (M.ry w c d k < h) else false) = true → (bif bif bif decide ((0 : Int) ≤ M.rx w c d k) then decide (M.rx w c d k < w) else false then decide ((0 : Int) ≤ M.ry w c d k) else false then decide (M.ry w c d k < h) else false) = true) ∧ ((bif bif bif decide ((0 : Int) ≤ M.rx w c d k) then decide (M.rx w c d k < w) else false then decide ((0 : Int) ≤ M.ry w c d k) else false then decide (M.ry w c d k < h) else false) = true → (0 : Nat) < (1 : Nat)) ∧ ((bif bif bif decide ((0 : Int) ≤ M.rx w c d k) then decide (M.rx w c d k < w) else false then decide ((0 : Int) ≤ M.ry w c d k) else false then decide (M.ry w c d k < h) else false) = true → (bif bif bif decide ((0 : Int) ≤ M.rx w c d k) then decide (M.rx w c d k < w) else false then decide ((0 : Int) ≤ M.ry w c d k) else false then decide (M.ry w c d k < h) else false) = true) ∧ ((bif bif bif decide ((0 : Int) ≤ M.rx w c d k) then decide (M.rx w c d k < w) else false then decide ((0 : Int) ≤ M.ry w c d k) else false then decide (M.ry w c d k < h) else false) = true → (bif bif bif decide ((0 : Int) ≤ M.rx w c d k) then decide (M.rx w c d k < w) else false then decide ((0 : Int) ≤ M.ry w c d k) else false then decide (M.ry w c d k < h) else false) = true) ∧ ((bif bif bif decide ((0 : Int) ≤ M.rx w c d k) then decide (M.rx w c d k < w) else false then decide ((0 : Int) ≤ M.ry w c d k) else false then decide (M.ry w c d k < h) else false) = true → R64 (M.ry w c d k * w)) ∧ ((bif bif bif decide ((0 : Int) ≤ M.rx w c d k) then decide (M.rx w c d k < w) else false then decide ((0 : Int) ≤ M.ry w c d k) else false then decide (M.ry w c d k < h) else false) = true → (bif bif bif decide ((0 : Int) ≤ M.rx w c d k) then decide (M.rx w c d k < w) else false then decide ((0 : Int) ≤ M.ry w c d k) else false then decide (M.ry w c d k < h) else false) = true) ∧ ((bif bif bif decide ((0 : Int) ≤ M.rx w c d k) then decide (M.rx w c d k < w) else false then decide ((0 : Int) ≤ M.ry w c d k) else false then decide (M.ry w c d k < h) else false) = true → (bif bif bif decide ((0 : Int) ≤ M.rx w c d k) then decide (M.rx w c d k < w) else false then decide ((0 : Int) ≤ M.ry w c d k) else false then decide (M.ry w c d k < h) else false) = true) ∧ ((bif bif bif decide ((0 : Int) ≤ M.rx w c d k) then decide (M.rx w c d k < w) else false then decide ((0 : Int) ≤ M.ry w c d k) else false then decide (M.ry w c d k < h) else false) = true → R64 (M.ry w c d k * w + M.rx w c d k)) ∧ ((bif bif bif decide ((0 : Int) ≤ M.rx w c d k) then decide (M.rx w c d k < w) else false then decide ((0 : Int) ≤ M.ry w c d k) else false then decide (M.ry w c d k < h) else false) = true → (bif bif bif decide ((0 : Int) ≤ M.rx w c d k) then decide (M.rx w c d k < w) else false then decide ((0 : Int) ≤ M.ry w c d k) else false then decide (M.ry w c d k < h) else false) = true ∧ (bif bif bif decide ((0 : Int) ≤ M.rx w c d k) then decide (M.rx w c d k < w) else false then decide ((0 : Int) ≤ M.ry w c d k) else false then decide (M.ry w c d k < h) else false) = true ∧ true = true ∧ l = l ∧ k < M.rayN w h c d ∧ M.ry w c d k * w + M.rx w c d k = M.rayC w c d k ∧ (((bif bif bif bif decide ((0 : Int) ≤ M.rx w c d k) then decide (M.rx w c d k < w) else false then decide ((0 : Int) ≤ M.ry w c d k) else false then decide (M.ry w c d k < h) else false then true else false) = true → R64 (M.rx w c d k + M.dx d) ∧ R64 (M.ry w c d k + M.dy d) ∧ ((k + (1 : Nat) ≤ M.rayN w h c d ∧ ∀ (j : Nat), j < k + (1 : Nat) → M.inn w h c d j = true) ∧ (0 : Int) ≤ d ∧ d ≤ (7 : Int) ∧ (1 : Int) ≤ w ∧ w ≤ (24 : Int) ∧ (1 : Int) ≤ h ∧ h ≤ (24 : Int) ∧ (0 : Int) ≤ c ∧ c < w * h) ∧ (24 : Nat) - (k + (1 : Nat)) < (24 : Nat) - k ∧ () = () ∧ k + (1 : Nat) = k + (1 : Nat) ∧ true = true ∧ Value.func (Fn.yield l) #[] #[] = Value.func (Fn.yield l) #[] #[] ∧ (1 : Nat) = (1 : Nat) ∧ (0 : Nat) = (0 : Nat) ∧ (∀ (q : Nat), q < (1 : Nat) → w = w ∧ h = h ∧ s = s ∧ (n = n ∧ ∀ (k : Nat), k < n → x k = x k ∧ y k = y k) ∧ lo = lo ∧ hi = hi) ∧ M.rx w c d k + M.dx d = M.rx w c d (k + (1 : Nat)) ∧ M.ry w c d k + M.dy d = M.ry w c d (k + (1 : Nat)) ∧ M.dx d = M.dx d ∧ M.dy d = M.dy d ∧ True) ∧ ((bif bif bif bif decide ((0 : Int) ≤ M.rx w c d k) then decide (M.rx w c d k < w) else false then decide ((0 : Int) ≤ M.ry w c d k) else false then decide (M.ry w c d k < h) else false then true else false) = false → (true = true → k + (1 : Nat) = M.rayN w h c d) ∧ True)) ∧ ((bif bif bif bif decide ((0 : Int) ≤ M.rx w c d k) then decide (M.rx w c d k < w) else false then decide ((0 : Int) ≤ M.ry w c d k) else false then decide (M.ry w c d k < h) else false then false else false) = true → R64 (M.rx w c d k + M.dx d) ∧ R64 (M.ry w c d k + M.dy d) ∧ ((k + (1 : Nat) ≤ M.rayN w h c d ∧ ∀ (j : Nat), j < k + (1 : Nat) → M.inn w h c d j = true) ∧ (0 : Int) ≤ d ∧ d ≤ (7 : Int) ∧ (1 : Int) ≤ w ∧ w ≤ (24 : Int) ∧ (1 : Int) ≤ h ∧ h ≤ (24 : Int) ∧ (0 : Int) ≤ c ∧ c < w * h) ∧ (24 : Nat) - (k + (1 : Nat)) < (24 : Nat) - k ∧ () = () ∧ k + (1 : Nat) = k + (1 : Nat) ∧ false = true ∧ Value.func (Fn.yield l) #[] #[] = Value.func (Fn.yield l) #[] #[] ∧ (1 : Nat) = (1 : Nat) ∧ (0 : Nat) = (0 : Nat) ∧ (∀ (q : Nat), q < (1 : Nat) → w = w ∧ h = h ∧ s = s ∧ (n = n ∧ ∀ (k : Nat), k < n → x k = x k ∧ y k = y k) ∧ lo = lo ∧ hi = hi) ∧ M.rx w c d k + M.dx d = M.rx w c d (k + (1 : Nat)) ∧ M.ry w c d k + M.dy d = M.ry w c d (k + (1 : Nat)) ∧ M.dx d = M.dx d ∧ M.dy d = M.dy d ∧ True) ∧ ((bif bif bif bif decide ((0 : Int) ≤ M.rx w c d k) then decide (M.rx w c d k < w) else false then decide ((0 : Int) ≤ M.ry w c d k) else false then decide (M.ry w c d k < h) else false then false else false) = false → (false = true → k + (1 : Nat) = M.rayN w h c d) ∧ True)) ∧ ((bif bif bif decide ((0 : Int) ≤ M.rx w c d k) then decide (M.rx w c d k < w) else false then decide ((0 : Int) ≤ M.ry w c d k) else false then decide (M.ry w c d k < h) else false) = false → ((bif bif bif decide ((0 : Int) ≤ M.rx w c d k) then decide (M.rx w c d k < w) else false then decide ((0 : Int) ≤ M.ry w c d k) else false then decide (M.ry w c d k < h) else false) = true → false = true) ∧ ((bif bif bif bif decide ((0 : Int) ≤ M.rx w c d k) then decide (M.rx w c d k < w) else false then decide ((0 : Int) ≤ M.ry w c d k) else false then decide (M.ry w c d k < h) else false then false else false) = true → R64 (M.rx w c d k + M.dx d) ∧ R64 (M.ry w c d k + M.dy d) ∧ ((k + (1 : Nat) ≤ M.rayN w h c d ∧ ∀ (j : Nat), j < k + (1 : Nat) → M.inn w h c d j = true) ∧ (0 : Int) ≤ d ∧ d ≤ (7 : Int) ∧ (1 : Int) ≤ w ∧ w ≤ (24 : Int) ∧ (1 : Int) ≤ h ∧ h ≤ (24 : Int) ∧ (0 : Int) ≤ c ∧ c < w * h) ∧ (24 : Nat) - (k + (1 : Nat)) < (24 : Nat) - k ∧ () = () ∧ k = k + (1 : Nat) ∧ true = true ∧ Value.func (Fn.yield l) #[] #[] = Value.func (Fn.yield l) #[] #[] ∧ (1 : Nat) = (1 : Nat) ∧ (0 : Nat) = (0 : Nat) ∧ (∀ (q : Nat), q < (1 : Nat) → w = w ∧ h = h ∧ s = s ∧ (n = n ∧ ∀ (k : Nat), k < n → x k = x k ∧ y k = y k) ∧ lo = lo ∧ hi = hi) ∧ M.rx w c d k + M.dx d = M.rx w c d (k + (1 : Nat)) ∧ M.ry w c d k + M.dy d = M.ry w c d (k + (1 : Nat)) ∧ M.dx d = M.dx d ∧ M.dy d = M.dy d ∧ True) ∧ ((bif bif bif bif decide ((0 : Int) ≤ M.rx w c d k) then decide (M.rx w c d k < w) else false then decide ((0 : Int) ≤ M.ry w c d k) else false then decide (M.ry w c d k < h) else false then false else false) = false → (true = true → k = M.rayN w h c d) ∧ True))
theorem q117 (l : Nat) (w h s : Int) (n : Nat) (x y : Nat → Int) (lo hi : Int) (c d : Int) (k : Nat) : VL true [] [] ((YS.mk true l (M.rayN w h c d) (fun k => [SI (M.rayC w c d k)]))) Try.f117 0 [0,1,2,3,5,6,7,57] [] 0 (lp117 l w h s n x y lo hi c d) (k) = Rq117 l w h s n x y lo hi c d k := by kernel_rfl
theorem peq117 (l : Nat) (w h s : Int) (n : Nat) (x y : Nat → Int) (lo hi : Int) (c d : Int) (k : Nat) : (lp117 l w h s n x y lo hi c d).pre (k) = ((k ≤ M.rayN w h c d ∧ ∀ (j : Nat), j < k → M.inn w h c d j = true) ∧
  (0 : Int) ≤ d ∧ d ≤ (7 : Int) ∧ (1 : Int) ≤ w ∧ w ≤ (24 : Int) ∧ (1 : Int) ≤ h ∧ h ≤ (24 : Int) ∧ (0 : Int) ≤ c ∧ c < w * h) := by kernel_rfl
theorem bq117 (l : Nat) (w h s : Int) (n : Nat) (x y : Nat → Int) (lo hi : Int) (c d : Int) (k : Nat) (hp : (k ≤ M.rayN w h c d ∧ ∀ (j : Nat), j < k → M.inn w h c d j = true) ∧
  (0 : Int) ≤ d ∧ d ≤ (7 : Int) ∧ (1 : Int) ≤ w ∧ w ≤ (24 : Int) ∧ (1 : Int) ≤ h ∧ h ≤ (24 : Int) ∧ (0 : Int) ≤ c ∧ c < w * h) : Rq117 l w h s n x y lo hi c d k := by
  unfold Rq117
  obtain ⟨⟨hk, hj⟩, hd, hd', hw, hw2, hh, hh2, hc, hc'⟩ := hp
  have h1 := M.cell_at hw hc hc'
  have h2 := M.dxy hd hd'
  have h3 := M.area hw hw2 hh hh2
  have h4 := M.rayN_lt hw hw2 hh2 hc hc' hd hd'
  have hin := @M.inn_iff w h c d k
  have hlt : M.inn w h c d k = true → k < M.rayN w h c d := fun e => by
    rcases Nat.lt_or_ge k (M.rayN w h c d) with h5 | h5
    · exact h5
    · have : k = M.rayN w h c d := by omega
      rw [this, h4.2] at e; cases e
  have hnot : M.inn w h c d k = false → M.rayN w h c d = k := fun e => M.rayN_eq (by omega) hj e
  have hcl : M.inn w h c d k = true → _ := fun e => M.rayC_in (d := d) (k := k) hw e
  have hsx := M.rx_succ w c d k
  have hsy := M.ry_succ w c d k
  have hC : M.rayC w c d k = M.ry w c d k * w + M.rx w c d k := rfl
  have hj' : M.inn w h c d k = true → ∀ j, j < k + 1 → M.inn w h c d j = true := fun e j hjj => by
    by_cases e' : j = k
    · subst e'; exact e
    · exact hj j (by omega)
  unfold R64
  by_cases hi : M.inn w h c d k = true
  · obtain ⟨r1, r2, r3, r4⟩ := hin.1 hi
    have e1 := hcl hi
    have e2 := hlt hi
    have e3 := hj' hi
    simp [r1, r2, r3, r4, hsx, hsy, hC, hd, hd', hw, hw2, hh, hh2, hc, hc']
    repeat' apply And.intro
    all_goals first | omega | exact e3
  · have hi' : M.inn w h c d k = false := by simpa using hi
    have e1 := hnot hi'
    have e2 : ¬ (0 ≤ M.rx w c d k ∧ M.rx w c d k < w ∧ 0 ≤ M.ry w c d k ∧ M.ry w c d k < h) := fun e => hi (hin.2 e)
    clear hin hcl hlt hj' hC hsx hsy h4
    grind
theorem t117 (l : Nat) (w h s : Int) (n : Nat) (x y : Nat → Int) (lo hi : Int) (c d : Int) {F : Fence} (hF : FOK F) (Y : YEnv PP ((YS.mk true l (M.rayN w h c d) (fun k => [SI (M.rayC w c d k)])))) : ∀ Q A H nx, loopT true Try.f117.ntmps 0 (lp117 l w h s n x y lo hi c d) (fun _ _ _ => (0 : Nat)) Q A H nx → WPS Y F Try.f117.ntmps 0 (.block 0 (blkAt 0 Try.f117)) Q A H nx :=
  loopW (E := []) (.nil) (O := []) (.nil) (ck := true) (L := [0,1,2,3,5,6,7,57]) (f := Try.f117) (m := 0) (id := 0) (l := (lp117 l w h s n x y lo hi c d)) (LI := fun i => []) Y hF (by kernel_rfl) (fun _ => .nil) (by
    rintro k hp
    exact Hold.of (q117 l w h s n x y lo hi c d k) (bq117 l w h s n x y lo hi c d k ((peq117 l w h s n x y lo hi c d k).mp hp)))
def j117 : List SV → Option (List Prop × Nat × (Nat → List SV))
  | [.sptr 1 1 F_1 0 0, .sptr 1 1 F_2 0 0, .sptr 6 1 F_3 0 0] => match F_1 0, F_2 0, F_3 0 with
    | [.int .i64 d], [.int .i64 c], [.int .i64 w, .int .i64 h, .int .i64 s, .sl 2 n g_4, .int .i64 lo, .int .i64 hi] => some ([Row 2 n g_4, 0 ≤ d, d ≤ 7, 1 ≤ w, w ≤ 24, 1 ≤ h, h ≤ 24, 0 ≤ c, c < w * h], (M.rayN w h c d), (fun k => [SI (M.rayC w c d k)]))
    | _, _, _ => none
  | _ => none
def Rv117 (l : Nat) (w h s : Int) (n : Nat) (x y : Nat → Int) (lo hi : Int) (c d : Int) : Prop := (0 : Nat) < (1 : Nat) ∧ (0 : Int) ≤ d ∧ d < (↑(8 : Nat) : Int) ∧ Int.toNat d * (2 : Nat) + (2 : Nat) ≤ (16 : Nat) ∧ (0 : Nat) < (1 : Nat) ∧ (0 : Nat) < (1 : Nat) ∧ w ≠ (0 : Int) ∧ R64 (Int.tmod c w + selI [(1 : Int), (0 : Int), (1 : Int), (1 : Int), (0 : Int), (1 : Int), (-1 : Int), (1 : Int), (-1 : Int), (0 : Int), (-1 : Int), (-1 : Int), (0 : Int), (-1 : Int), (1 : Int), (-1 : Int)] (Int.toNat d * (2 : Nat))) ∧ (0 : Nat) < (1 : Nat) ∧ (0 : Nat) < (1 : Nat) ∧ w ≠ (0 : Int) ∧ R64 (Int.tdiv c w) ∧ R64 (Int.tdiv c w + selI [(1 : Int), (0 : Int), (1 : Int), (1 : Int), (0 : Int), (1 : Int), (-1 : Int), (1 : Int), (-1 : Int), (0 : Int), (-1 : Int), (-1 : Int), (0 : Int), (-1 : Int), (1 : Int), (-1 : Int)] (Int.toNat d * (2 : Nat) + (1 : Nat))) ∧ (((0 : Nat) ≤ M.rayN w h c d ∧ ∀ (j : Nat), j < (0 : Nat) → M.inn w h c d j = true) ∧ (0 : Int) ≤ d ∧ d ≤ (7 : Int) ∧ (1 : Int) ≤ w ∧ w ≤ (24 : Int) ∧ (1 : Int) ≤ h ∧ h ≤ (24 : Int) ∧ (0 : Int) ≤ c ∧ c < w * h) ∧ ((0 : Nat) = (0 : Nat) ∧ true = true ∧ Value.func (Fn.yield l) #[] #[] = Value.func (Fn.yield l) #[] #[] ∧ (1 : Nat) = (1 : Nat) ∧ (0 : Nat) = (0 : Nat) ∧ (∀ (q : Nat), q < (1 : Nat) → w = w ∧ h = h ∧ s = s ∧ (n = n ∧ ∀ (k : Nat), k < n → x k = x k ∧ y k = y k) ∧ lo = lo ∧ hi = hi) ∧ Int.tmod c w + selI [(1 : Int), (0 : Int), (1 : Int), (1 : Int), (0 : Int), (1 : Int), (-1 : Int), (1 : Int), (-1 : Int), (0 : Int), (-1 : Int), (-1 : Int), (0 : Int), (-1 : Int), (1 : Int), (-1 : Int)] (Int.toNat d * (2 : Nat)) = M.rx w c d (0 : Nat) ∧ Int.tdiv c w + selI [(1 : Int), (0 : Int), (1 : Int), (1 : Int), (0 : Int), (1 : Int), (-1 : Int), (1 : Int), (-1 : Int), (0 : Int), (-1 : Int), (-1 : Int), (0 : Int), (-1 : Int), (1 : Int), (-1 : Int)] (Int.toNat d * (2 : Nat) + (1 : Nat)) = M.ry w c d (0 : Nat) ∧ selI [(1 : Int), (0 : Int), (1 : Int), (1 : Int), (0 : Int), (1 : Int), (-1 : Int), (1 : Int), (-1 : Int), (0 : Int), (-1 : Int), (-1 : Int), (0 : Int), (-1 : Int), (1 : Int), (-1 : Int)] (Int.toNat d * (2 : Nat)) = M.dx d ∧ selI [(1 : Int), (0 : Int), (1 : Int), (1 : Int), (0 : Int), (1 : Int), (-1 : Int), (1 : Int), (-1 : Int), (0 : Int), (-1 : Int), (-1 : Int), (0 : Int), (-1 : Int), (1 : Int), (-1 : Int)] (Int.toNat d * (2 : Nat) + (1 : Nat)) = M.dy d ∧ True) ∧ (∀ (k : Nat) (go : Bool), (go = true → k = M.rayN w h c d) → go = true → k = M.rayN w h c d) ∧ ∀ (k : Nat) (go : Bool), False → go = true → k = M.rayN w h c d
theorem v117 (l : Nat) (w h s : Int) (n : Nat) (x y : Nat → Int) (lo hi : Int) (c d : Int) : VI true [] [(118, pureE e118)] Try.f117 [0,1,2,3,5,6,7,57] [(0, loopT true Try.f117.ntmps 0 (lp117 l w h s n x y lo hi c d) (fun _ _ _ => (0 : Nat)))] [.sptr 1 1 (fun _ => [SI d]) 0 0, .sptr 1 1 (fun _ => [SI c]) 0 0, .sptr 6 1 (fun _ => [SI w, SI h, SI s, .sl 2 n (fun k => [SI (x k), SI (y k)]), SI lo, SI hi]) 0 0] l (M.rayN w h c d) (fun k => [SI (M.rayC w c d k)]) = Rv117 l w h s n x y lo hi c d := by kernel_rfl
theorem bv117 (l : Nat) (w h s : Int) (n : Nat) (x y : Nat → Int) (lo hi : Int) (c d : Int) (hp : (0 ≤ d) ∧ (d ≤ 7) ∧ (1 ≤ w) ∧ (w ≤ 24) ∧ (1 ≤ h) ∧ (h ≤ 24) ∧ (0 ≤ c) ∧ (c < w * h) ∧ AllP []) : Rv117 l w h s n x y lo hi c d := by
  unfold Rv117
  obtain ⟨hd, hd', hw, hw2, hh, hh2, hc, hc', -⟩ := hp
  obtain ⟨e1, e2⟩ := dx_selI hd hd'
  rw [e1, e2]
  have h1 := M.cell_at hw hc hc'
  have h2 := M.dxy hd hd'
  rw [M.rx_0, M.ry_0]
  have h3 := M.area hw hw2 hh hh2
  have h4 : c.tdiv w < 24 := by omega
  unfold R64
  generalize c.tmod w = p at *
  generalize c.tdiv w = q at *
  simp only [decide_eq_true_eq, decide_eq_false_iff_not, Int.toNat_natCast, Int.natCast_nonneg, true_and, and_true, and_self, implies_true, forall_const, Int.ofNat_lt, Int.natCast_inj, R64]
  repeat' (first | apply And.intro | intro _)
  all_goals first | omega | with_reducible assumption | with_reducible rfl | exact True.intro | grind
theorem i117 : IterOK PP 117 j117 := by
  intro xs ps n f h hp
  unfold j117 at h
  split at h
  · rename_i F_1 F_2 F_3
    split at h
    · rename_i d c w h s n g_4 lo hi EF_1 EF_2 EF_3
      simp only [Option.some.injEq, Prod.mk.injEq] at h
      obtain ⟨rfl, rfl, rfl⟩ := h
      simp only [AllP.cons] at hp
      obtain ⟨Hg_4, hp⟩ := hp
      refine Iter.args (ys := [.sptr 1 1 (fun _ => [SI d]) 0 0, .sptr 1 1 (fun _ => [SI c]) 0 0, .sptr 6 1 (fun _ => [SI w, SI h, SI s, .sl 2 n (fun k => [SI ((cI g_4 0) k), SI ((cI g_4 1) k)]), SI lo, SI hi]) 0 0]) ?_ (.cons (.ref EF_1 (.refl _)) (.cons (.ref EF_2 (.refl _)) (.cons (.ref EF_3 (.cons (.refl _) (.cons (.refl _) (.cons (.refl _) (.cons (.row Hg_4 fun _ => rfl) (.cons (.refl _) (.cons (.refl _) .nil))))))) .nil)))
      refine enterI (L := [0,1,2,3,5,6,7,57]) (LO := fun l => [(0, loopT true Try.f117.ntmps 0 (lp117 l w h s n (cI g_4 0) (cI g_4 1) lo hi c d) (fun _ _ _ => (0 : Nat)))]) (E := []) (O := [(118, pureE e118)]) (ck := true) (.nil) (.cons (pureE_ok s118) (.nil)) (k := 117) (f := Try.f117) (xs := [.sptr 1 1 (fun _ => [SI d]) 0 0, .sptr 1 1 (fun _ => [SI c]) 0 0, .sptr 6 1 (fun _ => [SI w, SI h, SI s, .sl 2 n (fun k => [SI ((cI g_4 0) k), SI ((cI g_4 1) k)]), SI lo, SI hi]) 0 0]) (by kernel_rfl) (by kernel_rfl) (fun _ => rfl) (fun l Y => .cons (by kernel_rfl) (t117 l w h s n (cI g_4 0) (cI g_4 1) lo hi c d FOK.wide Y) (.nil)) fun l => ?_
      exact Hold.of (v117 l w h s n (cI g_4 0) (cI g_4 1) lo hi c d) (bv117 l w h s n (cI g_4 0) (cI g_4 1) lo hi c d hp)
    · cases h
  · cases h
abbrev dep (w h s : Int) (n : Nat) (x y : Nat → Int) (lo hi : Int) (c d : Int) (k : Nat) : List SV := [SI (M.W.dlo (M.W.mk w h s n x y lo hi) (M.rayC w c d k)), SI (M.W.dhi (M.W.mk w h s n x y lo hi) (M.rayC w c d k))]
def lp108 (l : Nat) (w h s : Int) (n : Nat) (x y : Nat → Int) (lo hi : Int) (c d : Int) (sure : Bool) : RangeS where
  ι := Unit
  pre _ k := (∀ j, j < k → M.W.sea (M.W.mk w h s n x y lo hi) c d sure j = true) ∧ (M.W.ok (M.W.mk w h s n x y lo hi) ∧ 0 ≤ d ∧ d ≤ 7 ∧ 0 ≤ c ∧ c < w * h)
  cnt _ := M.rayN w h c d
  f _ k := [SI (M.rayC w c d k)]
  SA _ := [(1, .sptr 6 1 (fun _ => [SI w, SI h, SI s, .sl 2 n (fun k => [SI (x k), SI (y k)]), SI lo, SI hi]) 0 0), (4, .sptr 1 1 (fun _ => [.bool sure]) 0 0), (5, .ptr 0 0), (11, .fn 117 [] [.sptr 1 1 (fun _ => [SI d]) 0 0, .sptr 1 1 (fun _ => [SI c]) 0 0, .sptr 6 1 (fun _ => [SI w, SI h, SI s, .sl 2 n (fun k => [SI (x k), SI (y k)]), SI lo, SI hi]) 0 0])]
  mf := 1
  n0 := 1
  SH _ _ := [(0, .cells [.lit (.func (.yield l) #[] #[])])]
  g0 _ k := (k, true)
  retP _ _ := True
  XH _ _ := []
  gR _ k k' go := go = true → k' = k ∧ M.W.sea (M.W.mk w h s n x y lo hi) c d sure k = false
def Rq108 (l : Nat) (w h s : Int) (n : Nat) (x y : Nat → Int) (lo hi : Int) (c d : Int) (sure : Bool)  (k : Nat) : Prop := (0 : Nat) < (1 : Nat) ∧ (∀ (k : Nat), k < n → x k = x k ∧ y k = y k) ∧ R64 (lo - y (Int.toNat (M.rayC w c d k))) ∧ R64 (hi - x (Int.toNat (M.rayC w c d k))) ∧ (0 : Int) ≤ M.rayC w c d k ∧ M.rayC w c d k < (↑n : Int) ∧ (0 : Nat) < (1 : Nat) ∧ (sure = true → sure = true) ∧ (sure = true → sure = true) ∧ (sure = true → sure = true) ∧ (sure = true → sure = true) ∧ ((!bif sure then decide (lo - y (Int.toNat (M.rayC w c d k)) < (1 : Int)) else false) = true → (!bif sure then decide (lo - y (Int.toNat (M.rayC w c d k)) < (1 : Int)) else false) = true) ∧ ((!bif sure then decide (lo - y (Int.toNat (M.rayC w c d k)) < (1 : Int)) else false) = true → (!bif sure then decide (lo - y (Int.toNat (M.rayC w c d k)) < (1 : Int)) else false) = true) ∧ ((!bif sure then decide (lo - y (Int.toNat (M.rayC w c d k)) < (1 : Int)) else false) = true → (!bif sure then decide (lo - y (Int.toNat (M.rayC w c d k)) < (1 : Int)) else false) = true) ∧ ((bif sure then decide (lo - y (Int.toNat (M.rayC w c d k)) < (1 : Int)) else false) = false → (!bif sure then decide (lo - y (Int.toNat (M.rayC w c d k)) < (1 : Int)) else false) = true) ∧ ((!bif bif sure then decide (lo - y (Int.toNat (M.rayC w c d k)) < (1 : Int)) else false then true else decide (hi - x (Int.toNat (M.rayC w c d k)) < (1 : Int))) = true → (!bif bif sure then decide (lo - y (Int.toNat (M.rayC w c d k)) < (1 : Int)) else false then true else decide (hi - x (Int.toNat (M.rayC w c d k)) < (1 : Int))) = true ∧ (!bif bif sure then decide (lo - y (Int.toNat (M.rayC w c d k)) < (1 : Int)) else false then true else decide (hi - x (Int.toNat (M.rayC w c d k)) < (1 : Int))) = true ∧ (!bif bif sure then decide (lo - y (Int.toNat (M.rayC w c d k)) < (1 : Int)) else false then true else decide (hi - x (Int.toNat (M.rayC w c d k)) < (1 : Int))) = true ∧ true = true ∧ l = l ∧ k < M.W.fetchN (M.W.mk w h s n x y lo hi) c d sure ∧ (M.rayC w c d k = M.rayC w c d k ∧ lo - y (Int.toNat (M.rayC w c d k)) = M.W.dlo (M.W.mk w h s n x y lo hi) (M.rayC w c d k) ∧ hi - x (Int.toNat (M.rayC w c d k)) = M.W.dhi (M.W.mk w h s n x y lo hi) (M.rayC w c d k)) ∧ (((bif bif sure then decide (lo - y (Int.toNat (M.rayC w c d k)) < (1 : Int)) else false then true else decide (hi - x (Int.toNat (M.rayC w c d k)) < (1 : Int))) = false → (!bif bif sure then decide (lo - y (Int.toNat (M.rayC w c d k)) < (1 : Int)) else false then true else decide (hi - x (Int.toNat (M.rayC w c d k)) < (1 : Int))) = true) ∧ ((bif bif bif sure then decide (lo - y (Int.toNat (M.rayC w c d k)) < (1 : Int)) else false then true else decide (hi - x (Int.toNat (M.rayC w c d k)) < (1 : Int)) then true else !true) = true → True ∧ (true = true → k + (1 : Nat) = k ∧ M.W.sea (M.W.mk w h s n x y lo hi) c d sure k = false) ∧ True) ∧ ((bif bif bif sure then decide (lo - y (Int.toNat (M.rayC w c d k)) < (1 : Int)) else false then true else decide (hi - x (Int.toNat (M.rayC w c d k)) < (1 : Int)) then true else !true) = false → ((∀ (j : Nat), j < k + (1 : Nat) → M.W.sea (M.W.mk w h s n x y lo hi) c d sure j = true) ∧ M.W.ok (M.W.mk w h s n x y lo hi) ∧ (0 : Int) ≤ d ∧ d ≤ (7 : Int) ∧ (0 : Int) ≤ c ∧ c < w * h) ∧ k + (1 : Nat) = k + (1 : Nat) ∧ true = true ∧ Value.func (Fn.yield l) #[] #[] = Value.func (Fn.yield l) #[] #[] ∧ True)) ∧ ((bif bif sure then decide (lo - y (Int.toNat (M.rayC w c d k)) < (1 : Int)) else false then true else decide (hi - x (Int.toNat (M.rayC w c d k)) < (1 : Int))) = false → (!bif bif sure then decide (lo - y (Int.toNat (M.rayC w c d k)) < (1 : Int)) else false then true else decide (hi - x (Int.toNat (M.rayC w c d k)) < (1 : Int))) = true) ∧ ((bif bif bif sure then decide (lo - y (Int.toNat (M.rayC w c d k)) < (1 : Int)) else false then true else decide (hi - x (Int.toNat (M.rayC w c d k)) < (1 : Int)) then true else !false) = true → True ∧ (false = true → k + (1 : Nat) = k ∧ M.W.sea (M.W.mk w h s n x y lo hi) c d sure k = false) ∧ True) ∧ ((bif bif bif sure then decide (lo - y (Int.toNat (M.rayC w c d k)) < (1 : Int)) else false then true else decide (hi - x (Int.toNat (M.rayC w c d k)) < (1 : Int)) then true else !false) = false → ((∀ (j : Nat), j < k + (1 : Nat) → M.W.sea (M.W.mk w h s n x y lo hi) c d sure j = true) ∧ M.W.ok (M.W.mk w h s n x y lo hi) ∧ (0 : Int) ≤ d ∧ d ≤ (7 : Int) ∧ (0 : Int) ≤ c ∧ c < w * h) ∧ k + (1 : Nat) = k + (1 : Nat) ∧ false = true ∧ Value.func (Fn.yield l) #[] #[] = Value.func (Fn.yield l) #[] #[] ∧ True)) ∧ ((!bif bif sure then decide (lo - y (Int.toNat (M.rayC w c d k)) < (1 : Int)) else false then true else decide (hi - x (Int.toNat (M.rayC w c d k)) < (1 : Int))) = false → ((!bif bif sure then decide (lo - y (Int.toNat (M.rayC w c d k)) < (1 : Int)) else false then true else decide (hi - x (Int.toNat (M.rayC w c d k)) < (1 : Int))) = true → false = true) ∧ ((bif bif sure then decide (lo - y (Int.toNat (M.rayC w c d k)) < (1 : Int)) else false then true else decide (hi - x (Int.toNat (M.rayC w c d k)) < (1 : Int))) = false → (!bif bif sure then decide (lo - y (Int.toNat (M.rayC w c d k)) < (1 : Int)) else false then true else decide (hi - x (Int.toNat (M.rayC w c d k)) < (1 : Int))) = true) ∧ ((bif bif bif sure then decide (lo - y (Int.toNat (M.rayC w c d k)) < (1 : Int)) else false then true else decide (hi - x (Int.toNat (M.rayC w c d k)) < (1 : Int)) then true else !false) = true → True ∧ (true = true → k = k ∧ M.W.sea (M.W.mk w h s n x y lo hi) c d sure k = false) ∧ True) ∧ ((bif bif bif sure then decide (lo - y (Int.toNat (M.rayC w c d k)) < (1 : Int)) else false then true else decide (hi - x (Int.toNat (M.rayC w c d k)) < (1 : Int)) then true else !false) = false → ((∀ (j : Nat), j < k + (1 : Nat) → M.W.sea (M.W.mk w h s n x y lo hi) c d sure j = true) ∧ M.W.ok (M.W.mk w h s n x y lo hi) ∧ (0 : Int) ≤ d ∧ d ≤ (7 : Int) ∧ (0 : Int) ≤ c ∧ c < w * h) ∧ k = k + (1 : Nat) ∧ true = true ∧ Value.func (Fn.yield l) #[] #[] = Value.func (Fn.yield l) #[] #[] ∧ True))
theorem q108 (l : Nat) (w h s : Int) (n : Nat) (x y : Nat → Int) (lo hi : Int) (c d : Int) (sure : Bool)  (k : Nat) : VR true [] [(110, pureE e110)] ((YS.mk true l (M.W.fetchN (M.W.mk w h s n x y lo hi) c d sure) (fun k => [SI (M.rayC w c d k), .agg (dep w h s n x y lo hi c d k)]))) Try.f108 [0,1,2,3,4,5,6,7,11,12,35] [] 0 (lp108 l w h s n x y lo hi c d sure) (()) k = Rq108 l w h s n x y lo hi c d sure k := by kernel_rfl
theorem peq108 (l : Nat) (w h s : Int) (n : Nat) (x y : Nat → Int) (lo hi : Int) (c d : Int) (sure : Bool)  (k : Nat) : (lp108 l w h s n x y lo hi c d sure).pre (()) k = ((∀ (j : Nat), j < k → M.W.sea (M.W.mk w h s n x y lo hi) c d sure j = true) ∧
  M.W.ok (M.W.mk w h s n x y lo hi) ∧ (0 : Int) ≤ d ∧ d ≤ (7 : Int) ∧ (0 : Int) ≤ c ∧ c < w * h) := by kernel_rfl
theorem ceq108 (l : Nat) (w h s : Int) (n : Nat) (x y : Nat → Int) (lo hi : Int) (c d : Int) (sure : Bool)  (k : Nat) : (k < (lp108 l w h s n x y lo hi c d sure).cnt (())) = (k < M.rayN w h c d) := by kernel_rfl
theorem bq108 (l : Nat) (w h s : Int) (n : Nat) (x y : Nat → Int) (lo hi : Int) (c d : Int) (sure : Bool)  (k : Nat) (hk : k < M.rayN w h c d) (hp : (∀ (j : Nat), j < k → M.W.sea (M.W.mk w h s n x y lo hi) c d sure j = true) ∧
  M.W.ok (M.W.mk w h s n x y lo hi) ∧ (0 : Int) ≤ d ∧ d ≤ (7 : Int) ∧ (0 : Int) ≤ c ∧ c < w * h) : Rq108 l w h s n x y lo hi c d sure k := by
  unfold Rq108
  obtain ⟨hs, hok, hd, hd', hc, hc'⟩ := hp
  have hin := M.rayC_in (d := d) hok.w1 (M.inn_rayN hk)
  have hdep := hok.depth hin.1 hin.2.1
  have hsea : M.W.sea (M.W.mk w h s n x y lo hi) c d sure k = ((!sure || decide (1 ≤ M.W.dlo (M.W.mk w h s n x y lo hi) (M.rayC w c d k))) && decide (1 ≤ M.W.dhi (M.W.mk w h s n x y lo hi) (M.rayC w c d k))) := rfl
  have hlt : M.W.sea (M.W.mk w h s n x y lo hi) c d sure k = true → k < M.W.fetchN (M.W.mk w h s n x y lo hi) c d sure := fun e => by
    obtain ⟨h1, h2, h3⟩ := M.first_spec (fun k => !M.W.sea (M.W.mk w h s n x y lo hi) c d sure k) (M.rayN w h c d)
    rcases Nat.lt_or_ge k (M.W.fetchN (M.W.mk w h s n x y lo hi) c d sure) with h4 | h4
    · exact h4
    · exfalso
      have h5 : M.W.fetchN (M.W.mk w h s n x y lo hi) c d sure < M.rayN w h c d := by omega
      have h6 : (!M.W.sea (M.W.mk w h s n x y lo hi) c d sure (M.W.fetchN (M.W.mk w h s n x y lo hi) c d sure)) = true := h3 h5
      rcases Nat.lt_or_ge (M.W.fetchN (M.W.mk w h s n x y lo hi) c d sure) k with h7 | h7
      · rw [hs _ h7] at h6; cases h6
      · have : M.W.fetchN (M.W.mk w h s n x y lo hi) c d sure = k := by omega
        rw [this, e] at h6; cases h6
  have hnext : M.W.sea (M.W.mk w h s n x y lo hi) c d sure k = true → ∀ j, j < k + 1 → M.W.sea (M.W.mk w h s n x y lo hi) c d sure j = true := fun e j hj => by
    by_cases e' : j = k
    · subst e'; exact e
    · exact hs j (by omega)
  have hn := hok.n_le
  unfold M.W.dlo M.W.dhi at *
  simp only at hdep hin hsea hn
  obtain ⟨w1, w2, hh1, hh2, s1, s2, nn, gr, l3, l4, l5⟩ := id hok
  simp only at w1 w2 hh1 hh2 nn l3 l4 l5
  have hgr := gr _ hdep.1
  simp only at hgr
  unfold R64
  generalize M.W.sea (M.W.mk w h s n x y lo hi) c d sure k = sk at *
  generalize M.rayC w c d k = cc at *
  have e1 : decide (lo - y cc.toNat < 1) = !decide (1 ≤ lo - y cc.toNat) := by grind
  have e2 : decide (hi - x cc.toNat < 1) = !decide (1 ≤ hi - x cc.toNat) := by grind
  simp only [e1, e2]
  generalize decide (1 ≤ lo - y cc.toNat) = p at *
  generalize decide (1 ≤ hi - x cc.toNat) = q at *
  have hok' : M.W.ok (M.W.mk w h s n x y lo hi) ∧ 0 ≤ d ∧ d ≤ 7 ∧ 0 ≤ c ∧ c < w * h := ⟨hok, hd, hd', hc, hc'⟩
  generalize (M.W.ok (M.W.mk w h s n x y lo hi) ∧ 0 ≤ d ∧ d ≤ 7 ∧ 0 ≤ c ∧ c < w * h) = OK at *
  cases sure <;> cases p <;> cases q <;> simp only [Bool.not_true, Bool.not_false, Bool.or_true, Bool.true_or, Bool.or_false, Bool.false_or, Bool.and_true, Bool.and_false, Bool.false_and, Bool.true_and] at hsea <;> subst hsea <;> simp [hok'] <;> grind
theorem t108 (l : Nat) (w h s : Int) (n : Nat) (x y : Nat → Int) (lo hi : Int) (c d : Int) (sure : Bool) {F : Fence} (hF : FOK F) (hr : F.round = none) (Y : YEnv PP ((YS.mk true l (M.W.fetchN (M.W.mk w h s n x y lo hi) c d sure) (fun k => [SI (M.rayC w c d k), .agg (dep w h s n x y lo hi c d k)])))) : ∀ Q A H nx, rangeT true Try.f108.ntmps 0 (rfFn (blkAt 0 Try.f108)) 117 j117 (lp108 l w h s n x y lo hi c d sure) (fun _ _ _ => ()) Q A H nx → WPS Y F Try.f108.ntmps 0 (.block 0 (blkAt 0 Try.f108)) Q A H nx :=
  rangeW (E := []) (.nil) (O := [(110, pureE e110)]) (.cons (pureE_ok s110) (.nil)) (ck := true) (L := [0,1,2,3,4,5,6,7,11,12,35]) (f := Try.f108) (m := 0) (id := 0) (l := (lp108 l w h s n x y lo hi c d sure)) (LI := []) Y hF hr i117 (by kernel_rfl) (fun _ _ => by kernel_rfl) (by kernel_rfl) (fun _ => .nil) (fun _ => .nil) (by
    rintro ⟨⟩ k hk hp
    exact Hold.of (q108 l w h s n x y lo hi c d sure k) (bq108 l w h s n x y lo hi c d sure k ((ceq108 l w h s n x y lo hi c d sure k).mp hk) ((peq108 l w h s n x y lo hi c d sure k).mp hp)))
def j108 : List SV → Option (List Prop × Nat × (Nat → List SV))
  | [.sptr 6 1 F_1 0 0, .sptr 1 1 F_2 0 0, .sptr 1 1 F_3 0 0, .sptr 1 1 F_4 0 0] => match F_1 0, F_2 0, F_3 0, F_4 0 with
    | [.int .i64 w, .int .i64 h, .int .i64 s, .sl 2 n g_5, .int .i64 lo, .int .i64 hi], [.int .i64 c], [.int .i64 d], [.bool sure] => some ([Row 2 n g_5, M.W.ok (M.W.mk w h s n (cI g_5 0) (cI g_5 1) lo hi), 0 ≤ d, d ≤ 7, 0 ≤ c, c < w * h], (M.W.fetchN (M.W.mk w h s n (cI g_5 0) (cI g_5 1) lo hi) c d sure), (fun k => [SI (M.rayC w c d k), .agg (dep w h s n (cI g_5 0) (cI g_5 1) lo hi c d k)]))
    | _, _, _, _ => none
  | _ => none
def Rv108 (l : Nat) (w h s : Int) (n : Nat) (x y : Nat → Int) (lo hi : Int) (c d : Int) (sure : Bool) : Prop := (0 : Nat) < (1 : Nat) ∧ (0 : Nat) < (1 : Nat) ∧ (0 : Nat) < (1 : Nat) ∧ (∀ (k : Nat), k < n → x k = x k ∧ y k = y k) ∧ ((∀ (j : Nat), j < (0 : Nat) → M.W.sea (M.W.mk w h s n x y lo hi) c d sure j = true) ∧ M.W.ok (M.W.mk w h s n x y lo hi) ∧ (0 : Int) ≤ d ∧ d ≤ (7 : Int) ∧ (0 : Int) ≤ c ∧ c < w * h) ∧ ((0 : Nat) = (0 : Nat) ∧ true = true ∧ (1 : Nat) = (1 : Nat) ∧ (0 : Nat) = (0 : Nat) ∧ (∀ (q : Nat), q < (1 : Nat) → w = w ∧ h = h ∧ s = s ∧ (n = n ∧ ∀ (k : Nat), k < n → x k = x k ∧ y k = y k) ∧ lo = lo ∧ hi = hi) ∧ (1 : Nat) = (1 : Nat) ∧ (0 : Nat) = (0 : Nat) ∧ (∀ (q : Nat), q < (1 : Nat) → sure = sure) ∧ (1 : Nat) = (1 : Nat) ∧ (0 : Nat) = (0 : Nat) ∧ (∀ (q : Nat), q < (1 : Nat) → d = d) ∧ (1 : Nat) = (1 : Nat) ∧ (0 : Nat) = (0 : Nat) ∧ (∀ (q : Nat), q < (1 : Nat) → c = c) ∧ (1 : Nat) = (1 : Nat) ∧ (0 : Nat) = (0 : Nat) ∧ (∀ (q : Nat), q < (1 : Nat) → w = w ∧ h = h ∧ s = s ∧ (n = n ∧ ∀ (k : Nat), k < n → x k = x k ∧ y k = y k) ∧ lo = lo ∧ hi = hi) ∧ Value.func (Fn.yield l) #[] #[] = Value.func (Fn.yield l) #[] #[] ∧ True) ∧ ((∀ (k : Nat), k < n → x k = x k ∧ y k = y k) ∧ (0 : Int) ≤ d ∧ d ≤ (7 : Int) ∧ (1 : Int) ≤ w ∧ w ≤ (24 : Int) ∧ (1 : Int) ≤ h ∧ h ≤ (24 : Int) ∧ (0 : Int) ≤ c ∧ c < w * h ∧ M.rayN w h c d = M.rayN w h c d ∧ ∀ (k : Nat), k < M.rayN w h c d → [SV.int IntKind.i64 (M.rayC w c d k)] = [SV.int IntKind.i64 (M.rayC w c d k)]) ∧ ((∀ (j : Nat), j < M.rayN w h c d → M.W.sea (M.W.mk w h s n x y lo hi) c d sure j = true) ∧ M.W.ok (M.W.mk w h s n x y lo hi) ∧ (0 : Int) ≤ d ∧ d ≤ (7 : Int) ∧ (0 : Int) ≤ c ∧ c < w * h → true = true → M.rayN w h c d = M.W.fetchN (M.W.mk w h s n x y lo hi) c d sure) ∧ (∀ (k : Nat), k < M.rayN w h c d → (∀ (j : Nat), j < k → M.W.sea (M.W.mk w h s n x y lo hi) c d sure j = true) ∧ M.W.ok (M.W.mk w h s n x y lo hi) ∧ (0 : Int) ≤ d ∧ d ≤ (7 : Int) ∧ (0 : Int) ≤ c ∧ c < w * h → True → ∀ (k_1 : Nat) (go : Bool), (go = true → k_1 = k ∧ M.W.sea (M.W.mk w h s n x y lo hi) c d sure k = false) → go = true → k_1 = M.W.fetchN (M.W.mk w h s n x y lo hi) c d sure) ∧ ∀ (k : Nat), k < M.rayN w h c d → (∀ (j : Nat), j < k → M.W.sea (M.W.mk w h s n x y lo hi) c d sure j = true) ∧ M.W.ok (M.W.mk w h s n x y lo hi) ∧ (0 : Int) ≤ d ∧ d ≤ (7 : Int) ∧ (0 : Int) ≤ c ∧ c < w * h → False → ∀ (k_1 : Nat) (go : Bool), (go = true → k_1 = k ∧ M.W.sea (M.W.mk w h s n x y lo hi) c d sure k = false) → go = true → k_1 = M.W.fetchN (M.W.mk w h s n x y lo hi) c d sure
theorem v108 (l : Nat) (w h s : Int) (n : Nat) (x y : Nat → Int) (lo hi : Int) (c d : Int) (sure : Bool) : VI true [] [(109, pureE e109)] Try.f108 [0,1,2,3,4,5,6,7,11,12,35] [(0, rangeT true Try.f108.ntmps 0 (rfFn (blkAt 0 Try.f108)) 117 j117 (lp108 l w h s n x y lo hi c d sure) (fun _ _ _ => ()))] [.sptr 6 1 (fun _ => [SI w, SI h, SI s, .sl 2 n (fun k => [SI (x k), SI (y k)]), SI lo, SI hi]) 0 0, .sptr 1 1 (fun _ => [SI c]) 0 0, .sptr 1 1 (fun _ => [SI d]) 0 0, .sptr 1 1 (fun _ => [.bool sure]) 0 0] l (M.W.fetchN (M.W.mk w h s n x y lo hi) c d sure) (fun k => [SI (M.rayC w c d k), .agg (dep w h s n x y lo hi c d k)]) = Rv108 l w h s n x y lo hi c d sure := by kernel_rfl
theorem bv108 (l : Nat) (w h s : Int) (n : Nat) (x y : Nat → Int) (lo hi : Int) (c d : Int) (sure : Bool) (hp : (M.W.ok (M.W.mk w h s n x y lo hi)) ∧ (0 ≤ d) ∧ (d ≤ 7) ∧ (0 ≤ c) ∧ (c < w * h) ∧ AllP []) : Rv108 l w h s n x y lo hi c d sure := by
  unfold Rv108
  obtain ⟨hok, hd, hd', hc, hc', -⟩ := hp
  have w1 := hok.w1; have w2 := hok.w2; have hh1 := hok.h1; have hh2 := hok.h2
  simp only at w1 w2 hh1 hh2
  simp [hok, hd, hd', hc, hc', w1, w2, hh1, hh2]
  exact ⟨fun h => (M.first_end fun j hj => by rw [h j hj]; rfl).symm, fun k hk h h1 => (M.first_at hk (fun j hj => by rw [h j hj]; rfl) (by rw [h1]; rfl)).symm⟩
theorem i108 : IterOK PP 108 j108 := by
  intro xs ps n f h hp
  unfold j108 at h
  split at h
  · rename_i F_1 F_2 F_3 F_4
    split at h
    · rename_i w h s n g_5 lo hi c d sure EF_1 EF_2 EF_3 EF_4
      simp only [Option.some.injEq, Prod.mk.injEq] at h
      obtain ⟨rfl, rfl, rfl⟩ := h
      simp only [AllP.cons] at hp
      obtain ⟨Hg_5, hp⟩ := hp
      refine Iter.args (ys := [.sptr 6 1 (fun _ => [SI w, SI h, SI s, .sl 2 n (fun k => [SI ((cI g_5 0) k), SI ((cI g_5 1) k)]), SI lo, SI hi]) 0 0, .sptr 1 1 (fun _ => [SI c]) 0 0, .sptr 1 1 (fun _ => [SI d]) 0 0, .sptr 1 1 (fun _ => [.bool sure]) 0 0]) ?_ (.cons (.ref EF_1 (.cons (.refl _) (.cons (.refl _) (.cons (.refl _) (.cons (.row Hg_5 fun _ => rfl) (.cons (.refl _) (.cons (.refl _) .nil))))))) (.cons (.ref EF_2 (.refl _)) (.cons (.ref EF_3 (.refl _)) (.cons (.ref EF_4 (.refl _)) .nil))))
      refine enterI (L := [0,1,2,3,4,5,6,7,11,12,35]) (LO := fun l => [(0, rangeT true Try.f108.ntmps 0 (rfFn (blkAt 0 Try.f108)) 117 j117 (lp108 l w h s n (cI g_5 0) (cI g_5 1) lo hi c d sure) (fun _ _ _ => ()))]) (E := []) (O := [(109, pureE e109)]) (ck := true) (.nil) (.cons (pureE_ok s109) (.nil)) (k := 108) (f := Try.f108) (xs := [.sptr 6 1 (fun _ => [SI w, SI h, SI s, .sl 2 n (fun k => [SI ((cI g_5 0) k), SI ((cI g_5 1) k)]), SI lo, SI hi]) 0 0, .sptr 1 1 (fun _ => [SI c]) 0 0, .sptr 1 1 (fun _ => [SI d]) 0 0, .sptr 1 1 (fun _ => [.bool sure]) 0 0]) (by kernel_rfl) (by kernel_rfl) (fun _ => rfl) (fun l Y => .cons (by kernel_rfl) (t108 l w h s n (cI g_5 0) (cI g_5 1) lo hi c d sure FOK.wide rfl Y) (.nil)) fun l => ?_
      exact Hold.of (v108 l w h s n (cI g_5 0) (cI g_5 1) lo hi c d sure) (bv108 l w h s n (cI g_5 0) (cI g_5 1) lo hi c d sure hp)
    · cases h
  · cases h
end Go.Proofs.Ytkklmkogdogbkaa.Sep
/-
  Contracts of the rises and setups of the stage 'surge'. No condition. (This text proves no statement by itself.)
-/
namespace Go.Proofs.Ytkklmkogdogbkaa.Sep
open Go
set_option linter.unusedVariables false
set_option linter.unusedSimpArgs false
def e115 : List SV → Option (List Prop × SV)
  | [.agg [.int .i64 a, .int .i64 b], .sptr 11 1 F_1 0 0, .sptr 2 1 F_2 0 0, .sptr 1 1 F_3 0 0] => match F_1 0, F_2 0, F_3 0 with
    | [.int .i64 w', .int .i64 h', .int .i64 s', .sl 2 n' g_4, .int .i64 lo', .int .i64 hi', .int .i64 dl, .int .i64 dh, .int .i64 ll', .int .i64 lh', .int .i64 c'], [.int .i64 v0, .int .i64 v1], [.int .i64 lg] => some ([Row 2 n' g_4, 1 ≤ dl, dl ≤ 10000, 0 ≤ v0, v0 ≤ 10000, 0 ≤ lg, lg ≤ 1420000, 1 ≤ b, b ≤ 1220000], SI (M.tlo dl v0 lg b))
    | _, _, _ => none
  | _ => none
def Rr115 (a b : Int) (w' h' s' : Int) (n' : Nat) (x' y' : Nat → Int) (lo' hi' dl dh ll' lh' c' : Int) (v0 v1 lg : Int) : Prop := (0 : Nat) < (1 : Nat) ∧ (0 : Nat) < (1 : Nat) ∧ R64 (dl * v0) ∧ (0 : Nat) < (1 : Nat) ∧ R64 (dl * v0 * v0) ∧ (0 : Nat) < (1 : Nat) ∧ R64 (dl * v0 * v0 * lg) ∧ R64 ((3832031250 : Int) * b) ∧ (0 : Int) < (3832031250 : Int) * b ∧ R64 (dl * v0 * v0 * lg) ∧ R64 ((3832031250 : Int) * b) ∧ R64 ((3832031250 : Int) * b - (1 : Int) - dl * v0 * v0 * lg) ∧ dl * v0 * v0 * lg / ((3832031250 : Int) * b) = M.tlo dl v0 lg b
theorem r115 (a b : Int) (w' h' s' : Int) (n' : Nat) (x' y' : Nat → Int) (lo' hi' dl dh ll' lh' c' : Int) (v0 v1 lg : Int) : V true [] [(64, pureE e64)] Try.f115 [0,1,2,3,4,5] [] [.agg [SI a, SI b], .sptr 11 1 (fun _ => [SI w', SI h', SI s', .sl 2 n' (fun k => [SI (x' k), SI (y' k)]), SI lo', SI hi', SI dl, SI dh, SI ll', SI lh', SI c']) 0 0, .sptr 2 1 (fun _ => [SI v0, SI v1]) 0 0, .sptr 1 1 (fun _ => [SI lg]) 0 0] (SI (M.tlo dl v0 lg b)) = Rr115 a b w' h' s' n' x' y' lo' hi' dl dh ll' lh' c' v0 v1 lg := by kernel_rfl
theorem br115 (a b : Int) (w' h' s' : Int) (n' : Nat) (x' y' : Nat → Int) (lo' hi' dl dh ll' lh' c' : Int) (v0 v1 lg : Int) (hp : (1 ≤ dl) ∧ (dl ≤ 10000) ∧ (0 ≤ v0) ∧ (v0 ≤ 10000) ∧ (0 ≤ lg) ∧ (lg ≤ 1420000) ∧ (1 ≤ b) ∧ (b ≤ 1220000) ∧ AllP []) : Rr115 a b w' h' s' n' x' y' lo' hi' dl dh ll' lh' c' v0 v1 lg := by
  unfold Rr115
  obtain ⟨h1, h2, h3, h4, h5, h6, h7, h8, -⟩ := hp
  have hb := M.tlo_bd h1 h2 h3 h4 h5 h6 h7 h8
  have e : dl * v0 * v0 * lg / (3832031250 * b) = M.tlo dl v0 lg b := rfl
  simp only [decide_eq_true_eq, decide_eq_false_iff_not, Int.toNat_natCast, Int.natCast_nonneg, true_and, and_true, and_self, implies_true, forall_const, Int.ofNat_lt, Int.natCast_inj, R64]
  repeat' (first | apply And.intro | intro _)
  all_goals first | omega | with_reducible assumption | with_reducible rfl | exact True.intro | grind
theorem s115 : PureOK PP 115 e115 := by
  intro xs ps res h hp
  unfold e115 at h
  split at h
  · rename_i a b F_1 F_2 F_3
    split at h
    · rename_i w' h' s' n' g_4 lo' hi' dl dh ll' lh' c' v0 v1 lg EF_1 EF_2 EF_3
      simp only [Option.some.injEq, Prod.mk.injEq] at h
      obtain ⟨rfl, rfl⟩ := h
      simp only [AllP.cons] at hp
      obtain ⟨Hg_4, hp⟩ := hp
      refine Spec.args (ys := [.agg [SI a, SI b], .sptr 11 1 (fun _ => [SI w', SI h', SI s', .sl 2 n' (fun k => [SI ((cI g_4 0) k), SI ((cI g_4 1) k)]), SI lo', SI hi', SI dl, SI dh, SI ll', SI lh', SI c']) 0 0, .sptr 2 1 (fun _ => [SI v0, SI v1]) 0 0, .sptr 1 1 (fun _ => [SI lg]) 0 0]) ?_ (.cons (.refl _) (.cons (.ref EF_1 (.cons (.refl _) (.cons (.refl _) (.cons (.refl _) (.cons (.row Hg_4 fun _ => rfl) (.cons (.refl _) (.cons (.refl _) (.cons (.refl _) (.cons (.refl _) (.cons (.refl _) (.cons (.refl _) (.cons (.refl _) .nil)))))))))))) (.cons (.ref EF_2 (.refl _)) (.cons (.ref EF_3 (.refl _)) .nil))))
      refine enter (L := [0,1,2,3,4,5]) (LO := []) (E := []) (O := [(64, pureE e64)]) (ck := true) (.nil) (.cons (pureE_ok s64) (.nil)) (k := 115) (f := Try.f115) (xs := [.agg [SI a, SI b], .sptr 11 1 (fun _ => [SI w', SI h', SI s', .sl 2 n' (fun k => [SI ((cI g_4 0) k), SI ((cI g_4 1) k)]), SI lo', SI hi', SI dl, SI dh, SI ll', SI lh', SI c']) 0 0, .sptr 2 1 (fun _ => [SI v0, SI v1]) 0 0, .sptr 1 1 (fun _ => [SI lg]) 0 0]) (r := (SI (M.tlo dl v0 lg b))) (by kernel_rfl) (by kernel_rfl) (fun _ => .nil) ?_
      exact Hold.of (r115 a b w' h' s' n' (cI g_4 0) (cI g_4 1) lo' hi' dl dh ll' lh' c' v0 v1 lg) (br115 a b w' h' s' n' (cI g_4 0) (cI g_4 1) lo' hi' dl dh ll' lh' c' v0 v1 lg hp)
    · cases h
  · cases h
def e116 : List SV → Option (List Prop × SV)
  | [.agg [.int .i64 a, .int .i64 b], .sptr 11 1 F_1 0 0, .sptr 2 1 F_2 0 0, .sptr 1 1 F_3 0 0] => match F_1 0, F_2 0, F_3 0 with
    | [.int .i64 w', .int .i64 h', .int .i64 s', .sl 2 n' g_4, .int .i64 lo', .int .i64 hi', .int .i64 dl, .int .i64 dh, .int .i64 ll', .int .i64 lh', .int .i64 c'], [.int .i64 v0, .int .i64 v1], [.int .i64 lg] => some ([Row 2 n' g_4, 1 ≤ dh, dh ≤ 10000, 0 ≤ v1, v1 ≤ 10000, 0 ≤ lg, lg ≤ 1420000, a ≤ 1220000], SI (M.thi dh v1 lg a))
    | _, _, _ => none
  | _ => none
def Rr116 (a b : Int) (w' h' s' : Int) (n' : Nat) (x' y' : Nat → Int) (lo' hi' dl dh ll' lh' c' : Int) (v0 v1 lg : Int) : Prop := (0 : Nat) < (1 : Nat) ∧ (0 : Nat) < (1 : Nat) ∧ R64 (dh * v1) ∧ (0 : Nat) < (1 : Nat) ∧ R64 (dh * v1 * v1) ∧ (0 : Nat) < (1 : Nat) ∧ R64 (dh * v1 * v1 * lg) ∧ R64 ((3832031250 : Int) * max (1 : Int) a) ∧ (0 : Int) < (3832031250 : Int) * max (1 : Int) a ∧ R64 (-(dh * v1 * v1 * lg)) ∧ R64 ((3832031250 : Int) * max (1 : Int) a) ∧ R64 ((3832031250 : Int) * max (1 : Int) a - (1 : Int) + dh * v1 * v1 * lg) ∧ R64 (-(-(dh * v1 * v1 * lg) / ((3832031250 : Int) * max (1 : Int) a))) ∧ -(-(dh * v1 * v1 * lg) / ((3832031250 : Int) * max (1 : Int) a)) = M.thi dh v1 lg a
theorem r116 (a b : Int) (w' h' s' : Int) (n' : Nat) (x' y' : Nat → Int) (lo' hi' dl dh ll' lh' c' : Int) (v0 v1 lg : Int) : V true [] [(65, pureE e65)] Try.f116 [0,1,2,3,4,5] [] [.agg [SI a, SI b], .sptr 11 1 (fun _ => [SI w', SI h', SI s', .sl 2 n' (fun k => [SI (x' k), SI (y' k)]), SI lo', SI hi', SI dl, SI dh, SI ll', SI lh', SI c']) 0 0, .sptr 2 1 (fun _ => [SI v0, SI v1]) 0 0, .sptr 1 1 (fun _ => [SI lg]) 0 0] (SI (M.thi dh v1 lg a)) = Rr116 a b w' h' s' n' x' y' lo' hi' dl dh ll' lh' c' v0 v1 lg := by kernel_rfl
theorem br116 (a b : Int) (w' h' s' : Int) (n' : Nat) (x' y' : Nat → Int) (lo' hi' dl dh ll' lh' c' : Int) (v0 v1 lg : Int) (hp : (1 ≤ dh) ∧ (dh ≤ 10000) ∧ (0 ≤ v1) ∧ (v1 ≤ 10000) ∧ (0 ≤ lg) ∧ (lg ≤ 1420000) ∧ (a ≤ 1220000) ∧ AllP []) : Rr116 a b w' h' s' n' x' y' lo' hi' dl dh ll' lh' c' v0 v1 lg := by
  unfold Rr116
  obtain ⟨h1, h2, h3, h4, h5, h6, h8, -⟩ := hp
  have hb := M.thi_bd h1 h2 h3 h4 h5 h6 h8
  have e : -(-(dh * v1 * v1 * lg) / (3832031250 * max 1 a)) = M.thi dh v1 lg a := rfl
  have hm : 1 ≤ max 1 a ∧ max 1 a ≤ 1220000 := by omega
  simp only [decide_eq_true_eq, decide_eq_false_iff_not, Int.toNat_natCast, Int.natCast_nonneg, true_and, and_true, and_self, implies_true, forall_const, Int.ofNat_lt, Int.natCast_inj, R64]
  repeat' (first | apply And.intro | intro _)
  all_goals first | omega | with_reducible assumption | with_reducible rfl | exact True.intro | grind
theorem s116 : PureOK PP 116 e116 := by
  intro xs ps res h hp
  unfold e116 at h
  split at h
  · rename_i a b F_1 F_2 F_3
    split at h
    · rename_i w' h' s' n' g_4 lo' hi' dl dh ll' lh' c' v0 v1 lg EF_1 EF_2 EF_3
      simp only [Option.some.injEq, Prod.mk.injEq] at h
      obtain ⟨rfl, rfl⟩ := h
      simp only [AllP.cons] at hp
      obtain ⟨Hg_4, hp⟩ := hp
      refine Spec.args (ys := [.agg [SI a, SI b], .sptr 11 1 (fun _ => [SI w', SI h', SI s', .sl 2 n' (fun k => [SI ((cI g_4 0) k), SI ((cI g_4 1) k)]), SI lo', SI hi', SI dl, SI dh, SI ll', SI lh', SI c']) 0 0, .sptr 2 1 (fun _ => [SI v0, SI v1]) 0 0, .sptr 1 1 (fun _ => [SI lg]) 0 0]) ?_ (.cons (.refl _) (.cons (.ref EF_1 (.cons (.refl _) (.cons (.refl _) (.cons (.refl _) (.cons (.row Hg_4 fun _ => rfl) (.cons (.refl _) (.cons (.refl _) (.cons (.refl _) (.cons (.refl _) (.cons (.refl _) (.cons (.refl _) (.cons (.refl _) .nil)))))))))))) (.cons (.ref EF_2 (.refl _)) (.cons (.ref EF_3 (.refl _)) .nil))))
      refine enter (L := [0,1,2,3,4,5]) (LO := []) (E := []) (O := [(65, pureE e65)]) (ck := true) (.nil) (.cons (pureE_ok s65) (.nil)) (k := 116) (f := Try.f116) (xs := [.agg [SI a, SI b], .sptr 11 1 (fun _ => [SI w', SI h', SI s', .sl 2 n' (fun k => [SI ((cI g_4 0) k), SI ((cI g_4 1) k)]), SI lo', SI hi', SI dl, SI dh, SI ll', SI lh', SI c']) 0 0, .sptr 2 1 (fun _ => [SI v0, SI v1]) 0 0, .sptr 1 1 (fun _ => [SI lg]) 0 0]) (r := (SI (M.thi dh v1 lg a))) (by kernel_rfl) (by kernel_rfl) (fun _ => .nil) ?_
      exact Hold.of (r116 a b w' h' s' n' (cI g_4 0) (cI g_4 1) lo' hi' dl dh ll' lh' c' v0 v1 lg) (br116 a b w' h' s' n' (cI g_4 0) (cI g_4 1) lo' hi' dl dh ll' lh' c' v0 v1 lg hp)
    · cases h
  · cases h
theorem W_fetch {g : M.W} (h : g.ok) {c d : Int} (hd : 0 ≤ d) (hd' : d ≤ 7) (hc : 0 ≤ c) (hc' : c < g.w * g.h) {sure : Bool} {k : Nat} (hk : k < g.fetchN c d sure) : g.fetchN c d sure ≤ 23 ∧ (sure = true → 1 ≤ g.dlo (M.rayC g.w c d k)) ∧ 1 ≤ g.dhi (M.rayC g.w c d k) ∧ g.dhi (M.rayC g.w c d k) ≤ 1220000 ∧ g.dlo (M.rayC g.w c d k) ≤ 1220000 := by
  have h1 := g.fetchN_le c d sure
  have h2 := (M.rayN_lt h.w1 h.w2 h.h2 hc hc' hd hd').1
  have h3 := M.W.sea_fetchN hk
  have h4 := M.rayC_in h.w1 (M.inn_rayN (show k < M.rayN g.w g.h c d by omega))
  have h5 := h.depth (c := M.rayC g.w c d k) h4.1 h4.2.1
  unfold M.W.sea at h3
  simp only [Bool.and_eq_true, Bool.or_eq_true, Bool.not_eq_true', decide_eq_true_eq] at h3
  refine ⟨by omega, fun e => ?_, h3.2, h5.2.2.2, by omega⟩
  rcases h3.1 with h6 | h6
  · rw [e] at h6; cases h6
  · exact h6
theorem sum_bd {f : Nat → Int} {n : Nat} (hn : n ≤ 23) (h : ∀ k, k < n → 0 ≤ f k ∧ f k ≤ 370561111) (k : Nat) (hk : k ≤ n) : 0 ≤ M.sum f k ∧ M.sum f k ≤ 8522905553 := by
  have := M.sum_le (f := f) (a := 0) (b := 370561111) (n := k) fun j hj => h j (by omega)
  omega
theorem fetchN_23 {g : M.W} (h : g.ok) {c d : Int} (hd : 0 ≤ d) (hd' : d ≤ 7) (hc : 0 ≤ c) (hc' : c < g.w * g.h) (sure : Bool) : g.fetchN c d sure ≤ 23 := by
  have h1 := g.fetchN_le c d sure
  have h2 := (M.rayN_lt h.w1 h.w2 h.h2 hc hc' hd hd').1
  omega
abbrev u114a (w h s : Int) (n : Nat) (x y : Nat → Int) (lo hi : Int) (c d : Int) (dl v0 lg : Int) : Nat → Int := fun k => M.tlo dl v0 lg (M.W.dhi (M.W.mk w h s n x y lo hi) (M.rayC w c d k))
def lp114a (w h s : Int) (n : Nat) (x y : Nat → Int) (lo hi : Int) (d c : Int) (dl0 dh0 ll lh : Int) (w' h' s' : Int) (n' : Nat) (x' y' : Nat → Int) (lo' hi' dl dh ll' lh' c' : Int) (v0 v1 lg : Int) : RangeS where
  ι := Unit
  pre _ _ := M.W.ok (M.W.mk w h s n x y lo hi) ∧ 0 ≤ d ∧ d ≤ 7 ∧ 0 ≤ c ∧ c < w * h ∧ 1 ≤ dl ∧ dl ≤ 10000 ∧ 0 ≤ v0 ∧ v0 ≤ 10000 ∧ 0 ≤ lg ∧ lg ≤ 1420000
  cnt _ := M.W.fetchN (M.W.mk w h s n x y lo hi) c d true
  f _ k := [SI (M.rayC w c d k), .agg (dep w h s n x y lo hi c d k)]
  SA _ := [(5, .ptr 0 0), (7, .ptr 1 0), (16, .fn 108 [] [.sptr 6 1 (fun _ => [SI w, SI h, SI s, .sl 2 n (fun k => [SI (x k), SI (y k)]), SI lo, SI hi]) 0 0, .sptr 1 1 (fun _ => [SI c]) 0 0, .sptr 1 1 (fun _ => [SI d]) 0 0, .sptr 1 1 (fun _ => [.bool true]) 0 0])]
  mf := 2
  n0 := 2
  SH _ k := [(0, .cells [.fn 115 [] [.sptr 11 1 (fun _ => [SI w', SI h', SI s', .sl 2 n' (fun k => [SI (x' k), SI (y' k)]), SI lo', SI hi', SI dl, SI dh, SI ll', SI lh', SI c']) 0 0, .sptr 2 1 (fun _ => [SI v0, SI v1]) 0 0, .sptr 1 1 (fun _ => [SI lg]) 0 0]]), (1, .cells [SI (M.sum (u114a w h s n x y lo hi c d dl v0 lg) k)])]
def Rq114a (w h s : Int) (n : Nat) (x y : Nat → Int) (lo hi : Int) (d c : Int) (dl0 dh0 ll lh : Int) (w' h' s' : Int) (n' : Nat) (x' y' : Nat → Int) (lo' hi' dl dh ll' lh' c' : Int) (v0 v1 lg : Int)  (k : Nat) : Prop := (∀ (k : Nat), k < n' → x' k = x' k ∧ y' k = y' k) ∧ (1 : Int) ≤ dl ∧ dl ≤ (10000 : Int) ∧ (0 : Int) ≤ v0 ∧ v0 ≤ (10000 : Int) ∧ (0 : Int) ≤ lg ∧ lg ≤ (1420000 : Int) ∧ (1 : Int) ≤ M.W.dhi (M.W.mk w h s n x y lo hi) (M.rayC w c d k) ∧ M.W.dhi (M.W.mk w h s n x y lo hi) (M.rayC w c d k) ≤ (1220000 : Int) ∧ R64 (M.sum (fun k => M.tlo dl v0 lg (M.W.dhi (M.W.mk w h s n x y lo hi) (M.rayC w c d k))) k + M.tlo dl v0 lg (M.W.dhi (M.W.mk w h s n x y lo hi) (M.rayC w c d k))) ∧ (M.W.ok (M.W.mk w h s n x y lo hi) ∧ (0 : Int) ≤ d ∧ d ≤ (7 : Int) ∧ (0 : Int) ≤ c ∧ c < w * h ∧ (1 : Int) ≤ dl ∧ dl ≤ (10000 : Int) ∧ (0 : Int) ≤ v0 ∧ v0 ≤ (10000 : Int) ∧ (0 : Int) ≤ lg ∧ lg ≤ (1420000 : Int)) ∧ (1 : Nat) = (1 : Nat) ∧ (0 : Nat) = (0 : Nat) ∧ (∀ (q : Nat), q < (1 : Nat) → w' = w' ∧ h' = h' ∧ s' = s' ∧ (n' = n' ∧ ∀ (k : Nat), k < n' → x' k = x' k ∧ y' k = y' k) ∧ lo' = lo' ∧ hi' = hi' ∧ dl = dl ∧ dh = dh ∧ ll' = ll' ∧ lh' = lh' ∧ c' = c') ∧ (1 : Nat) = (1 : Nat) ∧ (0 : Nat) = (0 : Nat) ∧ (∀ (q : Nat), q < (1 : Nat) → v0 = v0 ∧ v1 = v1) ∧ (1 : Nat) = (1 : Nat) ∧ (0 : Nat) = (0 : Nat) ∧ (∀ (q : Nat), q < (1 : Nat) → lg = lg) ∧ M.sum (fun k => M.tlo dl v0 lg (M.W.dhi (M.W.mk w h s n x y lo hi) (M.rayC w c d k))) k + M.tlo dl v0 lg (M.W.dhi (M.W.mk w h s n x y lo hi) (M.rayC w c d k)) = M.sum (fun k => M.tlo dl v0 lg (M.W.dhi (M.W.mk w h s n x y lo hi) (M.rayC w c d k))) (k + (1 : Nat)) ∧ True
theorem q114a (w h s : Int) (n : Nat) (x y : Nat → Int) (lo hi : Int) (d c : Int) (dl0 dh0 ll lh : Int) (w' h' s' : Int) (n' : Nat) (x' y' : Nat → Int) (lo' hi' dl dh ll' lh' c' : Int) (v0 v1 lg : Int)  (k : Nat) : VR true [] [(115, pureE e115)] YS.none Try.f114 [0,1,2,3,5,6,7,9,16,18] [] 0 (lp114a w h s n x y lo hi d c dl0 dh0 ll lh w' h' s' n' x' y' lo' hi' dl dh ll' lh' c' v0 v1 lg) (()) k = Rq114a w h s n x y lo hi d c dl0 dh0 ll lh w' h' s' n' x' y' lo' hi' dl dh ll' lh' c' v0 v1 lg k := by kernel_rfl
theorem peq114a (w h s : Int) (n : Nat) (x y : Nat → Int) (lo hi : Int) (d c : Int) (dl0 dh0 ll lh : Int) (w' h' s' : Int) (n' : Nat) (x' y' : Nat → Int) (lo' hi' dl dh ll' lh' c' : Int) (v0 v1 lg : Int)  (k : Nat) : (lp114a w h s n x y lo hi d c dl0 dh0 ll lh w' h' s' n' x' y' lo' hi' dl dh ll' lh' c' v0 v1 lg).pre (()) k = (M.W.ok (M.W.mk w h s n x y lo hi) ∧
  (0 : Int) ≤ d ∧
    d ≤ (7 : Int) ∧
      (0 : Int) ≤ c ∧ c < w * h ∧ (1 : Int) ≤ dl ∧ dl ≤ (10000 : Int) ∧ (0 : Int) ≤ v0 ∧ v0 ≤ (10000 : Int) ∧ (0 : Int) ≤ lg ∧ lg ≤ (1420000 : Int)) := by kernel_rfl
theorem ceq114a (w h s : Int) (n : Nat) (x y : Nat → Int) (lo hi : Int) (d c : Int) (dl0 dh0 ll lh : Int) (w' h' s' : Int) (n' : Nat) (x' y' : Nat → Int) (lo' hi' dl dh ll' lh' c' : Int) (v0 v1 lg : Int)  (k : Nat) : (k < (lp114a w h s n x y lo hi d c dl0 dh0 ll lh w' h' s' n' x' y' lo' hi' dl dh ll' lh' c' v0 v1 lg).cnt (())) = (k < M.W.fetchN (M.W.mk w h s n x y lo hi) c d true) := by kernel_rfl
theorem bq114a (w h s : Int) (n : Nat) (x y : Nat → Int) (lo hi : Int) (d c : Int) (dl0 dh0 ll lh : Int) (w' h' s' : Int) (n' : Nat) (x' y' : Nat → Int) (lo' hi' dl dh ll' lh' c' : Int) (v0 v1 lg : Int)  (k : Nat) (hk : k < M.W.fetchN (M.W.mk w h s n x y lo hi) c d true) (hp : M.W.ok (M.W.mk w h s n x y lo hi) ∧
  (0 : Int) ≤ d ∧
    d ≤ (7 : Int) ∧
      (0 : Int) ≤ c ∧ c < w * h ∧ (1 : Int) ≤ dl ∧ dl ≤ (10000 : Int) ∧ (0 : Int) ≤ v0 ∧ v0 ≤ (10000 : Int) ∧ (0 : Int) ≤ lg ∧ lg ≤ (1420000 : Int)) : Rq114a w h s n x y lo hi d c dl0 dh0 ll lh w' h' s' n' x' y' lo' hi' dl dh ll' lh' c' v0 v1 lg k := by
  unfold Rq114a
  obtain ⟨hok, hd, hd', hc, hc', h1, h2, h3, h4, h5, h6⟩ := id hp
  have hf := fun j (hj : j < M.W.fetchN (M.W.mk w h s n x y lo hi) c d true) => W_fetch hok hd hd' hc hc' hj
  have hb := sum_bd (f := u114a w h s n x y lo hi c d dl v0 lg) (fetchN_23 hok hd hd' hc hc' true) (fun j hj => by
    have := hf j hj
    exact (M.tlo_bd h1 h2 h3 h4 h5 h6 this.2.2.1 this.2.2.2.1).2.2.2.2.2.2)
  have hb0 := hb k (by omega)
  have hb1 := hb (k + 1) (by omega)
  have hk' := hf k hk
  simp only [u114a, M.sum] at hb0 hb1
  refine ⟨by simp, ?_⟩
  simp [R64, M.sum, *]
  repeat' apply And.intro
  all_goals first | omega | grind
theorem t114a (w h s : Int) (n : Nat) (x y : Nat → Int) (lo hi : Int) (d c : Int) (dl0 dh0 ll lh : Int) (w' h' s' : Int) (n' : Nat) (x' y' : Nat → Int) (lo' hi' dl dh ll' lh' c' : Int) (v0 v1 lg : Int) {F : Fence} (hF : FOK F) (hr : F.round = none) (Y : YEnv PP YS.none) : ∀ Q A H nx, rangeT false Try.f114.ntmps 0 (rfFn (blkAt 0 Try.f114)) 108 j108 (lp114a w h s n x y lo hi d c dl0 dh0 ll lh w' h' s' n' x' y' lo' hi' dl dh ll' lh' c' v0 v1 lg) (fun _ _ _ => ()) Q A H nx → WPS Y F Try.f114.ntmps 0 (.block 0 (blkAt 0 Try.f114)) Q A H nx :=
  rangeW (E := []) (.nil) (O := [(115, pureE e115)]) (.cons (pureE_ok s115) (.nil)) (ck := true) (L := [0,1,2,3,5,6,7,9,16,18]) (f := Try.f114) (m := 0) (id := 0) (l := (lp114a w h s n x y lo hi d c dl0 dh0 ll lh w' h' s' n' x' y' lo' hi' dl dh ll' lh' c' v0 v1 lg)) (LI := []) Y hF hr i108 (by kernel_rfl) (fun _ _ => by kernel_rfl) (by kernel_rfl) (fun _ => .nil) (fun _ => .nil) (by
    rintro ⟨⟩ k hk hp
    exact Hold.of (q114a w h s n x y lo hi d c dl0 dh0 ll lh w' h' s' n' x' y' lo' hi' dl dh ll' lh' c' v0 v1 lg k) (bq114a w h s n x y lo hi d c dl0 dh0 ll lh w' h' s' n' x' y' lo' hi' dl dh ll' lh' c' v0 v1 lg k ((ceq114a w h s n x y lo hi d c dl0 dh0 ll lh w' h' s' n' x' y' lo' hi' dl dh ll' lh' c' v0 v1 lg k).mp hk) ((peq114a w h s n x y lo hi d c dl0 dh0 ll lh w' h' s' n' x' y' lo' hi' dl dh ll' lh' c' v0 v1 lg k).mp hp)))
def e114a : List SV → Option (List Prop × SV)
  | [.bool true, .fn 115 [] [.sptr 11 1 F_1 0 0, .sptr 2 1 F_2 0 0, .sptr 1 1 F_3 0 0], .sptr 11 1 F_4 0 0, .sptr 1 1 F_5 0 0] => match F_1 0, F_2 0, F_3 0, F_4 0, F_5 0 with
    | [.int .i64 w', .int .i64 h', .int .i64 s', .sl 2 n' g_6, .int .i64 lo', .int .i64 hi', .int .i64 dl, .int .i64 dh, .int .i64 ll', .int .i64 lh', .int .i64 c'], [.int .i64 v0, .int .i64 v1], [.int .i64 lg], [.int .i64 w, .int .i64 h, .int .i64 s, .sl 2 n g_7, .int .i64 lo, .int .i64 hi, .int .i64 dl0, .int .i64 dh0, .int .i64 ll, .int .i64 lh, .int .i64 c], [.int .i64 d] => some ([Row 2 n' g_6, Row 2 n g_7, M.W.ok (M.W.mk w h s n (cI g_7 0) (cI g_7 1) lo hi), 0 ≤ d, d ≤ 7, 0 ≤ c, c < w * h, 1 ≤ dl, dl ≤ 10000, 0 ≤ v0, v0 ≤ 10000, 0 ≤ lg, lg ≤ 1420000], SI (M.sum (u114a w h s n (cI g_7 0) (cI g_7 1) lo hi c d dl v0 lg) (M.W.fetchN (M.W.mk w h s n (cI g_7 0) (cI g_7 1) lo hi) c d true)))
    | _, _, _, _, _ => none
  | _ => none
def Rr114a (w h s : Int) (n : Nat) (x y : Nat → Int) (lo hi : Int) (d c : Int) (dl0 dh0 ll lh : Int) (w' h' s' : Int) (n' : Nat) (x' y' : Nat → Int) (lo' hi' dl dh ll' lh' c' : Int) (v0 v1 lg : Int) : Prop := (0 : Nat) < (1 : Nat) ∧ (0 : Nat) < (1 : Nat) ∧ (0 : Nat) < (1 : Nat) ∧ (∀ (k : Nat), k < n → x k = x k ∧ y k = y k) ∧ (M.W.ok (M.W.mk w h s n x y lo hi) ∧ (0 : Int) ≤ d ∧ d ≤ (7 : Int) ∧ (0 : Int) ≤ c ∧ c < w * h ∧ (1 : Int) ≤ dl ∧ dl ≤ (10000 : Int) ∧ (0 : Int) ≤ v0 ∧ v0 ≤ (10000 : Int) ∧ (0 : Int) ≤ lg ∧ lg ≤ (1420000 : Int)) ∧ ((1 : Nat) = (1 : Nat) ∧ (0 : Nat) = (0 : Nat) ∧ (∀ (q : Nat), q < (1 : Nat) → w = w ∧ h = h ∧ s = s ∧ (n = n ∧ ∀ (k : Nat), k < n → x k = x k ∧ y k = y k) ∧ lo = lo ∧ hi = hi) ∧ (1 : Nat) = (1 : Nat) ∧ (0 : Nat) = (0 : Nat) ∧ (∀ (q : Nat), q < (1 : Nat) → c = c) ∧ (1 : Nat) = (1 : Nat) ∧ (0 : Nat) = (0 : Nat) ∧ (∀ (q : Nat), q < (1 : Nat) → d = d) ∧ (1 : Nat) = (1 : Nat) ∧ (0 : Nat) = (0 : Nat) ∧ (∀ (q : Nat), q < (1 : Nat) → true = true) ∧ (1 : Nat) = (1 : Nat) ∧ (0 : Nat) = (0 : Nat) ∧ (∀ (q : Nat), q < (1 : Nat) → w' = w' ∧ h' = h' ∧ s' = s' ∧ (n' = n' ∧ ∀ (k : Nat), k < n' → x' k = x' k ∧ y' k = y' k) ∧ lo' = lo' ∧ hi' = hi' ∧ dl = dl ∧ dh = dh ∧ ll' = ll' ∧ lh' = lh' ∧ c' = c') ∧ (1 : Nat) = (1 : Nat) ∧ (0 : Nat) = (0 : Nat) ∧ (∀ (q : Nat), q < (1 : Nat) → v0 = v0 ∧ v1 = v1) ∧ (1 : Nat) = (1 : Nat) ∧ (0 : Nat) = (0 : Nat) ∧ (∀ (q : Nat), q < (1 : Nat) → lg = lg) ∧ (0 : Int) = M.sum (fun k => M.tlo dl v0 lg (M.W.dhi (M.W.mk w h s n x y lo hi) (M.rayC w c d k))) (0 : Nat) ∧ True) ∧ ((∀ (k : Nat), k < n → x k = x k ∧ y k = y k) ∧ M.W.ok (M.W.mk w h s n x y lo hi) ∧ (0 : Int) ≤ d ∧ d ≤ (7 : Int) ∧ (0 : Int) ≤ c ∧ c < w * h ∧ M.W.fetchN (M.W.mk w h s n x y lo hi) c d true = M.W.fetchN (M.W.mk w h s n x y lo hi) c d true ∧ ∀ (k : Nat), k < M.W.fetchN (M.W.mk w h s n x y lo hi) c d true → [SV.int IntKind.i64 (M.rayC w c d k), SV.agg [SV.int IntKind.i64 (M.W.dlo (M.W.mk w h s n x y lo hi) (M.rayC w c d k)), SV.int IntKind.i64 (M.W.dhi (M.W.mk w h s n x y lo hi) (M.rayC w c d k))]] = [SV.int IntKind.i64 (M.rayC w c d k), SV.agg [SV.int IntKind.i64 (M.W.dlo (M.W.mk w h s n x y lo hi) (M.rayC w c d k)), SV.int IntKind.i64 (M.W.dhi (M.W.mk w h s n x y lo hi) (M.rayC w c d k))]]) ∧ (M.W.ok (M.W.mk w h s n x y lo hi) ∧ (0 : Int) ≤ d ∧ d ≤ (7 : Int) ∧ (0 : Int) ≤ c ∧ c < w * h ∧ (1 : Int) ≤ dl ∧ dl ≤ (10000 : Int) ∧ (0 : Int) ≤ v0 ∧ v0 ≤ (10000 : Int) ∧ (0 : Int) ≤ lg ∧ lg ≤ (1420000 : Int) → M.sum (fun k => M.tlo dl v0 lg (M.W.dhi (M.W.mk w h s n x y lo hi) (M.rayC w c d k))) (M.W.fetchN (M.W.mk w h s n x y lo hi) c d true) = M.sum (fun k => M.tlo dl v0 lg (M.W.dhi (M.W.mk w h s n x y lo hi) (M.rayC w c d k))) (M.W.fetchN (M.W.mk w h s n x y lo hi) c d true)) ∧ (∀ (k : Nat), k < M.W.fetchN (M.W.mk w h s n x y lo hi) c d true → M.W.ok (M.W.mk w h s n x y lo hi) ∧ (0 : Int) ≤ d ∧ d ≤ (7 : Int) ∧ (0 : Int) ≤ c ∧ c < w * h ∧ (1 : Int) ≤ dl ∧ dl ≤ (10000 : Int) ∧ (0 : Int) ≤ v0 ∧ v0 ≤ (10000 : Int) ∧ (0 : Int) ≤ lg ∧ lg ≤ (1420000 : Int) → False → True → False) ∧ ∀ (k : Nat), k < M.W.fetchN (M.W.mk w h s n x y lo hi) c d true → M.W.ok (M.W.mk w h s n x y lo hi) ∧ (0 : Int) ≤ d ∧ d ≤ (7 : Int) ∧ (0 : Int) ≤ c ∧ c < w * h ∧ (1 : Int) ≤ dl ∧ dl ≤ (10000 : Int) ∧ (0 : Int) ≤ v0 ∧ v0 ≤ (10000 : Int) ∧ (0 : Int) ≤ lg ∧ lg ≤ (1420000 : Int) → False → True → False
theorem r114a (w h s : Int) (n : Nat) (x y : Nat → Int) (lo hi : Int) (d c : Int) (dl0 dh0 ll lh : Int) (w' h' s' : Int) (n' : Nat) (x' y' : Nat → Int) (lo' hi' dl dh ll' lh' c' : Int) (v0 v1 lg : Int) : V true [] [(89, pureE e89)] Try.f114 [0,1,2,3,5,6,7,9,16,18] [(0, rangeT false Try.f114.ntmps 0 (rfFn (blkAt 0 Try.f114)) 108 j108 (lp114a w h s n x y lo hi d c dl0 dh0 ll lh w' h' s' n' x' y' lo' hi' dl dh ll' lh' c' v0 v1 lg) (fun _ _ _ => ()))] [.bool true, .fn 115 [] [.sptr 11 1 (fun _ => [SI w', SI h', SI s', .sl 2 n' (fun k => [SI (x' k), SI (y' k)]), SI lo', SI hi', SI dl, SI dh, SI ll', SI lh', SI c']) 0 0, .sptr 2 1 (fun _ => [SI v0, SI v1]) 0 0, .sptr 1 1 (fun _ => [SI lg]) 0 0], .sptr 11 1 (fun _ => [SI w, SI h, SI s, .sl 2 n (fun k => [SI (x k), SI (y k)]), SI lo, SI hi, SI dl0, SI dh0, SI ll, SI lh, SI c]) 0 0, .sptr 1 1 (fun _ => [SI d]) 0 0] (SI (M.sum (u114a w h s n x y lo hi c d dl v0 lg) (M.W.fetchN (M.W.mk w h s n x y lo hi) c d true))) = Rr114a w h s n x y lo hi d c dl0 dh0 ll lh w' h' s' n' x' y' lo' hi' dl dh ll' lh' c' v0 v1 lg := by kernel_rfl
theorem br114a (w h s : Int) (n : Nat) (x y : Nat → Int) (lo hi : Int) (d c : Int) (dl0 dh0 ll lh : Int) (w' h' s' : Int) (n' : Nat) (x' y' : Nat → Int) (lo' hi' dl dh ll' lh' c' : Int) (v0 v1 lg : Int) (hp : (M.W.ok (M.W.mk w h s n x y lo hi)) ∧ (0 ≤ d) ∧ (d ≤ 7) ∧ (0 ≤ c) ∧ (c < w * h) ∧ (1 ≤ dl) ∧ (dl ≤ 10000) ∧ (0 ≤ v0) ∧ (v0 ≤ 10000) ∧ (0 ≤ lg) ∧ (lg ≤ 1420000) ∧ AllP []) : Rr114a w h s n x y lo hi d c dl0 dh0 ll lh w' h' s' n' x' y' lo' hi' dl dh ll' lh' c' v0 v1 lg := by
  unfold Rr114a
  obtain ⟨hok, hd, hd', hc, hc', h1, h2, h3, h4, h5, h6, -⟩ := id hp
  simp [*, M.sum]
theorem s114a : PureOK PP 114 e114a := by
  intro xs ps res h hp
  unfold e114a at h
  split at h
  · rename_i F_1 F_2 F_3 F_4 F_5
    split at h
    · rename_i w' h' s' n' g_6 lo' hi' dl dh ll' lh' c' v0 v1 lg w h s n g_7 lo hi dl0 dh0 ll lh c d EF_1 EF_2 EF_3 EF_4 EF_5
      simp only [Option.some.injEq, Prod.mk.injEq] at h
      obtain ⟨rfl, rfl⟩ := h
      simp only [AllP.cons] at hp
      obtain ⟨Hg_6, hp⟩ := hp
      obtain ⟨Hg_7, hp⟩ := hp
      refine Spec.args (ys := [.bool true, .fn 115 [] [.sptr 11 1 (fun _ => [SI w', SI h', SI s', .sl 2 n' (fun k => [SI ((cI g_6 0) k), SI ((cI g_6 1) k)]), SI lo', SI hi', SI dl, SI dh, SI ll', SI lh', SI c']) 0 0, .sptr 2 1 (fun _ => [SI v0, SI v1]) 0 0, .sptr 1 1 (fun _ => [SI lg]) 0 0], .sptr 11 1 (fun _ => [SI w, SI h, SI s, .sl 2 n (fun k => [SI ((cI g_7 0) k), SI ((cI g_7 1) k)]), SI lo, SI hi, SI dl0, SI dh0, SI ll, SI lh, SI c]) 0 0, .sptr 1 1 (fun _ => [SI d]) 0 0]) ?_ (.cons (.refl _) (.cons (.fn (.refl _) (.cons (.ref EF_1 (.cons (.refl _) (.cons (.refl _) (.cons (.refl _) (.cons (.row Hg_6 fun _ => rfl) (.cons (.refl _) (.cons (.refl _) (.cons (.refl _) (.cons (.refl _) (.cons (.refl _) (.cons (.refl _) (.cons (.refl _) .nil)))))))))))) (.cons (.ref EF_2 (.refl _)) (.cons (.ref EF_3 (.refl _)) .nil)))) (.cons (.ref EF_4 (.cons (.refl _) (.cons (.refl _) (.cons (.refl _) (.cons (.row Hg_7 fun _ => rfl) (.cons (.refl _) (.cons (.refl _) (.cons (.refl _) (.cons (.refl _) (.cons (.refl _) (.cons (.refl _) (.cons (.refl _) .nil)))))))))))) (.cons (.ref EF_5 (.refl _)) .nil))))
      refine enter (L := [0,1,2,3,5,6,7,9,16,18]) (LO := [(0, rangeT false Try.f114.ntmps 0 (rfFn (blkAt 0 Try.f114)) 108 j108 (lp114a w h s n (cI g_7 0) (cI g_7 1) lo hi d c dl0 dh0 ll lh w' h' s' n' (cI g_6 0) (cI g_6 1) lo' hi' dl dh ll' lh' c' v0 v1 lg) (fun _ _ _ => ()))]) (E := []) (O := [(89, pureE e89)]) (ck := true) (.nil) (.cons (pureE_ok s89) (.nil)) (k := 114) (f := Try.f114) (xs := [.bool true, .fn 115 [] [.sptr 11 1 (fun _ => [SI w', SI h', SI s', .sl 2 n' (fun k => [SI ((cI g_6 0) k), SI ((cI g_6 1) k)]), SI lo', SI hi', SI dl, SI dh, SI ll', SI lh', SI c']) 0 0, .sptr 2 1 (fun _ => [SI v0, SI v1]) 0 0, .sptr 1 1 (fun _ => [SI lg]) 0 0], .sptr 11 1 (fun _ => [SI w, SI h, SI s, .sl 2 n (fun k => [SI ((cI g_7 0) k), SI ((cI g_7 1) k)]), SI lo, SI hi, SI dl0, SI dh0, SI ll, SI lh, SI c]) 0 0, .sptr 1 1 (fun _ => [SI d]) 0 0]) (r := (SI (M.sum (u114a w h s n (cI g_7 0) (cI g_7 1) lo hi c d dl v0 lg) (M.W.fetchN (M.W.mk w h s n (cI g_7 0) (cI g_7 1) lo hi) c d true)))) (by kernel_rfl) (by kernel_rfl) (fun Y => .cons (by kernel_rfl) (t114a w h s n (cI g_7 0) (cI g_7 1) lo hi d c dl0 dh0 ll lh w' h' s' n' (cI g_6 0) (cI g_6 1) lo' hi' dl dh ll' lh' c' v0 v1 lg FOK.wide rfl Y) (.nil)) ?_
      exact Hold.of (r114a w h s n (cI g_7 0) (cI g_7 1) lo hi d c dl0 dh0 ll lh w' h' s' n' (cI g_6 0) (cI g_6 1) lo' hi' dl dh ll' lh' c' v0 v1 lg) (br114a w h s n (cI g_7 0) (cI g_7 1) lo hi d c dl0 dh0 ll lh w' h' s' n' (cI g_6 0) (cI g_6 1) lo' hi' dl dh ll' lh' c' v0 v1 lg hp)
    · cases h
  · cases h
abbrev u114b (w h s : Int) (n : Nat) (x y : Nat → Int) (lo hi : Int) (c d : Int) (dh v1 lg : Int) : Nat → Int := fun k => M.thi dh v1 lg (M.W.dlo (M.W.mk w h s n x y lo hi) (M.rayC w c d k))
def lp114b (w h s : Int) (n : Nat) (x y : Nat → Int) (lo hi : Int) (d c : Int) (dl0 dh0 ll lh : Int) (w' h' s' : Int) (n' : Nat) (x' y' : Nat → Int) (lo' hi' dl dh ll' lh' c' : Int) (v0 v1 lg : Int) : RangeS where
  ι := Unit
  pre _ _ := M.W.ok (M.W.mk w h s n x y lo hi) ∧ 0 ≤ d ∧ d ≤ 7 ∧ 0 ≤ c ∧ c < w * h ∧ 1 ≤ dh ∧ dh ≤ 10000 ∧ 0 ≤ v1 ∧ v1 ≤ 10000 ∧ 0 ≤ lg ∧ lg ≤ 1420000
  cnt _ := M.W.fetchN (M.W.mk w h s n x y lo hi) c d false
  f _ k := [SI (M.rayC w c d k), .agg (dep w h s n x y lo hi c d k)]
  SA _ := [(5, .ptr 0 0), (7, .ptr 1 0), (16, .fn 108 [] [.sptr 6 1 (fun _ => [SI w, SI h, SI s, .sl 2 n (fun k => [SI (x k), SI (y k)]), SI lo, SI hi]) 0 0, .sptr 1 1 (fun _ => [SI c]) 0 0, .sptr 1 1 (fun _ => [SI d]) 0 0, .sptr 1 1 (fun _ => [.bool false]) 0 0])]
  mf := 2
  n0 := 2
  SH _ k := [(0, .cells [.fn 116 [] [.sptr 11 1 (fun _ => [SI w', SI h', SI s', .sl 2 n' (fun k => [SI (x' k), SI (y' k)]), SI lo', SI hi', SI dl, SI dh, SI ll', SI lh', SI c']) 0 0, .sptr 2 1 (fun _ => [SI v0, SI v1]) 0 0, .sptr 1 1 (fun _ => [SI lg]) 0 0]]), (1, .cells [SI (M.sum (u114b w h s n x y lo hi c d dh v1 lg) k)])]
def Rq114b (w h s : Int) (n : Nat) (x y : Nat → Int) (lo hi : Int) (d c : Int) (dl0 dh0 ll lh : Int) (w' h' s' : Int) (n' : Nat) (x' y' : Nat → Int) (lo' hi' dl dh ll' lh' c' : Int) (v0 v1 lg : Int)  (k : Nat) : Prop := (∀ (k : Nat), k < n' → x' k = x' k ∧ y' k = y' k) ∧ (1 : Int) ≤ dh ∧ dh ≤ (10000 : Int) ∧ (0 : Int) ≤ v1 ∧ v1 ≤ (10000 : Int) ∧ (0 : Int) ≤ lg ∧ lg ≤ (1420000 : Int) ∧ M.W.dlo (M.W.mk w h s n x y lo hi) (M.rayC w c d k) ≤ (1220000 : Int) ∧ R64 (M.sum (fun k => M.thi dh v1 lg (M.W.dlo (M.W.mk w h s n x y lo hi) (M.rayC w c d k))) k + M.thi dh v1 lg (M.W.dlo (M.W.mk w h s n x y lo hi) (M.rayC w c d k))) ∧ (M.W.ok (M.W.mk w h s n x y lo hi) ∧ (0 : Int) ≤ d ∧ d ≤ (7 : Int) ∧ (0 : Int) ≤ c ∧ c < w * h ∧ (1 : Int) ≤ dh ∧ dh ≤ (10000 : Int) ∧ (0 : Int) ≤ v1 ∧ v1 ≤ (10000 : Int) ∧ (0 : Int) ≤ lg ∧ lg ≤ (1420000 : Int)) ∧ (1 : Nat) = (1 : Nat) ∧ (0 : Nat) = (0 : Nat) ∧ (∀ (q : Nat), q < (1 : Nat) → w' = w' ∧ h' = h' ∧ s' = s' ∧ (n' = n' ∧ ∀ (k : Nat), k < n' → x' k = x' k ∧ y' k = y' k) ∧ lo' = lo' ∧ hi' = hi' ∧ dl = dl ∧ dh = dh ∧ ll' = ll' ∧ lh' = lh' ∧ c' = c') ∧ (1 : Nat) = (1 : Nat) ∧ (0 : Nat) = (0 : Nat) ∧ (∀ (q : Nat), q < (1 : Nat) → v0 = v0 ∧ v1 = v1) ∧ (1 : Nat) = (1 : Nat) ∧ (0 : Nat) = (0 : Nat) ∧ (∀ (q : Nat), q < (1 : Nat) → lg = lg) ∧ M.sum (fun k => M.thi dh v1 lg (M.W.dlo (M.W.mk w h s n x y lo hi) (M.rayC w c d k))) k + M.thi dh v1 lg (M.W.dlo (M.W.mk w h s n x y lo hi) (M.rayC w c d k)) = M.sum (fun k => M.thi dh v1 lg (M.W.dlo (M.W.mk w h s n x y lo hi) (M.rayC w c d k))) (k + (1 : Nat)) ∧ True
theorem q114b (w h s : Int) (n : Nat) (x y : Nat → Int) (lo hi : Int) (d c : Int) (dl0 dh0 ll lh : Int) (w' h' s' : Int) (n' : Nat) (x' y' : Nat → Int) (lo' hi' dl dh ll' lh' c' : Int) (v0 v1 lg : Int)  (k : Nat) : VR true [] [(116, pureE e116)] YS.none Try.f114 [0,1,2,3,5,6,7,9,16,18] [] 0 (lp114b w h s n x y lo hi d c dl0 dh0 ll lh w' h' s' n' x' y' lo' hi' dl dh ll' lh' c' v0 v1 lg) (()) k = Rq114b w h s n x y lo hi d c dl0 dh0 ll lh w' h' s' n' x' y' lo' hi' dl dh ll' lh' c' v0 v1 lg k := by kernel_rfl
theorem peq114b (w h s : Int) (n : Nat) (x y : Nat → Int) (lo hi : Int) (d c : Int) (dl0 dh0 ll lh : Int) (w' h' s' : Int) (n' : Nat) (x' y' : Nat → Int) (lo' hi' dl dh ll' lh' c' : Int) (v0 v1 lg : Int)  (k : Nat) : (lp114b w h s n x y lo hi d c dl0 dh0 ll lh w' h' s' n' x' y' lo' hi' dl dh ll' lh' c' v0 v1 lg).pre (()) k = (M.W.ok (M.W.mk w h s n x y lo hi) ∧
  (0 : Int) ≤ d ∧
    d ≤ (7 : Int) ∧
      (0 : Int) ≤ c ∧ c < w * h ∧ (1 : Int) ≤ dh ∧ dh ≤ (10000 : Int) ∧ (0 : Int) ≤ v1 ∧ v1 ≤ (10000 : Int) ∧ (0 : Int) ≤ lg ∧ lg ≤ (1420000 : Int)) := by kernel_rfl
theorem ceq114b (w h s : Int) (n : Nat) (x y : Nat → Int) (lo hi : Int) (d c : Int) (dl0 dh0 ll lh : Int) (w' h' s' : Int) (n' : Nat) (x' y' : Nat → Int) (lo' hi' dl dh ll' lh' c' : Int) (v0 v1 lg : Int)  (k : Nat) : (k < (lp114b w h s n x y lo hi d c dl0 dh0 ll lh w' h' s' n' x' y' lo' hi' dl dh ll' lh' c' v0 v1 lg).cnt (())) = (k < M.W.fetchN (M.W.mk w h s n x y lo hi) c d false) := by kernel_rfl
theorem bq114b (w h s : Int) (n : Nat) (x y : Nat → Int) (lo hi : Int) (d c : Int) (dl0 dh0 ll lh : Int) (w' h' s' : Int) (n' : Nat) (x' y' : Nat → Int) (lo' hi' dl dh ll' lh' c' : Int) (v0 v1 lg : Int)  (k : Nat) (hk : k < M.W.fetchN (M.W.mk w h s n x y lo hi) c d false) (hp : M.W.ok (M.W.mk w h s n x y lo hi) ∧
  (0 : Int) ≤ d ∧
    d ≤ (7 : Int) ∧
      (0 : Int) ≤ c ∧ c < w * h ∧ (1 : Int) ≤ dh ∧ dh ≤ (10000 : Int) ∧ (0 : Int) ≤ v1 ∧ v1 ≤ (10000 : Int) ∧ (0 : Int) ≤ lg ∧ lg ≤ (1420000 : Int)) : Rq114b w h s n x y lo hi d c dl0 dh0 ll lh w' h' s' n' x' y' lo' hi' dl dh ll' lh' c' v0 v1 lg k := by
  unfold Rq114b
  obtain ⟨hok, hd, hd', hc, hc', h1, h2, h3, h4, h5, h6⟩ := id hp
  have hf := fun j (hj : j < M.W.fetchN (M.W.mk w h s n x y lo hi) c d false) => W_fetch hok hd hd' hc hc' hj
  have hb := sum_bd (f := u114b w h s n x y lo hi c d dh v1 lg) (fetchN_23 hok hd hd' hc hc' false) (fun j hj => by
    have := hf j hj
    exact (M.thi_bd h1 h2 h3 h4 h5 h6 this.2.2.2.2).2.2.2.2.2.2)
  have hb0 := hb k (by omega)
  have hb1 := hb (k + 1) (by omega)
  have hk' := hf k hk
  simp only [u114b, M.sum] at hb0 hb1
  refine ⟨by simp, ?_⟩
  simp [R64, M.sum, *]
  repeat' apply And.intro
  all_goals first | omega | grind
theorem t114b (w h s : Int) (n : Nat) (x y : Nat → Int) (lo hi : Int) (d c : Int) (dl0 dh0 ll lh : Int) (w' h' s' : Int) (n' : Nat) (x' y' : Nat → Int) (lo' hi' dl dh ll' lh' c' : Int) (v0 v1 lg : Int) {F : Fence} (hF : FOK F) (hr : F.round = none) (Y : YEnv PP YS.none) : ∀ Q A H nx, rangeT false Try.f114.ntmps 0 (rfFn (blkAt 0 Try.f114)) 108 j108 (lp114b w h s n x y lo hi d c dl0 dh0 ll lh w' h' s' n' x' y' lo' hi' dl dh ll' lh' c' v0 v1 lg) (fun _ _ _ => ()) Q A H nx → WPS Y F Try.f114.ntmps 0 (.block 0 (blkAt 0 Try.f114)) Q A H nx :=
  rangeW (E := []) (.nil) (O := [(116, pureE e116)]) (.cons (pureE_ok s116) (.nil)) (ck := true) (L := [0,1,2,3,5,6,7,9,16,18]) (f := Try.f114) (m := 0) (id := 0) (l := (lp114b w h s n x y lo hi d c dl0 dh0 ll lh w' h' s' n' x' y' lo' hi' dl dh ll' lh' c' v0 v1 lg)) (LI := []) Y hF hr i108 (by kernel_rfl) (fun _ _ => by kernel_rfl) (by kernel_rfl) (fun _ => .nil) (fun _ => .nil) (by
    rintro ⟨⟩ k hk hp
    exact Hold.of (q114b w h s n x y lo hi d c dl0 dh0 ll lh w' h' s' n' x' y' lo' hi' dl dh ll' lh' c' v0 v1 lg k) (bq114b w h s n x y lo hi d c dl0 dh0 ll lh w' h' s' n' x' y' lo' hi' dl dh ll' lh' c' v0 v1 lg k ((ceq114b w h s n x y lo hi d c dl0 dh0 ll lh w' h' s' n' x' y' lo' hi' dl dh ll' lh' c' v0 v1 lg k).mp hk) ((peq114b w h s n x y lo hi d c dl0 dh0 ll lh w' h' s' n' x' y' lo' hi' dl dh ll' lh' c' v0 v1 lg k).mp hp)))
def e114b : List SV → Option (List Prop × SV)
  | [.bool false, .fn 116 [] [.sptr 11 1 F_1 0 0, .sptr 2 1 F_2 0 0, .sptr 1 1 F_3 0 0], .sptr 11 1 F_4 0 0, .sptr 1 1 F_5 0 0] => match F_1 0, F_2 0, F_3 0, F_4 0, F_5 0 with
    | [.int .i64 w', .int .i64 h', .int .i64 s', .sl 2 n' g_6, .int .i64 lo', .int .i64 hi', .int .i64 dl, .int .i64 dh, .int .i64 ll', .int .i64 lh', .int .i64 c'], [.int .i64 v0, .int .i64 v1], [.int .i64 lg], [.int .i64 w, .int .i64 h, .int .i64 s, .sl 2 n g_7, .int .i64 lo, .int .i64 hi, .int .i64 dl0, .int .i64 dh0, .int .i64 ll, .int .i64 lh, .int .i64 c], [.int .i64 d] => some ([Row 2 n' g_6, Row 2 n g_7, M.W.ok (M.W.mk w h s n (cI g_7 0) (cI g_7 1) lo hi), 0 ≤ d, d ≤ 7, 0 ≤ c, c < w * h, 1 ≤ dh, dh ≤ 10000, 0 ≤ v1, v1 ≤ 10000, 0 ≤ lg, lg ≤ 1420000], SI (M.sum (u114b w h s n (cI g_7 0) (cI g_7 1) lo hi c d dh v1 lg) (M.W.fetchN (M.W.mk w h s n (cI g_7 0) (cI g_7 1) lo hi) c d false)))
    | _, _, _, _, _ => none
  | _ => none
def Rr114b (w h s : Int) (n : Nat) (x y : Nat → Int) (lo hi : Int) (d c : Int) (dl0 dh0 ll lh : Int) (w' h' s' : Int) (n' : Nat) (x' y' : Nat → Int) (lo' hi' dl dh ll' lh' c' : Int) (v0 v1 lg : Int) : Prop := (0 : Nat) < (1 : Nat) ∧ (0 : Nat) < (1 : Nat) ∧ (0 : Nat) < (1 : Nat) ∧ (∀ (k : Nat), k < n → x k = x k ∧ y k = y k) ∧ (M.W.ok (M.W.mk w h s n x y lo hi) ∧ (0 : Int) ≤ d ∧ d ≤ (7 : Int) ∧ (0 : Int) ≤ c ∧ c < w * h ∧ (1 : Int) ≤ dh ∧ dh ≤ (10000 : Int) ∧ (0 : Int) ≤ v1 ∧ v1 ≤ (10000 : Int) ∧ (0 : Int) ≤ lg ∧ lg ≤ (1420000 : Int)) ∧ ((1 : Nat) = (1 : Nat) ∧ (0 : Nat) = (0 : Nat) ∧ (∀ (q : Nat), q < (1 : Nat) → w = w ∧ h = h ∧ s = s ∧ (n = n ∧ ∀ (k : Nat), k < n → x k = x k ∧ y k = y k) ∧ lo = lo ∧ hi = hi) ∧ (1 : Nat) = (1 : Nat) ∧ (0 : Nat) = (0 : Nat) ∧ (∀ (q : Nat), q < (1 : Nat) → c = c) ∧ (1 : Nat) = (1 : Nat) ∧ (0 : Nat) = (0 : Nat) ∧ (∀ (q : Nat), q < (1 : Nat) → d = d) ∧ (1 : Nat) = (1 : Nat) ∧ (0 : Nat) = (0 : Nat) ∧ (∀ (q : Nat), q < (1 : Nat) → false = false) ∧ (1 : Nat) = (1 : Nat) ∧ (0 : Nat) = (0 : Nat) ∧ (∀ (q : Nat), q < (1 : Nat) → w' = w' ∧ h' = h' ∧ s' = s' ∧ (n' = n' ∧ ∀ (k : Nat), k < n' → x' k = x' k ∧ y' k = y' k) ∧ lo' = lo' ∧ hi' = hi' ∧ dl = dl ∧ dh = dh ∧ ll' = ll' ∧ lh' = lh' ∧ c' = c') ∧ (1 : Nat) = (1 : Nat) ∧ (0 : Nat) = (0 : Nat) ∧ (∀ (q : Nat), q < (1 : Nat) → v0 = v0 ∧ v1 = v1) ∧ (1 : Nat) = (1 : Nat) ∧ (0 : Nat) = (0 : Nat) ∧ (∀ (q : Nat), q < (1 : Nat) → lg = lg) ∧ (0 : Int) = M.sum (fun k => M.thi dh v1 lg (M.W.dlo (M.W.mk w h s n x y lo hi) (M.rayC w c d k))) (0 : Nat) ∧ True) ∧ ((∀ (k : Nat), k < n → x k = x k ∧ y k = y k) ∧ M.W.ok (M.W.mk w h s n x y lo hi) ∧ (0 : Int) ≤ d ∧ d ≤ (7 : Int) ∧ (0 : Int) ≤ c ∧ c < w * h ∧ M.W.fetchN (M.W.mk w h s n x y lo hi) c d false = M.W.fetchN (M.W.mk w h s n x y lo hi) c d false ∧ ∀ (k : Nat), k < M.W.fetchN (M.W.mk w h s n x y lo hi) c d false → [SV.int IntKind.i64 (M.rayC w c d k), SV.agg [SV.int IntKind.i64 (M.W.dlo (M.W.mk w h s n x y lo hi) (M.rayC w c d k)), SV.int IntKind.i64 (M.W.dhi (M.W.mk w h s n x y lo hi) (M.rayC w c d k))]] = [SV.int IntKind.i64 (M.rayC w c d k), SV.agg [SV.int IntKind.i64 (M.W.dlo (M.W.mk w h s n x y lo hi) (M.rayC w c d k)), SV.int IntKind.i64 (M.W.dhi (M.W.mk w h s n x y lo hi) (M.rayC w c d k))]]) ∧ (M.W.ok (M.W.mk w h s n x y lo hi) ∧ (0 : Int) ≤ d ∧ d ≤ (7 : Int) ∧ (0 : Int) ≤ c ∧ c < w * h ∧ (1 : Int) ≤ dh ∧ dh ≤ (10000 : Int) ∧ (0 : Int) ≤ v1 ∧ v1 ≤ (10000 : Int) ∧ (0 : Int) ≤ lg ∧ lg ≤ (1420000 : Int) → M.sum (fun k => M.thi dh v1 lg (M.W.dlo (M.W.mk w h s n x y lo hi) (M.rayC w c d k))) (M.W.fetchN (M.W.mk w h s n x y lo hi) c d false) = M.sum (fun k => M.thi dh v1 lg (M.W.dlo (M.W.mk w h s n x y lo hi) (M.rayC w c d k))) (M.W.fetchN (M.W.mk w h s n x y lo hi) c d false)) ∧ (∀ (k : Nat), k < M.W.fetchN (M.W.mk w h s n x y lo hi) c d false → M.W.ok (M.W.mk w h s n x y lo hi) ∧ (0 : Int) ≤ d ∧ d ≤ (7 : Int) ∧ (0 : Int) ≤ c ∧ c < w * h ∧ (1 : Int) ≤ dh ∧ dh ≤ (10000 : Int) ∧ (0 : Int) ≤ v1 ∧ v1 ≤ (10000 : Int) ∧ (0 : Int) ≤ lg ∧ lg ≤ (1420000 : Int) → False → True → False) ∧ ∀ (k : Nat), k < M.W.fetchN (M.W.mk w h s n x y lo hi) c d false → M.W.ok (M.W.mk w h s n x y lo hi) ∧ (0 : Int) ≤ d ∧ d ≤ (7 : Int) ∧ (0 : Int) ≤ c ∧ c < w * h ∧ (1 : Int) ≤ dh ∧ dh ≤ (10000 : Int) ∧ (0 : Int) ≤ v1 ∧ v1 ≤ (10000 : Int) ∧ (0 : Int) ≤ lg ∧ lg ≤ (1420000 : Int) → False → True → False
theorem r114b (w h s : Int) (n : Nat) (x y : Nat → Int) (lo hi : Int) (d c : Int) (dl0 dh0 ll lh : Int) (w' h' s' : Int) (n' : Nat) (x' y' : Nat → Int) (lo' hi' dl dh ll' lh' c' : Int) (v0 v1 lg : Int) : V true [] [(89, pureE e89)] Try.f114 [0,1,2,3,5,6,7,9,16,18] [(0, rangeT false Try.f114.ntmps 0 (rfFn (blkAt 0 Try.f114)) 108 j108 (lp114b w h s n x y lo hi d c dl0 dh0 ll lh w' h' s' n' x' y' lo' hi' dl dh ll' lh' c' v0 v1 lg) (fun _ _ _ => ()))] [.bool false, .fn 116 [] [.sptr 11 1 (fun _ => [SI w', SI h', SI s', .sl 2 n' (fun k => [SI (x' k), SI (y' k)]), SI lo', SI hi', SI dl, SI dh, SI ll', SI lh', SI c']) 0 0, .sptr 2 1 (fun _ => [SI v0, SI v1]) 0 0, .sptr 1 1 (fun _ => [SI lg]) 0 0], .sptr 11 1 (fun _ => [SI w, SI h, SI s, .sl 2 n (fun k => [SI (x k), SI (y k)]), SI lo, SI hi, SI dl0, SI dh0, SI ll, SI lh, SI c]) 0 0, .sptr 1 1 (fun _ => [SI d]) 0 0] (SI (M.sum (u114b w h s n x y lo hi c d dh v1 lg) (M.W.fetchN (M.W.mk w h s n x y lo hi) c d false))) = Rr114b w h s n x y lo hi d c dl0 dh0 ll lh w' h' s' n' x' y' lo' hi' dl dh ll' lh' c' v0 v1 lg := by kernel_rfl
theorem br114b (w h s : Int) (n : Nat) (x y : Nat → Int) (lo hi : Int) (d c : Int) (dl0 dh0 ll lh : Int) (w' h' s' : Int) (n' : Nat) (x' y' : Nat → Int) (lo' hi' dl dh ll' lh' c' : Int) (v0 v1 lg : Int) (hp : (M.W.ok (M.W.mk w h s n x y lo hi)) ∧ (0 ≤ d) ∧ (d ≤ 7) ∧ (0 ≤ c) ∧ (c < w * h) ∧ (1 ≤ dh) ∧ (dh ≤ 10000) ∧ (0 ≤ v1) ∧ (v1 ≤ 10000) ∧ (0 ≤ lg) ∧ (lg ≤ 1420000) ∧ AllP []) : Rr114b w h s n x y lo hi d c dl0 dh0 ll lh w' h' s' n' x' y' lo' hi' dl dh ll' lh' c' v0 v1 lg := by
  unfold Rr114b
  obtain ⟨hok, hd, hd', hc, hc', h1, h2, h3, h4, h5, h6, -⟩ := id hp
  simp [*, M.sum]
theorem s114b : PureOK PP 114 e114b := by
  intro xs ps res h hp
  unfold e114b at h
  split at h
  · rename_i F_1 F_2 F_3 F_4 F_5
    split at h
    · rename_i w' h' s' n' g_6 lo' hi' dl dh ll' lh' c' v0 v1 lg w h s n g_7 lo hi dl0 dh0 ll lh c d EF_1 EF_2 EF_3 EF_4 EF_5
      simp only [Option.some.injEq, Prod.mk.injEq] at h
      obtain ⟨rfl, rfl⟩ := h
      simp only [AllP.cons] at hp
      obtain ⟨Hg_6, hp⟩ := hp
      obtain ⟨Hg_7, hp⟩ := hp
      refine Spec.args (ys := [.bool false, .fn 116 [] [.sptr 11 1 (fun _ => [SI w', SI h', SI s', .sl 2 n' (fun k => [SI ((cI g_6 0) k), SI ((cI g_6 1) k)]), SI lo', SI hi', SI dl, SI dh, SI ll', SI lh', SI c']) 0 0, .sptr 2 1 (fun _ => [SI v0, SI v1]) 0 0, .sptr 1 1 (fun _ => [SI lg]) 0 0], .sptr 11 1 (fun _ => [SI w, SI h, SI s, .sl 2 n (fun k => [SI ((cI g_7 0) k), SI ((cI g_7 1) k)]), SI lo, SI hi, SI dl0, SI dh0, SI ll, SI lh, SI c]) 0 0, .sptr 1 1 (fun _ => [SI d]) 0 0]) ?_ (.cons (.refl _) (.cons (.fn (.refl _) (.cons (.ref EF_1 (.cons (.refl _) (.cons (.refl _) (.cons (.refl _) (.cons (.row Hg_6 fun _ => rfl) (.cons (.refl _) (.cons (.refl _) (.cons (.refl _) (.cons (.refl _) (.cons (.refl _) (.cons (.refl _) (.cons (.refl _) .nil)))))))))))) (.cons (.ref EF_2 (.refl _)) (.cons (.ref EF_3 (.refl _)) .nil)))) (.cons (.ref EF_4 (.cons (.refl _) (.cons (.refl _) (.cons (.refl _) (.cons (.row Hg_7 fun _ => rfl) (.cons (.refl _) (.cons (.refl _) (.cons (.refl _) (.cons (.refl _) (.cons (.refl _) (.cons (.refl _) (.cons (.refl _) .nil)))))))))))) (.cons (.ref EF_5 (.refl _)) .nil))))
      refine enter (L := [0,1,2,3,5,6,7,9,16,18]) (LO := [(0, rangeT false Try.f114.ntmps 0 (rfFn (blkAt 0 Try.f114)) 108 j108 (lp114b w h s n (cI g_7 0) (cI g_7 1) lo hi d c dl0 dh0 ll lh w' h' s' n' (cI g_6 0) (cI g_6 1) lo' hi' dl dh ll' lh' c' v0 v1 lg) (fun _ _ _ => ()))]) (E := []) (O := [(89, pureE e89)]) (ck := true) (.nil) (.cons (pureE_ok s89) (.nil)) (k := 114) (f := Try.f114) (xs := [.bool false, .fn 116 [] [.sptr 11 1 (fun _ => [SI w', SI h', SI s', .sl 2 n' (fun k => [SI ((cI g_6 0) k), SI ((cI g_6 1) k)]), SI lo', SI hi', SI dl, SI dh, SI ll', SI lh', SI c']) 0 0, .sptr 2 1 (fun _ => [SI v0, SI v1]) 0 0, .sptr 1 1 (fun _ => [SI lg]) 0 0], .sptr 11 1 (fun _ => [SI w, SI h, SI s, .sl 2 n (fun k => [SI ((cI g_7 0) k), SI ((cI g_7 1) k)]), SI lo, SI hi, SI dl0, SI dh0, SI ll, SI lh, SI c]) 0 0, .sptr 1 1 (fun _ => [SI d]) 0 0]) (r := (SI (M.sum (u114b w h s n (cI g_7 0) (cI g_7 1) lo hi c d dh v1 lg) (M.W.fetchN (M.W.mk w h s n (cI g_7 0) (cI g_7 1) lo hi) c d false)))) (by kernel_rfl) (by kernel_rfl) (fun Y => .cons (by kernel_rfl) (t114b w h s n (cI g_7 0) (cI g_7 1) lo hi d c dl0 dh0 ll lh w' h' s' n' (cI g_6 0) (cI g_6 1) lo' hi' dl dh ll' lh' c' v0 v1 lg FOK.wide rfl Y) (.nil)) ?_
      exact Hold.of (r114b w h s n (cI g_7 0) (cI g_7 1) lo hi d c dl0 dh0 ll lh w' h' s' n' (cI g_6 0) (cI g_6 1) lo' hi' dl dh ll' lh' c' v0 v1 lg) (br114b w h s n (cI g_7 0) (cI g_7 1) lo hi d c dl0 dh0 ll lh w' h' s' n' (cI g_6 0) (cI g_6 1) lo' hi' dl dh ll' lh' c' v0 v1 lg hp)
    · cases h
  · cases h
end Go.Proofs.Ytkklmkogdogbkaa.Sep
/-
  What the stage 'surge' computes, in plain numbers: setups, steady states, runs. No condition. (This text proves no statement by itself.)
-/
namespace Go.Proofs.Ytkklmkogdogbkaa.M
/-- The error of water. -/
def W.chk (g : W) : Int := if gridE g.w g.h g.s g.n g.x g.y = 0 then if within g.lo g.hi (-20000) 20000 then 0 else 3 else gridE g.w g.h g.s g.n g.x g.y
theorem gridE_iff {w h s : Int} {n : Nat} {x y : Nat → Int} : gridE w h s n x y = 0 ↔ 1 ≤ w ∧ w ≤ 24 ∧ 1 ≤ h ∧ h ≤ 24 ∧ 1 ≤ s ∧ s ≤ 10000 ∧ (n : Int) = w * h ∧ ∀ k, k < n → okS x y k = true := by
  unfold gridE
  rw [← allB_iff]
  split
  · rename_i h1
    simp only [Bool.and_eq_true, decide_eq_true_eq] at h1
    split
    · rename_i h2
      split
      · rename_i h3; exact ⟨fun _ => ⟨by omega, by omega, by omega, by omega, by omega, by omega, h2, h3⟩, fun _ => rfl⟩
      · rename_i h3; exact ⟨fun h => absurd h (by decide), fun h => (h3 h.2.2.2.2.2.2.2).elim⟩
    · rename_i h2; exact ⟨fun h => absurd h (by decide), fun h => (h2 h.2.2.2.2.2.2.1).elim⟩
  · rename_i h1
    simp only [Bool.and_eq_true, decide_eq_true_eq] at h1
    constructor
    · intro h; cases h
    · intro h; exact (h1 (by omega)).elim
theorem W.chk_iff {g : W} : g.chk = 0 ↔ g.ok := by
  unfold chk
  constructor
  · intro h
    have h1 : gridE g.w g.h g.s g.n g.x g.y = 0 := by
      split at h
      · assumption
      · exact h
    rw [if_pos h1] at h
    have h2 : within g.lo g.hi (-20000) 20000 = true := by
      split at h
      · assumption
      · cases h
    obtain ⟨a1, a2, a3, a4, a5, a6, a7, a8⟩ := gridE_iff.1 h1
    simp only [within, Bool.and_eq_true, decide_eq_true_eq] at h2
    refine ⟨a1, a2, a3, a4, a5, a6, a7, fun k hk => ?_, h2.1.1, h2.1.2, h2.2⟩
    have := a8 k hk
    simp only [okS, within, Bool.and_eq_true, decide_eq_true_eq] at this
    omega
  · intro h
    rw [if_pos (gridE_iff.2 ⟨h.w1, h.w2, h.h1, h.h2, h.s1, h.s2, h.nn, fun k hk => ?_⟩), if_pos]
    · have := h.s3; have := h.s4; have := h.s5
      simp only [within, Bool.and_eq_true, decide_eq_true_eq]; omega
    · have := h.gr k hk
      simp only [okS, within, Bool.and_eq_true, decide_eq_true_eq]; omega
def W.hasE (g : W) (c : Int) : Int := if decide (c < 0) || decide (g.w * g.h ≤ c) then 4 else 0
def modelE (a b c d : Int) : Int := if within a b 1 10000 && within c d 1 1024 then 0 else 3
/-- The error of a place. -/
def P.atE (p : P) : Int := if p.chk = 0 then if modelE p.dl p.dh p.ll p.lh = 0 then p.hasE p.c else modelE p.dl p.dh p.ll p.lh else p.chk
theorem P.atE_iff {p : P} : p.atE = 0 ↔ p.ok := by
  unfold atE
  constructor
  · intro h
    have h1 : p.chk = 0 := by
      split at h
      · assumption
      · exact h
    rw [if_pos h1] at h
    have h2 : modelE p.dl p.dh p.ll p.lh = 0 := by
      split at h
      · assumption
      · exact h
    rw [if_pos h2] at h
    have h3 := W.chk_iff.1 h1
    unfold modelE at h2
    unfold W.hasE at h
    have h4 : within p.dl p.dh 1 10000 && within p.ll p.lh 1 1024 := by
      split at h2
      · assumption
      · cases h2
    have h5 : ¬ (decide (p.c < 0) || decide (p.w * p.h ≤ p.c)) := by
      intro h6; rw [if_pos h6] at h; cases h
    simp only [within, Bool.and_eq_true, decide_eq_true_eq, Bool.or_eq_true, not_or] at h4 h5
    refine ⟨h3, ?_, ?_, ?_, ?_, ?_, ?_, ?_, ?_⟩ <;> omega
  · intro h
    have := h.d1; have := h.d2; have := h.d3; have := h.l1; have := h.l2; have := h.l3; have := h.c1; have := h.c2
    have h2 : modelE p.dl p.dh p.ll p.lh = 0 := by
      unfold modelE
      rw [if_pos]
      simp only [within, Bool.and_eq_true, decide_eq_true_eq]; omega
    rw [if_pos (W.chk_iff.2 h.g), if_pos h2]
    unfold W.hasE
    rw [if_neg]
    simp only [Bool.or_eq_true, decide_eq_true_eq]; omega
/-- The setup of a direction. -/
def P.slo (p : P) (d v0 v1 : Int) : Int := p.rlo ((d + 4).tmod 8) v0 - p.rhi d v1
def P.shi (p : P) (d v0 v1 : Int) : Int := p.rhi ((d + 4).tmod 8) v1 - p.rlo d v0
theorem P.ok.setup {p : P} (h : p.ok) {d v0 v1 : Int} (hd : 0 ≤ d) (hd' : d ≤ 7) (hv : 0 ≤ v0) (hv' : v0 ≤ v1) (hv2 : v1 ≤ 10000) :
    -8522905553 ≤ p.slo d v0 v1 ∧ p.slo d v0 v1 ≤ 8522905553 ∧ -8522905553 ≤ p.shi d v0 v1 ∧ p.shi d v0 v1 ≤ 8522905553 := by
  have h1 := h.rise hd hd' hv hv' hv2
  have h2 := h.rise (d := (d + 4).tmod 8) (Int.tmod_nonneg _ (by omega)) (by have := Int.tmod_lt_of_pos (d + 4) (show (0 : Int) < 8 by omega); omega) hv hv' hv2
  unfold slo shi
  omega
/-- The error of a setup. -/
def P.setE (p : P) (d v0 v1 : Int) : Int := if p.atE = 0 then if decide (d < 0) || decide (7 < d) || !within v0 v1 0 10000 then 3 else 0 else p.atE
def has (m : Int) (d : Nat) : Bool := decide ((m.toNat / 2 ^ d) % 2 = 1)
/-- The directions of a mask. -/
def sets (m : Int) : Nat → List Int
  | 0 => []
  | d + 1 => if has m d then sets m d ++ [(d : Int)] else sets m d
theorem sets_mem {m : Int} {x : Int} : ∀ {d : Nat}, x ∈ sets m d ↔ ∃ e : Nat, e < d ∧ has m e = true ∧ x = e
  | 0 => by simp [sets]
  | d + 1 => by
    simp only [sets]
    split
    · rename_i h
      simp only [List.mem_append, List.mem_singleton, sets_mem (d := d)]
      constructor
      · rintro (⟨e, h1, h2, h3⟩ | h1)
        · exact ⟨e, by omega, h2, h3⟩
        · exact ⟨d, by omega, h, h1⟩
      · rintro ⟨e, h1, h2, h3⟩
        by_cases e' : e = d
        · subst e'; exact .inr h3
        · exact .inl ⟨e, by omega, h2, h3⟩
    · rename_i h
      rw [sets_mem (d := d)]
      constructor
      · rintro ⟨e, h1, h2, h3⟩
        exact ⟨e, by omega, h2, h3⟩
      · rintro ⟨e, h1, h2, h3⟩
        by_cases e' : e = d
        · subst e'; exact (h h2).elim
        · exact ⟨e, by omega, h2, h3⟩
/-- How many directions a mask has. -/
def cntS (m : Int) (d : Nat) : Nat := (sets m d).length
theorem sets_len (m : Int) : ∀ d, (sets m d).length ≤ d
  | 0 => by simp [sets]
  | d + 1 => by
    have := sets_len m d
    simp only [sets]
    split <;> simp <;> omega
theorem sets_pos {m : Int} (h1 : 1 ≤ m) (h2 : m ≤ 255) : 1 ≤ cntS m 8 := by
  obtain ⟨n, rfl⟩ : ∃ n : Nat, m = n := ⟨m.toNat, by omega⟩
  have h : ∃ e : Nat, e < 8 ∧ has n e = true := by
    simp only [has, Int.toNat_natCast, decide_eq_true_eq]
    by_cases e0 : n / 2 ^ 0 % 2 = 1
    · exact ⟨0, by omega, e0⟩
    by_cases e1 : n / 2 ^ 1 % 2 = 1
    · exact ⟨1, by omega, e1⟩
    by_cases e2 : n / 2 ^ 2 % 2 = 1
    · exact ⟨2, by omega, e2⟩
    by_cases e3 : n / 2 ^ 3 % 2 = 1
    · exact ⟨3, by omega, e3⟩
    by_cases e4 : n / 2 ^ 4 % 2 = 1
    · exact ⟨4, by omega, e4⟩
    by_cases e5 : n / 2 ^ 5 % 2 = 1
    · exact ⟨5, by omega, e5⟩
    by_cases e6 : n / 2 ^ 6 % 2 = 1
    · exact ⟨6, by omega, e6⟩
    by_cases e7 : n / 2 ^ 7 % 2 = 1
    · exact ⟨7, by omega, e7⟩
    omega
  obtain ⟨e, h3, h4⟩ := h
  have := sets_mem.2 ⟨e, h3, h4, rfl⟩
  exact List.length_pos_of_mem this
theorem cntS_succ (m : Int) (d : Nat) : cntS m (d + 1) = if has m d then cntS m d + 1 else cntS m d := by
  simp only [cntS, sets]
  split <;> simp
theorem get_succ {m : Int} {d : Nat} (h : has m d = true) {k : Nat} (hk : k < cntS m d + 1) : (sets m (d + 1)).getD k 0 = if k < cntS m d then (sets m d).getD k 0 else d := by
  simp only [sets, if_pos h, List.getD_eq_getElem?_getD]
  unfold cntS at *
  split
  · rename_i h1; rw [List.getElem?_append_left h1]
  · rename_i h1
    rw [List.getElem?_append_right (by omega), show k - (sets m d).length = 0 by omega]; rfl
theorem cntS_le (m : Int) (d : Nat) : cntS m d ≤ d := sets_len m d
theorem sets_get {m : Int} {k d : Nat} (hk : k < cntS m d) : 0 ≤ (sets m d).getD k 0 ∧ (sets m d).getD k 0 < d := by
  have h : (sets m d).getD k 0 ∈ sets m d := by
    rw [List.getD_eq_getElem?_getD, List.getElem?_eq_getElem (show k < (sets m d).length from hk)]
    exact List.getElem_mem _
  obtain ⟨e, h1, h2, h3⟩ := sets_mem.1 h
  omega
def P.setLo (p : P) (m v0 v1 : Int) (d k : Nat) : Int := p.slo ((sets m d).getD k 0) v0 v1
def P.setHi (p : P) (m v0 v1 : Int) (d k : Nat) : Int := p.shi ((sets m d).getD k 0) v0 v1
/-- The steady state of a wind. -/
def P.stLo (p : P) (v0 v1 m q0 : Int) : Int := low (fun k => p.setLo m v0 v1 8 (k + 1)) (p.setLo m v0 v1 8 0) (cntS m 8 - 1) + 2560 * q0 / 981
def P.stHi (p : P) (v0 v1 m q1 : Int) : Int := high (fun k => p.setHi m v0 v1 8 (k + 1)) (p.setHi m v0 v1 8 0) (cntS m 8 - 1) + -(-(2560 * q1) / 981)
theorem low_bd {x : Nat → Int} {a l u : Int} (ha : l ≤ a ∧ a ≤ u) : ∀ {n : Nat}, (∀ k, k < n → l ≤ x k ∧ x k ≤ u) → l ≤ low x a n ∧ low x a n ≤ u
  | 0, _ => ha
  | n + 1, h => by
    have h1 := low_bd ha (n := n) fun k hk => h k (by omega)
    have h2 := h n (by omega)
    simp only [low]; omega
theorem high_bd {x : Nat → Int} {a l u : Int} (ha : l ≤ a ∧ a ≤ u) : ∀ {n : Nat}, (∀ k, k < n → l ≤ x k ∧ x k ≤ u) → l ≤ high x a n ∧ high x a n ≤ u
  | 0, _ => ha
  | n + 1, h => by
    have h1 := high_bd ha (n := n) fun k hk => h k (by omega)
    have h2 := h n (by omega)
    simp only [high]; omega
structure WindOk (v0 v1 m q0 q1 : Int) : Prop where
  a1 : 0 ≤ v0
  a2 : v0 ≤ v1
  a3 : v1 ≤ 10000
  a4 : 1 ≤ m
  a5 : m ≤ 255
  a6 : -20000 ≤ q0
  a7 : q0 ≤ q1
  a8 : q1 ≤ 20000
theorem wind_iff {v0 v1 m q0 q1 : Int} : wind v0 v1 m q0 q1 = true ↔ WindOk v0 v1 m q0 q1 := by
  simp only [wind, within, Bool.and_eq_true, decide_eq_true_eq]
  constructor
  · intro h; constructor <;> omega
  · intro h; have := h.a1; have := h.a2; have := h.a3; have := h.a4; have := h.a5; have := h.a6; have := h.a7; have := h.a8; omega
theorem P.ok.sets {p : P} (h : p.ok) {v0 v1 m q0 q1 : Int} (hw : WindOk v0 v1 m q0 q1) {k : Nat} (hk : k < cntS m 8) :
    -8522905553 ≤ p.setLo m v0 v1 8 k ∧ p.setLo m v0 v1 8 k ≤ 8522905553 ∧ -8522905553 ≤ p.setHi m v0 v1 8 k ∧ p.setHi m v0 v1 8 k ≤ 8522905553 := by
  have := sets_get hk
  exact h.setup this.1 (by omega) hw.a1 hw.a2 hw.a3
theorem P.ok.hull {p : P} (h : p.ok) {v0 v1 m q0 q1 : Int} (hw : WindOk v0 v1 m q0 q1) :
    -8522905553 ≤ low (fun k => p.setLo m v0 v1 8 (k + 1)) (p.setLo m v0 v1 8 0) (cntS m 8 - 1) ∧ low (fun k => p.setLo m v0 v1 8 (k + 1)) (p.setLo m v0 v1 8 0) (cntS m 8 - 1) ≤ 8522905553 ∧
    -8522905553 ≤ high (fun k => p.setHi m v0 v1 8 (k + 1)) (p.setHi m v0 v1 8 0) (cntS m 8 - 1) ∧ high (fun k => p.setHi m v0 v1 8 (k + 1)) (p.setHi m v0 v1 8 0) (cntS m 8 - 1) ≤ 8522905553 := by
  have h0 := sets_pos hw.a4 hw.a5
  have a := h.sets hw (k := 0) (by omega)
  have l := low_bd (x := fun k => p.setLo m v0 v1 8 (k + 1)) (a := p.setLo m v0 v1 8 0) (l := -8522905553) (u := 8522905553) ⟨a.1, a.2.1⟩ (n := cntS m 8 - 1) fun k hk => by
    have := h.sets hw (k := k + 1) (by omega); exact ⟨this.1, this.2.1⟩
  have r := high_bd (x := fun k => p.setHi m v0 v1 8 (k + 1)) (a := p.setHi m v0 v1 8 0) (l := -8522905553) (u := 8522905553) ⟨a.2.2.1, a.2.2.2⟩ (n := cntS m 8 - 1) fun k hk => by
    have := h.sets hw (k := k + 1) (by omega); exact ⟨this.2.2.1, this.2.2.2⟩
  exact ⟨l.1, l.2, r.1, r.2⟩
theorem P.ok.steady {p : P} (h : p.ok) {v0 v1 m q0 q1 : Int} (hw : WindOk v0 v1 m q0 q1) :
    -9000000000 ≤ p.stLo v0 v1 m q0 ∧ p.stLo v0 v1 m q0 ≤ 9000000000 ∧ -9000000000 ≤ p.stHi v0 v1 m q1 ∧ p.stHi v0 v1 m q1 ≤ 9000000000 := by
  have := h.hull hw
  have := hw.a6; have := hw.a7; have := hw.a8
  unfold stLo stHi
  omega
/-- One step towards a steady state. -/
def fLo (ll lh a c : Int) : Int := a + (if c < a then lh else ll) * (c - a) / 1024
def fHi (ll lh b d : Int) : Int := b + -(-((if d < b then ll else lh) * (d - b)) / 1024)
theorem mul_lag {l x B : Int} (h1 : 1 ≤ l) (h2 : l ≤ 1024) (hx : -B ≤ x) (hx' : x ≤ B) : -(1024 * B) ≤ l * x ∧ l * x ≤ 1024 * B ∧ (0 ≤ x → 0 ≤ l * x ∧ l * x ≤ 1024 * x) ∧ (x ≤ 0 → l * x ≤ 0 ∧ 1024 * x ≤ l * x) := by
  rcases Int.le_total 0 x with h | h
  · have a := Int.mul_nonneg (show 0 ≤ l by omega) h
    have b := Int.mul_le_mul_of_nonneg_right h2 h
    refine ⟨by omega, by omega, fun _ => ⟨a, b⟩, fun h' => ?_⟩
    have : x = 0 := by omega
    subst this; simp
  · have a := Int.mul_nonneg (show 0 ≤ l by omega) (show 0 ≤ -x by omega)
    have b := Int.mul_le_mul_of_nonneg_right h2 (show 0 ≤ -x by omega)
    rw [Int.mul_neg] at a b
    rw [Int.mul_neg] at b
    refine ⟨by omega, by omega, fun h' => ?_, fun _ => ⟨by omega, by omega⟩⟩
    have : x = 0 := by omega
    subst this; simp
theorem fLo_bd {ll lh a c B : Int} (h1 : 1 ≤ ll) (h2 : ll ≤ lh) (h3 : lh ≤ 1024) (ha : -B ≤ a ∧ a ≤ B) (hc : -B ≤ c ∧ c ≤ B) : -B ≤ fLo ll lh a c ∧ fLo ll lh a c ≤ B := by
  unfold fLo
  split
  · have := (mul_lag (l := lh) (x := c - a) (B := 2 * B) (by omega) h3 (by omega) (by omega)).2.2.2 (by omega)
    generalize lh * (c - a) = q at *
    omega
  · have := (mul_lag (l := ll) (x := c - a) (B := 2 * B) h1 (by omega) (by omega) (by omega)).2.2.1 (by omega)
    generalize ll * (c - a) = q at *
    omega
theorem fHi_bd {ll lh a c B : Int} (h1 : 1 ≤ ll) (h2 : ll ≤ lh) (h3 : lh ≤ 1024) (ha : -B ≤ a ∧ a ≤ B) (hc : -B ≤ c ∧ c ≤ B) : -B ≤ fHi ll lh a c ∧ fHi ll lh a c ≤ B := by
  unfold fHi
  split
  · have := (mul_lag (l := ll) (x := c - a) (B := 2 * B) h1 (by omega) (by omega) (by omega)).2.2.2 (by omega)
    generalize ll * (c - a) = q at *
    omega
  · have := (mul_lag (l := lh) (x := c - a) (B := 2 * B) (by omega) h3 (by omega) (by omega)).2.2.1 (by omega)
    generalize lh * (c - a) = q at *
    omega
/-- Winds. -/
structure Ws where
  n : Nat
  v0 : Nat → Int
  v1 : Nat → Int
  m : Nat → Int
  q0 : Nat → Int
  q1 : Nat → Int
def Ws.okW (g : Ws) (k : Nat) : Bool := wind (g.v0 k) (g.v1 k) (g.m k) (g.q0 k) (g.q1 k)
/-- The sea after k winds. -/
def P.rLo (p : P) (a : Int) (g : Ws) : Nat → Int
  | 0 => a
  | k + 1 => fLo p.ll p.lh (p.rLo a g k) (p.stLo (g.v0 k) (g.v1 k) (g.m k) (g.q0 k))
def P.rHi (p : P) (b : Int) (g : Ws) : Nat → Int
  | 0 => b
  | k + 1 => fHi p.ll p.lh (p.rHi b g k) (p.stHi (g.v0 k) (g.v1 k) (g.m k) (g.q1 k))
theorem P.ok.run {p : P} (h : p.ok) {a b : Int} {g : Ws} (ha : -1099511627776 ≤ a ∧ a ≤ 1099511627776) (hb : -1099511627776 ≤ b ∧ b ≤ 1099511627776) : ∀ {k : Nat}, (∀ j, j < k → g.okW j = true) →
    (-1099511627776 ≤ p.rLo a g k ∧ p.rLo a g k ≤ 1099511627776) ∧ -1099511627776 ≤ p.rHi b g k ∧ p.rHi b g k ≤ 1099511627776
  | 0, _ => ⟨ha, hb⟩
  | k + 1, hk => by
    have h1 := h.run ha hb (k := k) fun j hj => hk j (by omega)
    have h2 := h.steady (wind_iff.1 (hk k (by omega)))
    exact ⟨fLo_bd h.l1 h.l2 h.l3 h1.1 ⟨by omega, by omega⟩, fHi_bd h.l1 h.l2 h.l3 h1.2 ⟨by omega, by omega⟩⟩
/-- The error of a run. -/
def P.runE (p : P) (a b : Int) (g : Ws) : Int :=
  if p.atE = 0 then if within a b (-1099511627776) 1099511627776 then if 500 < g.n then 9 else if allB g.okW g.n then 0 else 3 else 3 else p.atE
def P.steadyE (p : P) (v0 v1 m q0 q1 : Int) : Int := if p.atE = 0 then if wind v0 v1 m q0 q1 then 0 else 3 else p.atE
/-- The first one that is greater. -/
def W.fetE (g : W) (c d : Int) : Int := if g.chk = 0 then if g.hasE c = 0 then if decide (d < 0) || decide (7 < d) then 3 else 0 else g.hasE c else g.chk
end Go.Proofs.Ytkklmkogdogbkaa.M
/-
  Contracts of setups, steady states and runs of the stage 'surge'. No condition. (This text proves no statement by itself.)
-/
namespace Go.Proofs.Ytkklmkogdogbkaa.Sep
open Go
set_option linter.unusedVariables false
set_option linter.unusedSimpArgs false
theorem and_mask (a : Int) (k : Nat) (hk : k ≤ 62) : IntKind.wrap .i64 ((BitVec.ofInt (IntKind.bits .i64) a &&& BitVec.ofInt (IntKind.bits .i64) ((2 ^ k - 1 : Nat) : Int)).toNat : Int) = a % 2 ^ k := by
  have h1 : (2 : Nat) ^ k ≤ 2 ^ 62 := Nat.pow_le_pow_right (by omega) hk
  have h2 : (BitVec.ofInt (IntKind.bits .i64) ((2 ^ k - 1 : Nat) : Int)).toNat = 2 ^ k - 1 := by
    rw [BitVec.ofInt_natCast, BitVec.toNat_ofNat, Nat.mod_eq_of_lt]
    show _ < 2 ^ 64
    omega
  rw [BitVec.toNat_and, h2, Nat.and_two_pow_sub_one_eq_mod, BitVec.toNat_ofInt]
  have h3 : ((a % ((2 ^ 64 : Nat) : Int)).toNat % 2 ^ k : Nat) = (a % 2 ^ k).toNat := by
    have e : (2 : Nat) ^ 64 = 2 ^ k * 2 ^ (64 - k) := by rw [← Nat.pow_add]; congr 1; omega
    have e2 : (((a % ((2 ^ 64 : Nat) : Int)).toNat % 2 ^ k : Nat) : Int) = ((a % 2 ^ k).toNat : Int) := by
      rw [Int.natCast_emod, Int.toNat_of_nonneg (Int.emod_nonneg _ (by decide)), Int.toNat_of_nonneg (Int.emod_nonneg _ (by have : (0 : Int) < 2 ^ k := Int.pow_pos (by omega); omega)), e, Int.natCast_mul]
      simp only [Int.natCast_pow, Int.cast_ofNat_Int]
      exact Int.emod_emod_of_dvd _ (Int.dvd_mul_right _ _)
    exact_mod_cast e2
  show IntKind.wrap .i64 (((a % ((2 ^ 64 : Nat) : Int)).toNat % 2 ^ k : Nat) : Int) = _
  rw [h3]
  have p : (0 : Int) < 2 ^ k := Int.pow_pos (by omega)
  have q := Int.emod_nonneg a (show (2 : Int) ^ k ≠ 0 by omega)
  have r := Int.emod_lt_of_pos a p
  have t : (2 : Int) ^ k ≤ 2 ^ 62 := by exact_mod_cast h1
  rw [Int.toNat_of_nonneg q]
  exact wrap_R64 (by unfold R64; omega)
theorem has_eq {m : Int} {d : Nat} (h1 : 0 ≤ m) (h2 : m ≤ 255) : decide (IntKind.wrap IntKind.i64 ((BitVec.toNat (BitVec.ofInt (IntKind.bits IntKind.i64) (Int.fdiv m (2 ^ min (Int.toNat (d : Int)) (IntKind.bits IntKind.i64))) &&& BitVec.ofInt (IntKind.bits IntKind.i64) 1)) : Int) = 1) = M.has m (min d 64) := by
  have e := and_mask (Int.fdiv m (2 ^ min (Int.toNat (d : Int)) (IntKind.bits IntKind.i64))) 1 (by omega)
  have e' : IntKind.wrap IntKind.i64 ((BitVec.toNat (BitVec.ofInt (IntKind.bits IntKind.i64) (Int.fdiv m (2 ^ min (Int.toNat (d : Int)) (IntKind.bits IntKind.i64))) &&& BitVec.ofInt (IntKind.bits IntKind.i64) 1)) : Int) = _ := e
  rw [e', Int.toNat_natCast]
  obtain ⟨n, rfl⟩ : ∃ n : Nat, m = n := ⟨m.toNat, by omega⟩
  show decide (Int.fdiv (n : Int) (2 ^ min d 64) % 2 ^ 1 = 1) = _
  have f : Int.fdiv (n : Int) (2 ^ min d 64) = ((n / 2 ^ min d 64 : Nat) : Int) := by
    rw [Int.fdiv_eq_ediv_of_nonneg _ (Int.pow_nonneg (by omega))]
    simp
  rw [f]
  unfold M.has
  rw [Int.toNat_natCast]
  generalize n / 2 ^ min d 64 = q
  rw [decide_eq_decide]
  omega
def e106 : List SV → Option (List Prop × SV)
  | [.agg [.int .i64 w, .int .i64 h, .int .i64 s, .sl 2 n g_1, .int .i64 lo, .int .i64 hi, .int .i64 dl, .int .i64 dh, .int .i64 ll, .int .i64 lh, .int .i64 c], .int .i64 d, .agg [.int .i64 v0, .int .i64 v1]] => some ([Row 2 n g_1, M.P.ok (M.P.mk (M.W.mk w h s n (cI g_1 0) (cI g_1 1) lo hi) dl dh ll lh c), 0 ≤ d, d ≤ 7, 0 ≤ v0, v0 ≤ v1, v1 ≤ 10000], .agg [SI (M.P.rlo (M.P.mk (M.W.mk w h s n (cI g_1 0) (cI g_1 1) lo hi) dl dh ll lh c) d v0), SI (M.P.rhi (M.P.mk (M.W.mk w h s n (cI g_1 0) (cI g_1 1) lo hi) dl dh ll lh c) d v1)])
  | _ => none
def Rr106 (w h s : Int) (n : Nat) (x y : Nat → Int) (lo hi dl dh ll lh c : Int) (d v0 v1 : Int) : Prop := R64 ((100 : Int) * s) ∧ R64 ((100 : Int) * s) ∧ (2 : Int) ≠ (0 : Int) ∧ (decide (Int.tmod d (2 : Int) = (1 : Int)) = true → R64 ((141 : Int) * s) ∧ R64 ((142 : Int) * s) ∧ (∀ (k : Nat), k < n → x k = x k ∧ y k = y k) ∧ (∀ (k : Nat), k < n → x k = x k ∧ y k = y k) ∧ M.W.ok (M.W.mk w h s n x y lo hi) ∧ (0 : Int) ≤ d ∧ d ≤ (7 : Int) ∧ (0 : Int) ≤ c ∧ c < w * h ∧ (1 : Int) ≤ dl ∧ dl ≤ (10000 : Int) ∧ (0 : Int) ≤ v0 ∧ v0 ≤ (10000 : Int) ∧ (0 : Int) ≤ (141 : Int) * s ∧ (141 : Int) * s ≤ (1420000 : Int) ∧ (∀ (k : Nat), k < n → x k = x k ∧ y k = y k) ∧ (∀ (k : Nat), k < n → x k = x k ∧ y k = y k) ∧ M.W.ok (M.W.mk w h s n x y lo hi) ∧ (0 : Int) ≤ d ∧ d ≤ (7 : Int) ∧ (0 : Int) ≤ c ∧ c < w * h ∧ (1 : Int) ≤ dh ∧ dh ≤ (10000 : Int) ∧ (0 : Int) ≤ v1 ∧ v1 ≤ (10000 : Int) ∧ (0 : Int) ≤ (142 : Int) * s ∧ (142 : Int) * s ≤ (1420000 : Int) ∧ M.sum (fun k => M.tlo dl v0 ((141 : Int) * s) (M.W.dhi (M.W.mk w h s n x y lo hi) (M.rayC w c d k))) (M.W.fetchN (M.W.mk w h s n x y lo hi) c d true) = M.P.rlo (M.P.mk (M.W.mk w h s n x y lo hi) dl dh ll lh c) d v0 ∧ M.sum (fun k => M.thi dh v1 ((142 : Int) * s) (M.W.dlo (M.W.mk w h s n x y lo hi) (M.rayC w c d k))) (M.W.fetchN (M.W.mk w h s n x y lo hi) c d false) = M.P.rhi (M.P.mk (M.W.mk w h s n x y lo hi) dl dh ll lh c) d v1) ∧ (decide (Int.tmod d (2 : Int) = (1 : Int)) = false → (∀ (k : Nat), k < n → x k = x k ∧ y k = y k) ∧ (∀ (k : Nat), k < n → x k = x k ∧ y k = y k) ∧ M.W.ok (M.W.mk w h s n x y lo hi) ∧ (0 : Int) ≤ d ∧ d ≤ (7 : Int) ∧ (0 : Int) ≤ c ∧ c < w * h ∧ (1 : Int) ≤ dl ∧ dl ≤ (10000 : Int) ∧ (0 : Int) ≤ v0 ∧ v0 ≤ (10000 : Int) ∧ (0 : Int) ≤ (100 : Int) * s ∧ (100 : Int) * s ≤ (1420000 : Int) ∧ (∀ (k : Nat), k < n → x k = x k ∧ y k = y k) ∧ (∀ (k : Nat), k < n → x k = x k ∧ y k = y k) ∧ M.W.ok (M.W.mk w h s n x y lo hi) ∧ (0 : Int) ≤ d ∧ d ≤ (7 : Int) ∧ (0 : Int) ≤ c ∧ c < w * h ∧ (1 : Int) ≤ dh ∧ dh ≤ (10000 : Int) ∧ (0 : Int) ≤ v1 ∧ v1 ≤ (10000 : Int) ∧ (0 : Int) ≤ (100 : Int) * s ∧ (100 : Int) * s ≤ (1420000 : Int) ∧ M.sum (fun k => M.tlo dl v0 ((100 : Int) * s) (M.W.dhi (M.W.mk w h s n x y lo hi) (M.rayC w c d k))) (M.W.fetchN (M.W.mk w h s n x y lo hi) c d true) = M.P.rlo (M.P.mk (M.W.mk w h s n x y lo hi) dl dh ll lh c) d v0 ∧ M.sum (fun k => M.thi dh v1 ((100 : Int) * s) (M.W.dlo (M.W.mk w h s n x y lo hi) (M.rayC w c d k))) (M.W.fetchN (M.W.mk w h s n x y lo hi) c d false) = M.P.rhi (M.P.mk (M.W.mk w h s n x y lo hi) dl dh ll lh c) d v1)
theorem r106 (w h s : Int) (n : Nat) (x y : Nat → Int) (lo hi dl dh ll lh c : Int) (d v0 v1 : Int) : V true [] [(58, pureE e58), (114, pureE (altE e114a e114b))] Try.f106 [0,1,2,3,4,5,6,7,8,9,10,11,24] [] [.agg [SI w, SI h, SI s, .sl 2 n (fun k => [SI (x k), SI (y k)]), SI lo, SI hi, SI dl, SI dh, SI ll, SI lh, SI c], SI d, .agg [SI v0, SI v1]] (.agg [SI (M.P.rlo (M.P.mk (M.W.mk w h s n x y lo hi) dl dh ll lh c) d v0), SI (M.P.rhi (M.P.mk (M.W.mk w h s n x y lo hi) dl dh ll lh c) d v1)]) = Rr106 w h s n x y lo hi dl dh ll lh c d v0 v1 := by kernel_rfl
theorem br106 (w h s : Int) (n : Nat) (x y : Nat → Int) (lo hi dl dh ll lh c : Int) (d v0 v1 : Int) (hp : (M.P.ok (M.P.mk (M.W.mk w h s n x y lo hi) dl dh ll lh c)) ∧ (0 ≤ d) ∧ (d ≤ 7) ∧ (0 ≤ v0) ∧ (v0 ≤ v1) ∧ (v1 ≤ 10000) ∧ AllP []) : Rr106 w h s n x y lo hi dl dh ll lh c d v0 v1 := by
  unfold Rr106
  have hw := M.wl_bd (s := s) (d := d) hp.1.g.s1 hp.1.g.s2
  obtain ⟨hok, hd, hd', hv, hv', hv2, -⟩ := id hp
  obtain ⟨hg, d1, d2, d3, l1, l2, l3, c1, c2⟩ := id hok
  have s1 := hg.s1; have s2 := hg.s2
  simp only at d1 d2 d3 c1 c2 s1 s2
  have e1 : M.P.rlo (M.P.mk (M.W.mk w h s n x y lo hi) dl dh ll lh c) d v0 = M.sum (fun k => M.tlo dl v0 (M.long s d) (M.W.dhi (M.W.mk w h s n x y lo hi) (M.rayC w c d k))) (M.W.fetchN (M.W.mk w h s n x y lo hi) c d true) := rfl
  have e2 : M.P.rhi (M.P.mk (M.W.mk w h s n x y lo hi) dl dh ll lh c) d v1 = M.sum (fun k => M.thi dh v1 (M.wide s d) (M.W.dlo (M.W.mk w h s n x y lo hi) (M.rayC w c d k))) (M.W.fetchN (M.W.mk w h s n x y lo hi) c d false) := rfl
  rw [e1, e2]
  have hg' : M.W.ok (M.W.mk w h s n x y lo hi) := hg
  unfold M.long M.wide
  unfold R64
  by_cases h : d.tmod 2 = 1 <;> simp [h, hg', hd, hd', hv, c1, c2, d1, d2, d3] <;> omega
theorem s106 : PureOK PP 106 e106 := by
  intro xs ps res h hp
  unfold e106 at h
  split at h
  · rename_i w h s n g_1 lo hi dl dh ll lh c d v0 v1
    simp only [Option.some.injEq, Prod.mk.injEq] at h
    obtain ⟨rfl, rfl⟩ := h
    simp only [AllP.cons] at hp
    obtain ⟨Hg_1, hp⟩ := hp
    refine Spec.args (ys := [.agg [SI w, SI h, SI s, .sl 2 n (fun k => [SI ((cI g_1 0) k), SI ((cI g_1 1) k)]), SI lo, SI hi, SI dl, SI dh, SI ll, SI lh, SI c], SI d, .agg [SI v0, SI v1]]) ?_ (.cons (.agg (.cons (.refl _) (.cons (.refl _) (.cons (.refl _) (.cons (.row Hg_1 fun _ => rfl) (.cons (.refl _) (.cons (.refl _) (.cons (.refl _) (.cons (.refl _) (.cons (.refl _) (.cons (.refl _) (.cons (.refl _) .nil)))))))))))) (.cons (.refl _) (.cons (.refl _) .nil)))
    refine enter (L := [0,1,2,3,4,5,6,7,8,9,10,11,24]) (LO := []) (E := []) (O := [(58, pureE e58), (114, pureE (altE e114a e114b))]) (ck := true) (.nil) (.cons (pureE_ok s58) (.cons (pureE_ok (altE_ok s114a s114b)) (.nil))) (k := 106) (f := Try.f106) (xs := [.agg [SI w, SI h, SI s, .sl 2 n (fun k => [SI ((cI g_1 0) k), SI ((cI g_1 1) k)]), SI lo, SI hi, SI dl, SI dh, SI ll, SI lh, SI c], SI d, .agg [SI v0, SI v1]]) (r := (.agg [SI (M.P.rlo (M.P.mk (M.W.mk w h s n (cI g_1 0) (cI g_1 1) lo hi) dl dh ll lh c) d v0), SI (M.P.rhi (M.P.mk (M.W.mk w h s n (cI g_1 0) (cI g_1 1) lo hi) dl dh ll lh c) d v1)])) (by kernel_rfl) (by kernel_rfl) (fun _ => .nil) ?_
    exact Hold.of (r106 w h s n (cI g_1 0) (cI g_1 1) lo hi dl dh ll lh c d v0 v1) (br106 w h s n (cI g_1 0) (cI g_1 1) lo hi dl dh ll lh c d v0 v1 hp)
  · cases h
def e81 : List SV → Option (List Prop × SV)
  | [.agg [.int .i64 w, .int .i64 h, .int .i64 s, .sl 2 n g_1, .int .i64 lo, .int .i64 hi, .int .i64 dl, .int .i64 dh, .int .i64 ll, .int .i64 lh, .int .i64 c], .int .i64 d, .agg [.int .i64 v0, .int .i64 v1]] => some ([Row 2 n g_1, M.P.ok (M.P.mk (M.W.mk w h s n (cI g_1 0) (cI g_1 1) lo hi) dl dh ll lh c), 0 ≤ d, d ≤ 7, 0 ≤ v0, v0 ≤ v1, v1 ≤ 10000], .agg [SI (M.P.slo (M.P.mk (M.W.mk w h s n (cI g_1 0) (cI g_1 1) lo hi) dl dh ll lh c) d v0 v1), SI (M.P.shi (M.P.mk (M.W.mk w h s n (cI g_1 0) (cI g_1 1) lo hi) dl dh ll lh c) d v0 v1)])
  | _ => none
def Rr81 (w h s : Int) (n : Nat) (x y : Nat → Int) (lo hi dl dh ll lh c : Int) (d v0 v1 : Int) : Prop := R64 (d + (4 : Int)) ∧ (8 : Int) ≠ (0 : Int) ∧ (∀ (k : Nat), k < n → x k = x k ∧ y k = y k) ∧ M.P.ok (M.P.mk (M.W.mk w h s n x y lo hi) dl dh ll lh c) ∧ (0 : Int) ≤ Int.tmod (d + (4 : Int)) (8 : Int) ∧ Int.tmod (d + (4 : Int)) (8 : Int) ≤ (7 : Int) ∧ (0 : Int) ≤ v0 ∧ v0 ≤ v1 ∧ v1 ≤ (10000 : Int) ∧ (∀ (k : Nat), k < n → x k = x k ∧ y k = y k) ∧ M.P.ok (M.P.mk (M.W.mk w h s n x y lo hi) dl dh ll lh c) ∧ (0 : Int) ≤ d ∧ d ≤ (7 : Int) ∧ (0 : Int) ≤ v0 ∧ v0 ≤ v1 ∧ v1 ≤ (10000 : Int) ∧ R64 (M.P.rlo (M.P.mk (M.W.mk w h s n x y lo hi) dl dh ll lh c) (Int.tmod (d + (4 : Int)) (8 : Int)) v0 - M.P.rhi (M.P.mk (M.W.mk w h s n x y lo hi) dl dh ll lh c) d v1) ∧ R64 (M.P.rhi (M.P.mk (M.W.mk w h s n x y lo hi) dl dh ll lh c) (Int.tmod (d + (4 : Int)) (8 : Int)) v1 - M.P.rlo (M.P.mk (M.W.mk w h s n x y lo hi) dl dh ll lh c) d v0) ∧ M.P.rlo (M.P.mk (M.W.mk w h s n x y lo hi) dl dh ll lh c) (Int.tmod (d + (4 : Int)) (8 : Int)) v0 - M.P.rhi (M.P.mk (M.W.mk w h s n x y lo hi) dl dh ll lh c) d v1 = M.P.slo (M.P.mk (M.W.mk w h s n x y lo hi) dl dh ll lh c) d v0 v1 ∧ M.P.rhi (M.P.mk (M.W.mk w h s n x y lo hi) dl dh ll lh c) (Int.tmod (d + (4 : Int)) (8 : Int)) v1 - M.P.rlo (M.P.mk (M.W.mk w h s n x y lo hi) dl dh ll lh c) d v0 = M.P.shi (M.P.mk (M.W.mk w h s n x y lo hi) dl dh ll lh c) d v0 v1
theorem r81 (w h s : Int) (n : Nat) (x y : Nat → Int) (lo hi dl dh ll lh c : Int) (d v0 v1 : Int) : V true [] [(59, pureE e59), (106, pureE e106)] Try.f81 [0,1,2,3,5,6] [] [.agg [SI w, SI h, SI s, .sl 2 n (fun k => [SI (x k), SI (y k)]), SI lo, SI hi, SI dl, SI dh, SI ll, SI lh, SI c], SI d, .agg [SI v0, SI v1]] (.agg [SI (M.P.slo (M.P.mk (M.W.mk w h s n x y lo hi) dl dh ll lh c) d v0 v1), SI (M.P.shi (M.P.mk (M.W.mk w h s n x y lo hi) dl dh ll lh c) d v0 v1)]) = Rr81 w h s n x y lo hi dl dh ll lh c d v0 v1 := by kernel_rfl
theorem br81 (w h s : Int) (n : Nat) (x y : Nat → Int) (lo hi dl dh ll lh c : Int) (d v0 v1 : Int) (hp : (M.P.ok (M.P.mk (M.W.mk w h s n x y lo hi) dl dh ll lh c)) ∧ (0 ≤ d) ∧ (d ≤ 7) ∧ (0 ≤ v0) ∧ (v0 ≤ v1) ∧ (v1 ≤ 10000) ∧ AllP []) : Rr81 w h s n x y lo hi dl dh ll lh c d v0 v1 := by
  unfold Rr81
  obtain ⟨hok, hd, hd', hv, hv', hv2, -⟩ := id hp
  have hs := hok.setup hd hd' hv hv' hv2
  have t1 : 0 ≤ (d + 4).tmod 8 := Int.tmod_nonneg _ (by omega)
  have t2 := Int.tmod_lt_of_pos (d + 4) (show (0 : Int) < 8 by omega)
  unfold M.P.slo M.P.shi at *
  refine ⟨?_, by omega, fun _ _ => ⟨rfl, rfl⟩, hok, t1, by omega, hv, hv', hv2, fun _ _ => ⟨rfl, rfl⟩, hok, hd, hd', hv, hv', hv2, ?_, ?_, rfl, rfl⟩ <;> unfold R64 <;> omega
theorem s81 : PureOK PP 81 e81 := by
  intro xs ps res h hp
  unfold e81 at h
  split at h
  · rename_i w h s n g_1 lo hi dl dh ll lh c d v0 v1
    simp only [Option.some.injEq, Prod.mk.injEq] at h
    obtain ⟨rfl, rfl⟩ := h
    simp only [AllP.cons] at hp
    obtain ⟨Hg_1, hp⟩ := hp
    refine Spec.args (ys := [.agg [SI w, SI h, SI s, .sl 2 n (fun k => [SI ((cI g_1 0) k), SI ((cI g_1 1) k)]), SI lo, SI hi, SI dl, SI dh, SI ll, SI lh, SI c], SI d, .agg [SI v0, SI v1]]) ?_ (.cons (.agg (.cons (.refl _) (.cons (.refl _) (.cons (.refl _) (.cons (.row Hg_1 fun _ => rfl) (.cons (.refl _) (.cons (.refl _) (.cons (.refl _) (.cons (.refl _) (.cons (.refl _) (.cons (.refl _) (.cons (.refl _) .nil)))))))))))) (.cons (.refl _) (.cons (.refl _) .nil)))
    refine enter (L := [0,1,2,3,5,6]) (LO := []) (E := []) (O := [(59, pureE e59), (106, pureE e106)]) (ck := true) (.nil) (.cons (pureE_ok s59) (.cons (pureE_ok s106) (.nil))) (k := 81) (f := Try.f81) (xs := [.agg [SI w, SI h, SI s, .sl 2 n (fun k => [SI ((cI g_1 0) k), SI ((cI g_1 1) k)]), SI lo, SI hi, SI dl, SI dh, SI ll, SI lh, SI c], SI d, .agg [SI v0, SI v1]]) (r := (.agg [SI (M.P.slo (M.P.mk (M.W.mk w h s n (cI g_1 0) (cI g_1 1) lo hi) dl dh ll lh c) d v0 v1), SI (M.P.shi (M.P.mk (M.W.mk w h s n (cI g_1 0) (cI g_1 1) lo hi) dl dh ll lh c) d v0 v1)])) (by kernel_rfl) (by kernel_rfl) (fun _ => .nil) ?_
    exact Hold.of (r81 w h s n (cI g_1 0) (cI g_1 1) lo hi dl dh ll lh c d v0 v1) (br81 w h s n (cI g_1 0) (cI g_1 1) lo hi dl dh ll lh c d v0 v1 hp)
  · cases h
def lp84 (w h s : Int) (n : Nat) (x y : Nat → Int) (lo hi dl dh ll lh c : Int) (v0 v1 m q0 q1 : Int) : LoopS where
  ι := Nat
  β := Unit
  pre d := d ≤ 8 ∧ M.P.ok (M.P.mk (M.W.mk w h s n x y lo hi) dl dh ll lh c) ∧ M.WindOk v0 v1 m q0 q1
  μ d := 8 - d
  next d _ _ _ := d + 1
  out _ := ()
  early _ := false
  SA d := [(2, .ptr 0 0), (3, .ptr 1 0), (4, .ptr 2 0), (5, .vec 3 2 0 (M.cntS m d)), (8, SI d)]
  SH d := [(0, .cells [SI w, SI h, SI s, .sl 2 n (fun k => [SI (x k), SI (y k)]), SI lo, SI hi, SI dl, SI dh, SI ll, SI lh, SI c]), (1, .cells [SI v0, SI v1, SI m, SI q0, SI q1]), (2, .cells [SI 0, SI 0]), (3, .row 2 (M.cntS m d) (fun k => [SI (M.P.setLo (M.P.mk (M.W.mk w h s n x y lo hi) dl dh ll lh c) m v0 v1 d k), SI (M.P.setHi (M.P.mk (M.W.mk w h s n x y lo hi) dl dh ll lh c) m v0 v1 d k)]))]
  n0 := 4
  NA _ := [(3, .ptr 1 0), (4, .ptr 2 0), (5, .vec 3 2 0 (M.cntS m 8))]
  NH _ := [(1, .cells [SI v0, SI v1, SI m, SI q0, SI q1]), (2, .cells [SI 0, SI 0]), (3, .row 2 (M.cntS m 8) (fun k => [SI (M.P.setLo (M.P.mk (M.W.mk w h s n x y lo hi) dl dh ll lh c) m v0 v1 8 k), SI (M.P.setHi (M.P.mk (M.W.mk w h s n x y lo hi) dl dh ll lh c) m v0 v1 8 k)]))]
  n1 := 4
  RA _ := []
  RH _ := []
def Rq84 (w h s : Int) (n : Nat) (x y : Nat → Int) (lo hi dl dh ll lh c : Int) (v0 v1 m q0 q1 : Int) (d : Nat) : Prop := (decide ((↑d : Int) < (8 : Int)) = true → (0 : Int) ≤ (↑d : Int) ∧ (decide (IntKind.wrap IntKind.i64 (↑(BitVec.toNat (BitVec.ofInt (IntKind.bits IntKind.i64) (Int.fdiv m ((2 : Int) ^ min (Int.toNat (↑d : Int)) (IntKind.bits IntKind.i64))) &&& BitVec.ofInt (IntKind.bits IntKind.i64) (1 : Int))) : Int) = (1 : Int)) = true → (∀ (k : Nat), k < n → x k = x k ∧ y k = y k) ∧ M.P.ok (M.P.mk (M.W.mk w h s n x y lo hi) dl dh ll lh c) ∧ (0 : Int) ≤ (↑d : Int) ∧ (↑d : Int) ≤ (7 : Int) ∧ (0 : Int) ≤ v0 ∧ v0 ≤ v1 ∧ v1 ≤ (10000 : Int) ∧ (0 : Nat) + (1 : Nat) ≤ (1 : Nat) ∧ (∀ (k : Nat), k < (1 : Nat) → true = true) ∧ M.cntS m d ≤ M.cntS m d ∧ (M.cntS m d + (1 : Nat)) * (16 : Nat) ≤ (140737488355328 : Nat) ∧ R64 ((↑d : Int) + (1 : Int)) ∧ (d + (1 : Nat) ≤ (8 : Nat) ∧ M.P.ok (M.P.mk (M.W.mk w h s n x y lo hi) dl dh ll lh c) ∧ M.WindOk v0 v1 m q0 q1) ∧ (8 : Nat) - (d + (1 : Nat)) < (8 : Nat) - d ∧ () = () ∧ (0 : Nat) = (0 : Nat) ∧ M.cntS m d + (1 : Nat) = M.cntS m (d + (1 : Nat)) ∧ (↑d : Int) + (1 : Int) = (↑(d + (1 : Nat)) : Int) ∧ w = w ∧ h = h ∧ s = s ∧ (n = n ∧ ∀ (k : Nat), k < n → x k = x k ∧ y k = y k) ∧ lo = lo ∧ hi = hi ∧ dl = dl ∧ dh = dh ∧ ll = ll ∧ lh = lh ∧ c = c ∧ v0 = v0 ∧ v1 = v1 ∧ m = m ∧ q0 = q0 ∧ q1 = q1 ∧ (0 : Int) = (0 : Int) ∧ (0 : Int) = (0 : Int) ∧ M.cntS m d + (1 : Nat) = M.cntS m (d + (1 : Nat)) ∧ (∀ (k : Nat), k < M.cntS m d + (1 : Nat) → (bif decide (k < M.cntS m d) then M.P.setLo (M.P.mk (M.W.mk w h s n x y lo hi) dl dh ll lh c) m v0 v1 d k else M.P.slo (M.P.mk (M.W.mk w h s n x y lo hi) dl dh ll lh c) (↑d : Int) v0 v1) = M.P.setLo (M.P.mk (M.W.mk w h s n x y lo hi) dl dh ll lh c) m v0 v1 (d + (1 : Nat)) k ∧ (bif decide (k < M.cntS m d) then M.P.setHi (M.P.mk (M.W.mk w h s n x y lo hi) dl dh ll lh c) m v0 v1 d k else M.P.shi (M.P.mk (M.W.mk w h s n x y lo hi) dl dh ll lh c) (↑d : Int) v0 v1) = M.P.setHi (M.P.mk (M.W.mk w h s n x y lo hi) dl dh ll lh c) m v0 v1 (d + (1 : Nat)) k) ∧ True) ∧ (decide (IntKind.wrap IntKind.i64 (↑(BitVec.toNat (BitVec.ofInt (IntKind.bits IntKind.i64) (Int.fdiv m ((2 : Int) ^ min (Int.toNat (↑d : Int)) (IntKind.bits IntKind.i64))) &&& BitVec.ofInt (IntKind.bits IntKind.i64) (1 : Int))) : Int) = (1 : Int)) = false → R64 ((↑d : Int) + (1 : Int)) ∧ (d + (1 : Nat) ≤ (8 : Nat) ∧ M.P.ok (M.P.mk (M.W.mk w h s n x y lo hi) dl dh ll lh c) ∧ M.WindOk v0 v1 m q0 q1) ∧ (8 : Nat) - (d + (1 : Nat)) < (8 : Nat) - d ∧ () = () ∧ (0 : Nat) = (0 : Nat) ∧ M.cntS m d = M.cntS m (d + (1 : Nat)) ∧ (↑d : Int) + (1 : Int) = (↑(d + (1 : Nat)) : Int) ∧ w = w ∧ h = h ∧ s = s ∧ (n = n ∧ ∀ (k : Nat), k < n → x k = x k ∧ y k = y k) ∧ lo = lo ∧ hi = hi ∧ dl = dl ∧ dh = dh ∧ ll = ll ∧ lh = lh ∧ c = c ∧ v0 = v0 ∧ v1 = v1 ∧ m = m ∧ q0 = q0 ∧ q1 = q1 ∧ (0 : Int) = (0 : Int) ∧ (0 : Int) = (0 : Int) ∧ M.cntS m d = M.cntS m (d + (1 : Nat)) ∧ (∀ (k : Nat), k < M.cntS m d → M.P.setLo (M.P.mk (M.W.mk w h s n x y lo hi) dl dh ll lh c) m v0 v1 d k = M.P.setLo (M.P.mk (M.W.mk w h s n x y lo hi) dl dh ll lh c) m v0 v1 (d + (1 : Nat)) k ∧ M.P.setHi (M.P.mk (M.W.mk w h s n x y lo hi) dl dh ll lh c) m v0 v1 d k = M.P.setHi (M.P.mk (M.W.mk w h s n x y lo hi) dl dh ll lh c) m v0 v1 (d + (1 : Nat)) k) ∧ True)) ∧ (decide ((↑d : Int) < (8 : Int)) = false → false = false ∧ (0 : Nat) = (0 : Nat) ∧ M.cntS m d = M.cntS m (8 : Nat) ∧ v0 = v0 ∧ v1 = v1 ∧ m = m ∧ q0 = q0 ∧ q1 = q1 ∧ (0 : Int) = (0 : Int) ∧ (0 : Int) = (0 : Int) ∧ M.cntS m d = M.cntS m (8 : Nat) ∧ (∀ (k : Nat), k < M.cntS m d → M.P.setLo (M.P.mk (M.W.mk w h s n x y lo hi) dl dh ll lh c) m v0 v1 d k = M.P.setLo (M.P.mk (M.W.mk w h s n x y lo hi) dl dh ll lh c) m v0 v1 (8 : Nat) k ∧ M.P.setHi (M.P.mk (M.W.mk w h s n x y lo hi) dl dh ll lh c) m v0 v1 d k = M.P.setHi (M.P.mk (M.W.mk w h s n x y lo hi) dl dh ll lh c) m v0 v1 (8 : Nat) k) ∧ True)
theorem q84 (w h s : Int) (n : Nat) (x y : Nat → Int) (lo hi dl dh ll lh c : Int) (v0 v1 m q0 q1 : Int) (d : Nat) : VL true [] [(81, pureE e81)] YS.none Try.f84 0 [0,1,2,3,4,5,6,7,8,9,16] [] 0 (lp84 w h s n x y lo hi dl dh ll lh c v0 v1 m q0 q1) (d) = Rq84 w h s n x y lo hi dl dh ll lh c v0 v1 m q0 q1 d := by kernel_rfl
theorem peq84 (w h s : Int) (n : Nat) (x y : Nat → Int) (lo hi dl dh ll lh c : Int) (v0 v1 m q0 q1 : Int) (d : Nat) : (lp84 w h s n x y lo hi dl dh ll lh c v0 v1 m q0 q1).pre (d) = (d ≤ (8 : Nat) ∧ M.P.ok (M.P.mk (M.W.mk w h s n x y lo hi) dl dh ll lh c) ∧ M.WindOk v0 v1 m q0 q1) := by kernel_rfl
theorem bq84 (w h s : Int) (n : Nat) (x y : Nat → Int) (lo hi dl dh ll lh c : Int) (v0 v1 m q0 q1 : Int) (d : Nat) (hp : d ≤ (8 : Nat) ∧ M.P.ok (M.P.mk (M.W.mk w h s n x y lo hi) dl dh ll lh c) ∧ M.WindOk v0 v1 m q0 q1) : Rq84 w h s n x y lo hi dl dh ll lh c v0 v1 m q0 q1 d := by
  unfold Rq84
  obtain ⟨hd, hok, hw⟩ := hp
  have hc := M.cntS_le m d
  have h1 := has_eq (m := m) (d := d) (by have := hw.a4; omega) hw.a5
  rw [show min d 64 = d by omega] at h1
  have hs := M.cntS_succ m d
  have w1 := hw.a1; have w2 := hw.a2; have w3 := hw.a3
  simp only [h1]
  refine ⟨fun hlt => ⟨by omega, fun hb => ?_, fun hb => ?_⟩, fun hlt => ?_⟩
  · have hg := @M.get_succ m d hb
    rw [if_pos hb] at hs
    simp only [decide_eq_true_eq] at hlt
    rw [hs]
    have key : ∀ k, k < M.cntS m d + 1 → (bif decide (k < M.cntS m d) then M.P.setLo (M.P.mk (M.W.mk w h s n x y lo hi) dl dh ll lh c) m v0 v1 d k else M.P.slo (M.P.mk (M.W.mk w h s n x y lo hi) dl dh ll lh c) d v0 v1) = M.P.setLo (M.P.mk (M.W.mk w h s n x y lo hi) dl dh ll lh c) m v0 v1 (d + 1) k ∧ (bif decide (k < M.cntS m d) then M.P.setHi (M.P.mk (M.W.mk w h s n x y lo hi) dl dh ll lh c) m v0 v1 d k else M.P.shi (M.P.mk (M.W.mk w h s n x y lo hi) dl dh ll lh c) d v0 v1) = M.P.setHi (M.P.mk (M.W.mk w h s n x y lo hi) dl dh ll lh c) m v0 v1 (d + 1) k := fun k hk => by
      have := hg hk
      unfold M.P.setLo M.P.setHi
      rw [this]
      by_cases h : k < M.cntS m d <;> simp [h]
    clear hg h1
    unfold R64
    simp [hok, hw, w1, w2, w3]
    refine ⟨by omega, by omega, by omega, by omega, by omega, ?_⟩
    simpa using key
  · rw [if_neg (by simp [hb])] at hs
    simp only [decide_eq_true_eq] at hlt
    have key : ∀ k, k < M.cntS m d → M.P.setLo (M.P.mk (M.W.mk w h s n x y lo hi) dl dh ll lh c) m v0 v1 d k = M.P.setLo (M.P.mk (M.W.mk w h s n x y lo hi) dl dh ll lh c) m v0 v1 (d + 1) k ∧ M.P.setHi (M.P.mk (M.W.mk w h s n x y lo hi) dl dh ll lh c) m v0 v1 d k = M.P.setHi (M.P.mk (M.W.mk w h s n x y lo hi) dl dh ll lh c) m v0 v1 (d + 1) k := fun k hk => by
      unfold M.P.setLo M.P.setHi
      simp only [M.sets, hb, Bool.false_eq_true, if_false, and_self]
    rw [hs]
    unfold R64
    simp [hok, hw]
    refine ⟨by omega, by omega, by omega, ?_⟩
    simpa using key
  · simp only [decide_eq_false_iff_not] at hlt
    have e : d = 8 := by omega
    subst e
    simp
theorem t84 (w h s : Int) (n : Nat) (x y : Nat → Int) (lo hi dl dh ll lh c : Int) (v0 v1 m q0 q1 : Int) {F : Fence} (hF : FOK F) (Y : YEnv PP YS.none) : ∀ Q A H nx, loopT false Try.f84.ntmps 0 (lp84 w h s n x y lo hi dl dh ll lh c v0 v1 m q0 q1) (fun _ _ _ => (0 : Nat)) Q A H nx → WPS Y F Try.f84.ntmps 0 (.block 0 (blkAt 0 Try.f84)) Q A H nx :=
  loopW (E := []) (.nil) (O := [(81, pureE e81)]) (.cons (pureE_ok s81) (.nil)) (ck := true) (L := [0,1,2,3,4,5,6,7,8,9,16]) (f := Try.f84) (m := 0) (id := 0) (l := (lp84 w h s n x y lo hi dl dh ll lh c v0 v1 m q0 q1)) (LI := fun i => []) Y hF (by kernel_rfl) (fun _ => .nil) (by
    rintro d hp
    exact Hold.of (q84 w h s n x y lo hi dl dh ll lh c v0 v1 m q0 q1 d) (bq84 w h s n x y lo hi dl dh ll lh c v0 v1 m q0 q1 d ((peq84 w h s n x y lo hi dl dh ll lh c v0 v1 m q0 q1 d).mp hp)))
def e84 : List SV → Option (List Prop × SV)
  | [.agg [.int .i64 w, .int .i64 h, .int .i64 s, .sl 2 n g_1, .int .i64 lo, .int .i64 hi, .int .i64 dl, .int .i64 dh, .int .i64 ll, .int .i64 lh, .int .i64 c], .agg [.int .i64 v0, .int .i64 v1, .int .i64 m, .int .i64 q0, .int .i64 q1]] => some ([Row 2 n g_1, M.P.ok (M.P.mk (M.W.mk w h s n (cI g_1 0) (cI g_1 1) lo hi) dl dh ll lh c), M.WindOk v0 v1 m q0 q1], .agg [SI (M.P.stLo (M.P.mk (M.W.mk w h s n (cI g_1 0) (cI g_1 1) lo hi) dl dh ll lh c) v0 v1 m q0), SI (M.P.stHi (M.P.mk (M.W.mk w h s n (cI g_1 0) (cI g_1 1) lo hi) dl dh ll lh c) v0 v1 m q1)])
  | _ => none
def Rr84 (w h s : Int) (n : Nat) (x y : Nat → Int) (lo hi dl dh ll lh c : Int) (v0 v1 m q0 q1 : Int) : Prop := ((0 : Nat) ≤ (8 : Nat) ∧ M.P.ok (M.P.mk (M.W.mk w h s n x y lo hi) dl dh ll lh c) ∧ M.WindOk v0 v1 m q0 q1) ∧ (M.cntS m (0 : Nat) = (0 : Nat) ∧ (0 : Int) = (↑(0 : Nat) : Int) ∧ w = w ∧ h = h ∧ s = s ∧ (n = n ∧ ∀ (k : Nat), k < n → x k = x k ∧ y k = y k) ∧ lo = lo ∧ hi = hi ∧ dl = dl ∧ dh = dh ∧ ll = ll ∧ lh = lh ∧ c = c ∧ v0 = v0 ∧ v1 = v1 ∧ m = m ∧ q0 = q0 ∧ q1 = q1 ∧ (0 : Int) = (0 : Int) ∧ (0 : Int) = (0 : Int) ∧ M.cntS m (0 : Nat) = (0 : Nat) ∧ True) ∧ (false = false → (0 : Int) ≤ (0 : Int) ∧ (0 : Int) < (↑(M.cntS m (8 : Nat)) : Int) ∧ (0 : Nat) + Int.toNat (0 : Int) < M.cntS m (8 : Nat) ∧ (0 : Int) ≤ (1 : Int) ∧ (1 : Int) ≤ (↑(M.cntS m (8 : Nat)) : Int) ∧ (0 : Nat) + Int.toNat (1 : Int) + (M.cntS m (8 : Nat) - Int.toNat (1 : Int)) ≤ M.cntS m (8 : Nat) ∧ (∀ (k : Nat), k < M.cntS m (8 : Nat) - Int.toNat (1 : Int) → M.P.setLo (M.P.mk (M.W.mk w h s n x y lo hi) dl dh ll lh c) m v0 v1 (8 : Nat) ((0 : Nat) + Int.toNat (1 : Int) + k) = cI (fun k => [SV.int IntKind.i64 (M.P.setLo (M.P.mk (M.W.mk w h s n x y lo hi) dl dh ll lh c) m v0 v1 (8 : Nat) ((0 : Nat) + Int.toNat (1 : Int) + k)), SV.int IntKind.i64 (M.P.setHi (M.P.mk (M.W.mk w h s n x y lo hi) dl dh ll lh c) m v0 v1 (8 : Nat) ((0 : Nat) + Int.toNat (1 : Int) + k))]) (0 : Nat) k ∧ M.P.setHi (M.P.mk (M.W.mk w h s n x y lo hi) dl dh ll lh c) m v0 v1 (8 : Nat) ((0 : Nat) + Int.toNat (1 : Int) + k) = cI (fun k => [SV.int IntKind.i64 (M.P.setLo (M.P.mk (M.W.mk w h s n x y lo hi) dl dh ll lh c) m v0 v1 (8 : Nat) ((0 : Nat) + Int.toNat (1 : Int) + k)), SV.int IntKind.i64 (M.P.setHi (M.P.mk (M.W.mk w h s n x y lo hi) dl dh ll lh c) m v0 v1 (8 : Nat) ((0 : Nat) + Int.toNat (1 : Int) + k))]) ((0 : Nat) + (1 : Nat)) k) ∧ R64 (↑(M.cntS m (8 : Nat) - Int.toNat (1 : Int)) : Int) ∧ R64 ((2560 : Int) * q0) ∧ (0 : Int) < (981 : Int) ∧ R64 ((2560 : Int) * q0) ∧ R64 (981 : Int) ∧ R64 ((981 : Int) - (1 : Int) - (2560 : Int) * q0) ∧ R64 (M.low (cI (fun k => [SV.int IntKind.i64 (M.P.setLo (M.P.mk (M.W.mk w h s n x y lo hi) dl dh ll lh c) m v0 v1 (8 : Nat) ((0 : Nat) + Int.toNat (1 : Int) + k)), SV.int IntKind.i64 (M.P.setHi (M.P.mk (M.W.mk w h s n x y lo hi) dl dh ll lh c) m v0 v1 (8 : Nat) ((0 : Nat) + Int.toNat (1 : Int) + k))]) (0 : Nat)) (M.P.setLo (M.P.mk (M.W.mk w h s n x y lo hi) dl dh ll lh c) m v0 v1 (8 : Nat) ((0 : Nat) + Int.toNat (0 : Int))) (M.cntS m (8 : Nat) - Int.toNat (1 : Int)) + (2560 : Int) * q0 / (981 : Int)) ∧ R64 ((2560 : Int) * q1) ∧ (0 : Int) < (981 : Int) ∧ R64 (-((2560 : Int) * q1)) ∧ R64 (981 : Int) ∧ R64 ((981 : Int) - (1 : Int) + (2560 : Int) * q1) ∧ R64 (-(-((2560 : Int) * q1) / (981 : Int))) ∧ R64 (M.high (cI (fun k => [SV.int IntKind.i64 (M.P.setLo (M.P.mk (M.W.mk w h s n x y lo hi) dl dh ll lh c) m v0 v1 (8 : Nat) ((0 : Nat) + Int.toNat (1 : Int) + k)), SV.int IntKind.i64 (M.P.setHi (M.P.mk (M.W.mk w h s n x y lo hi) dl dh ll lh c) m v0 v1 (8 : Nat) ((0 : Nat) + Int.toNat (1 : Int) + k))]) (1 : Nat)) (M.P.setHi (M.P.mk (M.W.mk w h s n x y lo hi) dl dh ll lh c) m v0 v1 (8 : Nat) ((0 : Nat) + Int.toNat (0 : Int))) (M.cntS m (8 : Nat) - Int.toNat (1 : Int)) + -(-((2560 : Int) * q1) / (981 : Int))) ∧ M.low (cI (fun k => [SV.int IntKind.i64 (M.P.setLo (M.P.mk (M.W.mk w h s n x y lo hi) dl dh ll lh c) m v0 v1 (8 : Nat) ((0 : Nat) + Int.toNat (1 : Int) + k)), SV.int IntKind.i64 (M.P.setHi (M.P.mk (M.W.mk w h s n x y lo hi) dl dh ll lh c) m v0 v1 (8 : Nat) ((0 : Nat) + Int.toNat (1 : Int) + k))]) (0 : Nat)) (M.P.setLo (M.P.mk (M.W.mk w h s n x y lo hi) dl dh ll lh c) m v0 v1 (8 : Nat) ((0 : Nat) + Int.toNat (0 : Int))) (M.cntS m (8 : Nat) - Int.toNat (1 : Int)) + (2560 : Int) * q0 / (981 : Int) = M.P.stLo (M.P.mk (M.W.mk w h s n x y lo hi) dl dh ll lh c) v0 v1 m q0 ∧ M.high (cI (fun k => [SV.int IntKind.i64 (M.P.setLo (M.P.mk (M.W.mk w h s n x y lo hi) dl dh ll lh c) m v0 v1 (8 : Nat) ((0 : Nat) + Int.toNat (1 : Int) + k)), SV.int IntKind.i64 (M.P.setHi (M.P.mk (M.W.mk w h s n x y lo hi) dl dh ll lh c) m v0 v1 (8 : Nat) ((0 : Nat) + Int.toNat (1 : Int) + k))]) (1 : Nat)) (M.P.setHi (M.P.mk (M.W.mk w h s n x y lo hi) dl dh ll lh c) m v0 v1 (8 : Nat) ((0 : Nat) + Int.toNat (0 : Int))) (M.cntS m (8 : Nat) - Int.toNat (1 : Int)) + -(-((2560 : Int) * q1) / (981 : Int)) = M.P.stHi (M.P.mk (M.W.mk w h s n x y lo hi) dl dh ll lh c) v0 v1 m q1) ∧ (false = true → False)
theorem r84 (w h s : Int) (n : Nat) (x y : Nat → Int) (lo hi dl dh ll lh c : Int) (v0 v1 m q0 q1 : Int) : V true [] [(58, pureE e58), (64, pureE e64), (65, pureE e65), (66, pureE e66)] Try.f84 [0,1,2,3,4,5,6,7,8,9,16] [(0, loopT false Try.f84.ntmps 0 (lp84 w h s n x y lo hi dl dh ll lh c v0 v1 m q0 q1) (fun _ _ _ => (0 : Nat)))] [.agg [SI w, SI h, SI s, .sl 2 n (fun k => [SI (x k), SI (y k)]), SI lo, SI hi, SI dl, SI dh, SI ll, SI lh, SI c], .agg [SI v0, SI v1, SI m, SI q0, SI q1]] (.agg [SI (M.P.stLo (M.P.mk (M.W.mk w h s n x y lo hi) dl dh ll lh c) v0 v1 m q0), SI (M.P.stHi (M.P.mk (M.W.mk w h s n x y lo hi) dl dh ll lh c) v0 v1 m q1)]) = Rr84 w h s n x y lo hi dl dh ll lh c v0 v1 m q0 q1 := by kernel_rfl
theorem br84 (w h s : Int) (n : Nat) (x y : Nat → Int) (lo hi dl dh ll lh c : Int) (v0 v1 m q0 q1 : Int) (hp : (M.P.ok (M.P.mk (M.W.mk w h s n x y lo hi) dl dh ll lh c)) ∧ (M.WindOk v0 v1 m q0 q1) ∧ AllP []) : Rr84 w h s n x y lo hi dl dh ll lh c v0 v1 m q0 q1 := by
  unfold Rr84
  obtain ⟨hok, hw, -⟩ := id hp
  have hc := M.cntS_le m 8
  have hc1 := M.sets_pos hw.a4 hw.a5
  have hh := hok.hull hw
  have hst := hok.steady hw
  have q1' := hw.a6; have q2' := hw.a7; have q3' := hw.a8
  have e0 : M.cntS m 0 = 0 := rfl
  have e1 : ∀ k, 0 + Int.toNat 1 + k = k + 1 := fun k => by simp; omega
  have eL : (cI (fun k => [SV.int IntKind.i64 (M.P.setLo (M.P.mk (M.W.mk w h s n x y lo hi) dl dh ll lh c) m v0 v1 8 (k + 1)), SV.int IntKind.i64 (M.P.setHi (M.P.mk (M.W.mk w h s n x y lo hi) dl dh ll lh c) m v0 v1 8 (k + 1))]) 0) = fun k => M.P.setLo (M.P.mk (M.W.mk w h s n x y lo hi) dl dh ll lh c) m v0 v1 8 (k + 1) := rfl
  have eH : (cI (fun k => [SV.int IntKind.i64 (M.P.setLo (M.P.mk (M.W.mk w h s n x y lo hi) dl dh ll lh c) m v0 v1 8 (k + 1)), SV.int IntKind.i64 (M.P.setHi (M.P.mk (M.W.mk w h s n x y lo hi) dl dh ll lh c) m v0 v1 8 (k + 1))]) 1) = fun k => M.P.setHi (M.P.mk (M.W.mk w h s n x y lo hi) dl dh ll lh c) m v0 v1 8 (k + 1) := rfl
  unfold M.P.stLo M.P.stHi at *
  unfold R64
  simp [hok, hw, e0, Nat.add_comm 1, eL, eH]
  repeat' apply And.intro
  all_goals first | omega | exact fun k hk => ⟨rfl, rfl⟩
theorem s84 : PureOK PP 84 e84 := by
  intro xs ps res h hp
  unfold e84 at h
  split at h
  · rename_i w h s n g_1 lo hi dl dh ll lh c v0 v1 m q0 q1
    simp only [Option.some.injEq, Prod.mk.injEq] at h
    obtain ⟨rfl, rfl⟩ := h
    simp only [AllP.cons] at hp
    obtain ⟨Hg_1, hp⟩ := hp
    refine Spec.args (ys := [.agg [SI w, SI h, SI s, .sl 2 n (fun k => [SI ((cI g_1 0) k), SI ((cI g_1 1) k)]), SI lo, SI hi, SI dl, SI dh, SI ll, SI lh, SI c], .agg [SI v0, SI v1, SI m, SI q0, SI q1]]) ?_ (.cons (.agg (.cons (.refl _) (.cons (.refl _) (.cons (.refl _) (.cons (.row Hg_1 fun _ => rfl) (.cons (.refl _) (.cons (.refl _) (.cons (.refl _) (.cons (.refl _) (.cons (.refl _) (.cons (.refl _) (.cons (.refl _) .nil)))))))))))) (.cons (.refl _) .nil))
    refine enter (L := [0,1,2,3,4,5,6,7,8,9,16]) (LO := [(0, loopT false Try.f84.ntmps 0 (lp84 w h s n (cI g_1 0) (cI g_1 1) lo hi dl dh ll lh c v0 v1 m q0 q1) (fun _ _ _ => (0 : Nat)))]) (E := []) (O := [(58, pureE e58), (64, pureE e64), (65, pureE e65), (66, pureE e66)]) (ck := true) (.nil) (.cons (pureE_ok s58) (.cons (pureE_ok s64) (.cons (pureE_ok s65) (.cons (pureE_ok s66) (.nil))))) (k := 84) (f := Try.f84) (xs := [.agg [SI w, SI h, SI s, .sl 2 n (fun k => [SI ((cI g_1 0) k), SI ((cI g_1 1) k)]), SI lo, SI hi, SI dl, SI dh, SI ll, SI lh, SI c], .agg [SI v0, SI v1, SI m, SI q0, SI q1]]) (r := (.agg [SI (M.P.stLo (M.P.mk (M.W.mk w h s n (cI g_1 0) (cI g_1 1) lo hi) dl dh ll lh c) v0 v1 m q0), SI (M.P.stHi (M.P.mk (M.W.mk w h s n (cI g_1 0) (cI g_1 1) lo hi) dl dh ll lh c) v0 v1 m q1)])) (by kernel_rfl) (by kernel_rfl) (fun Y => .cons (by kernel_rfl) (t84 w h s n (cI g_1 0) (cI g_1 1) lo hi dl dh ll lh c v0 v1 m q0 q1 FOK.wide Y) (.nil)) ?_
    exact Hold.of (r84 w h s n (cI g_1 0) (cI g_1 1) lo hi dl dh ll lh c v0 v1 m q0 q1) (br84 w h s n (cI g_1 0) (cI g_1 1) lo hi dl dh ll lh c v0 v1 m q0 q1 hp)
  · cases h
def e86 : List SV → Option (List Prop × SV)
  | [.agg [.int .i64 dl, .int .i64 dh, .int .i64 ll, .int .i64 lh], .agg [.int .i64 a, .int .i64 b], .agg [.int .i64 c, .int .i64 d]] => some ([1 ≤ ll, ll ≤ lh, lh ≤ 1024, -1099511627776 ≤ a, a ≤ 1099511627776, -1099511627776 ≤ b, b ≤ 1099511627776, -1099511627776 ≤ c, c ≤ 1099511627776, -1099511627776 ≤ d, d ≤ 1099511627776], .agg [SI (M.fLo ll lh a c), SI (M.fHi ll lh b d)])
  | _ => none
def Rr86 (dl dh ll lh a b c d : Int) : Prop := (decide (c < a) = true → (decide (d < b) = true → R64 (c - a) ∧ R64 (lh * (c - a)) ∧ (0 : Int) < (1024 : Int) ∧ R64 (lh * (c - a)) ∧ R64 (1024 : Int) ∧ R64 ((1024 : Int) - (1 : Int) - lh * (c - a)) ∧ R64 (a + lh * (c - a) / (1024 : Int)) ∧ R64 (d - b) ∧ R64 (ll * (d - b)) ∧ (0 : Int) < (1024 : Int) ∧ R64 (-(ll * (d - b))) ∧ R64 (1024 : Int) ∧ R64 ((1024 : Int) - (1 : Int) + ll * (d - b)) ∧ R64 (-(-(ll * (d - b)) / (1024 : Int))) ∧ R64 (b + -(-(ll * (d - b)) / (1024 : Int))) ∧ a + lh * (c - a) / (1024 : Int) = M.fLo ll lh a c ∧ b + -(-(ll * (d - b)) / (1024 : Int)) = M.fHi ll lh b d) ∧ (decide (d < b) = false → R64 (c - a) ∧ R64 (lh * (c - a)) ∧ (0 : Int) < (1024 : Int) ∧ R64 (lh * (c - a)) ∧ R64 (1024 : Int) ∧ R64 ((1024 : Int) - (1 : Int) - lh * (c - a)) ∧ R64 (a + lh * (c - a) / (1024 : Int)) ∧ R64 (d - b) ∧ R64 (lh * (d - b)) ∧ (0 : Int) < (1024 : Int) ∧ R64 (-(lh * (d - b))) ∧ R64 (1024 : Int) ∧ R64 ((1024 : Int) - (1 : Int) + lh * (d - b)) ∧ R64 (-(-(lh * (d - b)) / (1024 : Int))) ∧ R64 (b + -(-(lh * (d - b)) / (1024 : Int))) ∧ a + lh * (c - a) / (1024 : Int) = M.fLo ll lh a c ∧ b + -(-(lh * (d - b)) / (1024 : Int)) = M.fHi ll lh b d)) ∧ (decide (c < a) = false → (decide (d < b) = true → R64 (c - a) ∧ R64 (ll * (c - a)) ∧ (0 : Int) < (1024 : Int) ∧ R64 (ll * (c - a)) ∧ R64 (1024 : Int) ∧ R64 ((1024 : Int) - (1 : Int) - ll * (c - a)) ∧ R64 (a + ll * (c - a) / (1024 : Int)) ∧ R64 (d - b) ∧ R64 (ll * (d - b)) ∧ (0 : Int) < (1024 : Int) ∧ R64 (-(ll * (d - b))) ∧ R64 (1024 : Int) ∧ R64 ((1024 : Int) - (1 : Int) + ll * (d - b)) ∧ R64 (-(-(ll * (d - b)) / (1024 : Int))) ∧ R64 (b + -(-(ll * (d - b)) / (1024 : Int))) ∧ a + ll * (c - a) / (1024 : Int) = M.fLo ll lh a c ∧ b + -(-(ll * (d - b)) / (1024 : Int)) = M.fHi ll lh b d) ∧ (decide (d < b) = false → R64 (c - a) ∧ R64 (ll * (c - a)) ∧ (0 : Int) < (1024 : Int) ∧ R64 (ll * (c - a)) ∧ R64 (1024 : Int) ∧ R64 ((1024 : Int) - (1 : Int) - ll * (c - a)) ∧ R64 (a + ll * (c - a) / (1024 : Int)) ∧ R64 (d - b) ∧ R64 (lh * (d - b)) ∧ (0 : Int) < (1024 : Int) ∧ R64 (-(lh * (d - b))) ∧ R64 (1024 : Int) ∧ R64 ((1024 : Int) - (1 : Int) + lh * (d - b)) ∧ R64 (-(-(lh * (d - b)) / (1024 : Int))) ∧ R64 (b + -(-(lh * (d - b)) / (1024 : Int))) ∧ a + ll * (c - a) / (1024 : Int) = M.fLo ll lh a c ∧ b + -(-(lh * (d - b)) / (1024 : Int)) = M.fHi ll lh b d))
theorem r86 (dl dh ll lh a b c d : Int) : V true [] [(58, pureE e58), (64, pureE e64), (65, pureE e65)] Try.f86 [0,1,2,3,4,5,6,7,8,9,10,25,33] [] [.agg [SI dl, SI dh, SI ll, SI lh], .agg [SI a, SI b], .agg [SI c, SI d]] (.agg [SI (M.fLo ll lh a c), SI (M.fHi ll lh b d)]) = Rr86 dl dh ll lh a b c d := by kernel_rfl
theorem br86 (dl dh ll lh a b c d : Int) (hp : (1 ≤ ll) ∧ (ll ≤ lh) ∧ (lh ≤ 1024) ∧ (-1099511627776 ≤ a) ∧ (a ≤ 1099511627776) ∧ (-1099511627776 ≤ b) ∧ (b ≤ 1099511627776) ∧ (-1099511627776 ≤ c) ∧ (c ≤ 1099511627776) ∧ (-1099511627776 ≤ d) ∧ (d ≤ 1099511627776) ∧ AllP []) : Rr86 dl dh ll lh a b c d := by
  unfold Rr86
  obtain ⟨l1, l2, l3, a1, a2, b1, b2, c1, c2, d1, d2, -⟩ := hp
  have r1 := M.fLo_bd (B := 1099511627776) l1 l2 l3 ⟨a1, a2⟩ ⟨c1, c2⟩
  have r2 := M.fHi_bd (B := 1099511627776) l1 l2 l3 ⟨b1, b2⟩ ⟨d1, d2⟩
  have m1 := M.mul_lag (l := lh) (x := c - a) (B := 2199023255552) (by omega) (by omega) (by omega) (by omega)
  have m2 := M.mul_lag (l := ll) (x := c - a) (B := 2199023255552) (by omega) (by omega) (by omega) (by omega)
  have m3 := M.mul_lag (l := lh) (x := d - b) (B := 2199023255552) (by omega) (by omega) (by omega) (by omega)
  have m4 := M.mul_lag (l := ll) (x := d - b) (B := 2199023255552) (by omega) (by omega) (by omega) (by omega)
  have n1 := And.intro m1.1 m1.2.1; have n2 := And.intro m2.1 m2.2.1; have n3 := And.intro m3.1 m3.2.1; have n4 := And.intro m4.1 m4.2.1
  clear m1 m2 m3 m4
  unfold M.fLo M.fHi at *
  unfold R64
  by_cases h1 : c < a <;> by_cases h2 : d < b <;> simp only [h1, h2, if_true, if_false, decide_true, decide_false, Bool.true_eq_false, Bool.false_eq_true, false_implies, true_and, and_true, and_self, forall_const, implies_true] at r1 r2 ⊢ <;> omega
theorem s86 : PureOK PP 86 e86 := by
  intro xs ps res h hp
  unfold e86 at h
  split at h
  · rename_i dl dh ll lh a b c d
    simp only [Option.some.injEq, Prod.mk.injEq] at h
    obtain ⟨rfl, rfl⟩ := h
    simp only [AllP.cons] at hp
    refine enter (L := [0,1,2,3,4,5,6,7,8,9,10,25,33]) (LO := []) (E := []) (O := [(58, pureE e58), (64, pureE e64), (65, pureE e65)]) (ck := true) (.nil) (.cons (pureE_ok s58) (.cons (pureE_ok s64) (.cons (pureE_ok s65) (.nil)))) (k := 86) (f := Try.f86) (xs := [.agg [SI dl, SI dh, SI ll, SI lh], .agg [SI a, SI b], .agg [SI c, SI d]]) (r := (.agg [SI (M.fLo ll lh a c), SI (M.fHi ll lh b d)])) (by kernel_rfl) (by kernel_rfl) (fun _ => .nil) ?_
    exact Hold.of (r86 dl dh ll lh a b c d) (br86 dl dh ll lh a b c d hp)
  · cases h
def e92 : List SV → Option (List Prop × SV)
  | [.agg [.int .i64 w, .int .i64 h, .int .i64 s, .sl 2 n g_1, .int .i64 lo, .int .i64 hi]] => some ([Row 2 n g_1, R64 (w * h)], SI (w * h))
  | _ => none
def Rr92 (w h s : Int) (n : Nat) (x y : Nat → Int) (lo hi : Int) : Prop := R64 (w * h) ∧ w * h = w * h
theorem r92 (w h s : Int) (n : Nat) (x y : Nat → Int) (lo hi : Int) : V true [] [] Try.f92 [0,1,2] [] [.agg [SI w, SI h, SI s, .sl 2 n (fun k => [SI (x k), SI (y k)]), SI lo, SI hi]] (SI (w * h)) = Rr92 w h s n x y lo hi := by kernel_rfl
theorem br92 (w h s : Int) (n : Nat) (x y : Nat → Int) (lo hi : Int) (hp : (R64 (w * h)) ∧ AllP []) : Rr92 w h s n x y lo hi := by
  unfold Rr92
  simp [hp]
theorem s92 : PureOK PP 92 e92 := by
  intro xs ps res h hp
  unfold e92 at h
  split at h
  · rename_i w h s n g_1 lo hi
    simp only [Option.some.injEq, Prod.mk.injEq] at h
    obtain ⟨rfl, rfl⟩ := h
    simp only [AllP.cons] at hp
    obtain ⟨Hg_1, hp⟩ := hp
    refine Spec.args (ys := [.agg [SI w, SI h, SI s, .sl 2 n (fun k => [SI ((cI g_1 0) k), SI ((cI g_1 1) k)]), SI lo, SI hi]]) ?_ (.cons (.agg (.cons (.refl _) (.cons (.refl _) (.cons (.refl _) (.cons (.row Hg_1 fun _ => rfl) (.cons (.refl _) (.cons (.refl _) .nil))))))) .nil)
    refine enter (L := [0,1,2]) (LO := []) (E := []) (O := []) (ck := true) (.nil) (.nil) (k := 92) (f := Try.f92) (xs := [.agg [SI w, SI h, SI s, .sl 2 n (fun k => [SI ((cI g_1 0) k), SI ((cI g_1 1) k)]), SI lo, SI hi]]) (r := (SI (w * h))) (by kernel_rfl) (by kernel_rfl) (fun _ => .nil) ?_
    exact Hold.of (r92 w h s n (cI g_1 0) (cI g_1 1) lo hi) (br92 w h s n (cI g_1 0) (cI g_1 1) lo hi hp)
  · cases h
def e57 : List SV → Option (List Prop × SV)
  | [.agg [.int .i64 w, .int .i64 h, .int .i64 s, .sl 2 n g_1, .int .i64 lo, .int .i64 hi], .int .i64 c] => some ([Row 2 n g_1, R64 (w * h)], SI (M.W.hasE (M.W.mk w h s n (cI g_1 0) (cI g_1 1) lo hi) c))
  | _ => none
def Rr57 (w h s : Int) (n : Nat) (x y : Nat → Int) (lo hi : Int) (c : Int) : Prop := ((!decide (c < (0 : Int))) = true → (!decide (c < (0 : Int))) = true) ∧ ((!decide (c < (0 : Int))) = true → ∀ (k : Nat), k < n → x k = x k ∧ y k = y k) ∧ ((!decide (c < (0 : Int))) = true → R64 (w * h)) ∧ ((!decide (c < (0 : Int))) = true → (!decide (c < (0 : Int))) = true) ∧ ((!decide (c < (0 : Int))) = true → (!decide (c < (0 : Int))) = true) ∧ (decide (c < (0 : Int)) = false → (!decide (c < (0 : Int))) = true) ∧ ((bif decide (c < (0 : Int)) then true else decide (w * h ≤ c)) = true → (4 : Int) = M.W.hasE (M.W.mk w h s n x y lo hi) c) ∧ ((bif decide (c < (0 : Int)) then true else decide (w * h ≤ c)) = false → (0 : Int) = M.W.hasE (M.W.mk w h s n x y lo hi) c)
theorem r57 (w h s : Int) (n : Nat) (x y : Nat → Int) (lo hi : Int) (c : Int) : V true [] [(92, pureE e92)] Try.f57 [0,1,2,4,12] [] [.agg [SI w, SI h, SI s, .sl 2 n (fun k => [SI (x k), SI (y k)]), SI lo, SI hi], SI c] (SI (M.W.hasE (M.W.mk w h s n x y lo hi) c)) = Rr57 w h s n x y lo hi c := by kernel_rfl
theorem br57 (w h s : Int) (n : Nat) (x y : Nat → Int) (lo hi : Int) (c : Int) (hp : (R64 (w * h)) ∧ AllP []) : Rr57 w h s n x y lo hi c := by
  unfold Rr57
  unfold M.W.hasE
  grind
theorem s57 : PureOK PP 57 e57 := by
  intro xs ps res h hp
  unfold e57 at h
  split at h
  · rename_i w h s n g_1 lo hi c
    simp only [Option.some.injEq, Prod.mk.injEq] at h
    obtain ⟨rfl, rfl⟩ := h
    simp only [AllP.cons] at hp
    obtain ⟨Hg_1, hp⟩ := hp
    refine Spec.args (ys := [.agg [SI w, SI h, SI s, .sl 2 n (fun k => [SI ((cI g_1 0) k), SI ((cI g_1 1) k)]), SI lo, SI hi], SI c]) ?_ (.cons (.agg (.cons (.refl _) (.cons (.refl _) (.cons (.refl _) (.cons (.row Hg_1 fun _ => rfl) (.cons (.refl _) (.cons (.refl _) .nil))))))) (.cons (.refl _) .nil))
    refine enter (L := [0,1,2,4,12]) (LO := []) (E := []) (O := [(92, pureE e92)]) (ck := true) (.nil) (.cons (pureE_ok s92) (.nil)) (k := 57) (f := Try.f57) (xs := [.agg [SI w, SI h, SI s, .sl 2 n (fun k => [SI ((cI g_1 0) k), SI ((cI g_1 1) k)]), SI lo, SI hi], SI c]) (r := (SI (M.W.hasE (M.W.mk w h s n (cI g_1 0) (cI g_1 1) lo hi) c))) (by kernel_rfl) (by kernel_rfl) (fun _ => .nil) ?_
    exact Hold.of (r57 w h s n (cI g_1 0) (cI g_1 1) lo hi c) (br57 w h s n (cI g_1 0) (cI g_1 1) lo hi c hp)
  · cases h
def e88 : List SV → Option (List Prop × SV)
  | [.agg [.int .i64 w, .int .i64 h, .int .i64 s, .sl 2 n g_1, .int .i64 lo, .int .i64 hi]] => some ([Row 2 n g_1, R64 n], SI (M.W.chk (M.W.mk w h s n (cI g_1 0) (cI g_1 1) lo hi)))
  | _ => none
def Rr88 (w h s : Int) (n : Nat) (x y : Nat → Int) (lo hi : Int) : Prop := (∀ (k : Nat), k < n → x k = x k ∧ y k = y k) ∧ R64 (↑n : Int) ∧ ((!decide (M.gridE w h s n x y = (0 : Int))) = true → M.gridE w h s n x y = M.W.chk (M.W.mk w h s n x y lo hi)) ∧ ((!decide (M.gridE w h s n x y = (0 : Int))) = false → ((!M.within lo hi (-20000 : Int) (20000 : Int)) = true → (3 : Int) = M.W.chk (M.W.mk w h s n x y lo hi)) ∧ ((!M.within lo hi (-20000 : Int) (20000 : Int)) = false → (0 : Int) = M.W.chk (M.W.mk w h s n x y lo hi)))
theorem r88 (w h s : Int) (n : Nat) (x y : Nat → Int) (lo hi : Int) : V true [] [(55, pureE e55), (69, pureE e69)] Try.f88 [0,1,2,3,8,14] [] [.agg [SI w, SI h, SI s, .sl 2 n (fun k => [SI (x k), SI (y k)]), SI lo, SI hi]] (SI (M.W.chk (M.W.mk w h s n x y lo hi))) = Rr88 w h s n x y lo hi := by kernel_rfl
theorem br88 (w h s : Int) (n : Nat) (x y : Nat → Int) (lo hi : Int) (hp : (R64 n) ∧ AllP []) : Rr88 w h s n x y lo hi := by
  unfold Rr88
  unfold M.W.chk
  have hn := hp.1
  simp only
  grind
theorem s88 : PureOK PP 88 e88 := by
  intro xs ps res h hp
  unfold e88 at h
  split at h
  · rename_i w h s n g_1 lo hi
    simp only [Option.some.injEq, Prod.mk.injEq] at h
    obtain ⟨rfl, rfl⟩ := h
    simp only [AllP.cons] at hp
    obtain ⟨Hg_1, hp⟩ := hp
    refine Spec.args (ys := [.agg [SI w, SI h, SI s, .sl 2 n (fun k => [SI ((cI g_1 0) k), SI ((cI g_1 1) k)]), SI lo, SI hi]]) ?_ (.cons (.agg (.cons (.refl _) (.cons (.refl _) (.cons (.refl _) (.cons (.row Hg_1 fun _ => rfl) (.cons (.refl _) (.cons (.refl _) .nil))))))) .nil)
    refine enter (L := [0,1,2,3,8,14]) (LO := []) (E := []) (O := [(55, pureE e55), (69, pureE e69)]) (ck := true) (.nil) (.cons (pureE_ok s55) (.cons (pureE_ok s69) (.nil))) (k := 88) (f := Try.f88) (xs := [.agg [SI w, SI h, SI s, .sl 2 n (fun k => [SI ((cI g_1 0) k), SI ((cI g_1 1) k)]), SI lo, SI hi]]) (r := (SI (M.W.chk (M.W.mk w h s n (cI g_1 0) (cI g_1 1) lo hi)))) (by kernel_rfl) (by kernel_rfl) (fun _ => .nil) ?_
    exact Hold.of (r88 w h s n (cI g_1 0) (cI g_1 1) lo hi) (br88 w h s n (cI g_1 0) (cI g_1 1) lo hi hp)
  · cases h
def e80 : List SV → Option (List Prop × SV)
  | [.agg [.int .i64 w, .int .i64 h, .int .i64 s, .sl 2 n g_1], .agg [.int .i64 lo, .int .i64 hi], .agg [.int .i64 dl, .int .i64 dh, .int .i64 ll, .int .i64 lh], .int .i64 c] => some ([Row 2 n g_1, R64 n], .tup [.agg [SI w, SI h, SI s, .sl 2 n (fun k => [SI ((cI g_1 0) k), SI ((cI g_1 1) k)]), SI lo, SI hi, SI dl, SI dh, SI ll, SI lh, SI c], SI (M.P.atE (M.P.mk (M.W.mk w h s n (cI g_1 0) (cI g_1 1) lo hi) dl dh ll lh c))])
  | _ => none
def Rr80 (w h s : Int) (n : Nat) (x y : Nat → Int) (lo hi dl dh ll lh c : Int) : Prop := (∀ (k : Nat), k < n → x k = x k ∧ y k = y k) ∧ R64 (↑n : Int) ∧ ((!decide (M.W.chk (M.W.mk w h s n x y lo hi) = (0 : Int))) = true → (w = w ∧ h = h ∧ s = s ∧ (n = n ∧ ∀ (k : Nat), k < n → x k = x k ∧ y k = y k) ∧ lo = lo ∧ hi = hi ∧ dl = dl ∧ dh = dh ∧ ll = ll ∧ lh = lh ∧ c = c) ∧ M.W.chk (M.W.mk w h s n x y lo hi) = M.P.atE (M.P.mk (M.W.mk w h s n x y lo hi) dl dh ll lh c)) ∧ ((!decide (M.W.chk (M.W.mk w h s n x y lo hi) = (0 : Int))) = false → ((!decide ((if (M.within dl dh (1 : Int) (10000 : Int) && M.within ll lh (1 : Int) (1024 : Int)) = true then (0 : Int) else (3 : Int)) = (0 : Int))) = true → (w = w ∧ h = h ∧ s = s ∧ (n = n ∧ ∀ (k : Nat), k < n → x k = x k ∧ y k = y k) ∧ lo = lo ∧ hi = hi ∧ dl = dl ∧ dh = dh ∧ ll = ll ∧ lh = lh ∧ c = c) ∧ (if (M.within dl dh (1 : Int) (10000 : Int) && M.within ll lh (1 : Int) (1024 : Int)) = true then (0 : Int) else (3 : Int)) = M.P.atE (M.P.mk (M.W.mk w h s n x y lo hi) dl dh ll lh c)) ∧ ((!decide ((if (M.within dl dh (1 : Int) (10000 : Int) && M.within ll lh (1 : Int) (1024 : Int)) = true then (0 : Int) else (3 : Int)) = (0 : Int))) = false → (∀ (k : Nat), k < n → x k = x k ∧ y k = y k) ∧ R64 (w * h) ∧ (w = w ∧ h = h ∧ s = s ∧ (n = n ∧ ∀ (k : Nat), k < n → x k = x k ∧ y k = y k) ∧ lo = lo ∧ hi = hi ∧ dl = dl ∧ dh = dh ∧ ll = ll ∧ lh = lh ∧ c = c) ∧ M.W.hasE (M.W.mk w h s n x y lo hi) c = M.P.atE (M.P.mk (M.W.mk w h s n x y lo hi) dl dh ll lh c)))
theorem r80 (w h s : Int) (n : Nat) (x y : Nat → Int) (lo hi dl dh ll lh c : Int) : V true [] [(88, pureE e88), (44, pureE e44), (57, pureE e57)] Try.f80 [0,1,2,3,4,5,6,8,9,10,11,12,23,29] [] [.agg [SI w, SI h, SI s, .sl 2 n (fun k => [SI (x k), SI (y k)])], .agg [SI lo, SI hi], .agg [SI dl, SI dh, SI ll, SI lh], SI c] (.tup [.agg [SI w, SI h, SI s, .sl 2 n (fun k => [SI (x k), SI (y k)]), SI lo, SI hi, SI dl, SI dh, SI ll, SI lh, SI c], SI (M.P.atE (M.P.mk (M.W.mk w h s n x y lo hi) dl dh ll lh c))]) = Rr80 w h s n x y lo hi dl dh ll lh c := by kernel_rfl
theorem br80 (w h s : Int) (n : Nat) (x y : Nat → Int) (lo hi dl dh ll lh c : Int) (hp : (R64 n) ∧ AllP []) : Rr80 w h s n x y lo hi dl dh ll lh c := by
  unfold Rr80
  have h0 := @M.W.chk_iff (M.W.mk w h s n x y lo hi)
  have hn := hp.1
  have ha : M.W.chk (M.W.mk w h s n x y lo hi) = 0 → R64 (w * h) := fun e => by
    have := h0.1 e
    have h1 := M.area this.w1 this.w2 this.h1 this.h2
    simp only at h1
    unfold R64; omega
  unfold M.P.atE M.modelE
  simp only
  clear h0
  generalize M.W.chk (M.W.mk w h s n x y lo hi) = e at *
  generalize M.W.hasE (M.W.mk w h s n x y lo hi) c = e' at *
  grind
theorem s80 : PureOK PP 80 e80 := by
  intro xs ps res h hp
  unfold e80 at h
  split at h
  · rename_i w h s n g_1 lo hi dl dh ll lh c
    simp only [Option.some.injEq, Prod.mk.injEq] at h
    obtain ⟨rfl, rfl⟩ := h
    simp only [AllP.cons] at hp
    obtain ⟨Hg_1, hp⟩ := hp
    refine Spec.args (ys := [.agg [SI w, SI h, SI s, .sl 2 n (fun k => [SI ((cI g_1 0) k), SI ((cI g_1 1) k)])], .agg [SI lo, SI hi], .agg [SI dl, SI dh, SI ll, SI lh], SI c]) ?_ (.cons (.agg (.cons (.refl _) (.cons (.refl _) (.cons (.refl _) (.cons (.row Hg_1 fun _ => rfl) .nil))))) (.cons (.refl _) (.cons (.refl _) (.cons (.refl _) .nil))))
    refine enter (L := [0,1,2,3,4,5,6,8,9,10,11,12,23,29]) (LO := []) (E := []) (O := [(88, pureE e88), (44, pureE e44), (57, pureE e57)]) (ck := true) (.nil) (.cons (pureE_ok s88) (.cons (pureE_ok s44) (.cons (pureE_ok s57) (.nil)))) (k := 80) (f := Try.f80) (xs := [.agg [SI w, SI h, SI s, .sl 2 n (fun k => [SI ((cI g_1 0) k), SI ((cI g_1 1) k)])], .agg [SI lo, SI hi], .agg [SI dl, SI dh, SI ll, SI lh], SI c]) (r := (.tup [.agg [SI w, SI h, SI s, .sl 2 n (fun k => [SI ((cI g_1 0) k), SI ((cI g_1 1) k)]), SI lo, SI hi, SI dl, SI dh, SI ll, SI lh, SI c], SI (M.P.atE (M.P.mk (M.W.mk w h s n (cI g_1 0) (cI g_1 1) lo hi) dl dh ll lh c))])) (by kernel_rfl) (by kernel_rfl) (fun _ => .nil) ?_
    exact Hold.of (r80 w h s n (cI g_1 0) (cI g_1 1) lo hi dl dh ll lh c) (br80 w h s n (cI g_1 0) (cI g_1 1) lo hi dl dh ll lh c hp)
  · cases h
end Go.Proofs.Ytkklmkogdogbkaa.Sep
