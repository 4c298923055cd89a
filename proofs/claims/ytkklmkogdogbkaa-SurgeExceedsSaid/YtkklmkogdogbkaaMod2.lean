/-
  What the stage 'surge' computes, in plain numbers: water, rays, rises. No condition. (This text proves no statement by itself.)
-/
import Derived.Test.YtkklmkogdogbkaaMod
namespace Go.Proofs.Ytkklmkogdogbkaa.M
/-- A number that is not too great. -/
def Sm (x : Int) : Prop := -100000000000000000 ≤ x ∧ x ≤ 100000000000000000

/-- Ground with a span of levels of the sea. -/
structure W where
  w : Int
  h : Int
  s : Int
  n : Nat
  x : Nat → Int
  y : Nat → Int
  lo : Int
  hi : Int
structure W.ok (g : W) : Prop where
  w1 : 1 ≤ g.w
  w2 : g.w ≤ 24
  h1 : 1 ≤ g.h
  h2 : g.h ≤ 24
  s1 : 1 ≤ g.s
  s2 : g.s ≤ 10000
  nn : (g.n : Int) = g.w * g.h
  gr : ∀ k, k < g.n → g.x k ≤ g.y k ∧ -1200000 ≤ g.x k ∧ g.y k ≤ 1200000
  s3 : g.lo ≤ g.hi
  s4 : -20000 ≤ g.lo
  s5 : g.hi ≤ 20000
theorem W.ok.n_le {g : W} (h : g.ok) : 1 ≤ g.n ∧ g.n ≤ 576 := by
  have := area h.w1 h.w2 h.h1 h.h2
  have := h.nn
  omega

def dx (d : Int) : Int := [1, 1, 0, -1, -1, -1, 0, 1].getD d.toNat 0
def dy (d : Int) : Int := [0, 1, 1, 1, 0, -1, -1, -1].getD d.toNat 0
theorem dir_cases {d : Int} (h : 0 ≤ d) (h' : d ≤ 7) : d = 0 ∨ d = 1 ∨ d = 2 ∨ d = 3 ∨ d = 4 ∨ d = 5 ∨ d = 6 ∨ d = 7 := by omega
theorem dxy {d : Int} (h : 0 ≤ d) (h' : d ≤ 7) : -1 ≤ dx d ∧ dx d ≤ 1 ∧ -1 ≤ dy d ∧ dy d ≤ 1 ∧ (dx d ≠ 0 ∨ dy d ≠ 0) := by
  rcases dir_cases h h' with e | e | e | e | e | e | e | e <;> subst e <;> decide
/-- The column and the row of the k-th cell of a ray. -/
def rx (w c d : Int) (k : Nat) : Int := c.tmod w + (k + 1) * dx d
def ry (w c d : Int) (k : Nat) : Int := c.tdiv w + (k + 1) * dy d
theorem rx_0 (w c d : Int) : rx w c d 0 = c.tmod w + dx d := by simp [rx]
theorem ry_0 (w c d : Int) : ry w c d 0 = c.tdiv w + dy d := by simp [ry]
theorem rx_succ (w c d : Int) (k : Nat) : rx w c d (k + 1) = rx w c d k + dx d := by simp only [rx, Int.natCast_add, Int.add_mul]; omega
theorem ry_succ (w c d : Int) (k : Nat) : ry w c d (k + 1) = ry w c d k + dy d := by simp only [ry, Int.natCast_add, Int.add_mul]; omega
def inn (w h c d : Int) (k : Nat) : Bool := decide (0 ≤ rx w c d k) && decide (rx w c d k < w) && decide (0 ≤ ry w c d k) && decide (ry w c d k < h)
def rayN (w h c d : Int) : Nat := first (fun k => !inn w h c d k) 24
def rayC (w c d : Int) (k : Nat) : Int := ry w c d k * w + rx w c d k

theorem cell_at {w h c : Int} (hw : 1 ≤ w) (hc : 0 ≤ c) (hc' : c < w * h) : 0 ≤ c.tmod w ∧ c.tmod w < w ∧ 0 ≤ c.tdiv w ∧ c.tdiv w < h := by
  have h1 := Int.tmod_nonneg w hc
  have h2 := Int.tmod_lt_of_pos c (show 0 < w by omega)
  have h3 := Int.tdiv_nonneg hc (show 0 ≤ w by omega)
  refine ⟨h1, h2, h3, ?_⟩
  rw [Int.tdiv_eq_ediv_of_nonneg hc]
  exact Int.ediv_lt_of_lt_mul (by omega) (by rw [Int.mul_comm]; exact hc')
theorem inn_out {w h c d : Int} (hw : 1 ≤ w) (hw2 : w ≤ 24) (h2 : h ≤ 24) (hc : 0 ≤ c) (hc' : c < w * h) (hd : 0 ≤ d) (hd' : d ≤ 7) : inn w h c d 23 = false := by
  obtain ⟨a1, a2, a3, a4⟩ := cell_at hw hc hc'
  obtain ⟨b1, b2, b3, b4, b5⟩ := dxy hd hd'
  unfold inn rx ry
  generalize dx d = p at *
  generalize dy d = q at *
  have hp : p = -1 ∨ p = 0 ∨ p = 1 := by omega
  have hq : q = -1 ∨ q = 0 ∨ q = 1 := by omega
  rcases hp with e | e | e <;> rcases hq with e' | e' | e' <;> subst e <;> subst e' <;> simp <;> omega
theorem rayN_lt {w h c d : Int} (hw : 1 ≤ w) (hw2 : w ≤ 24) (h2 : h ≤ 24) (hc : 0 ≤ c) (hc' : c < w * h) (hd : 0 ≤ d) (hd' : d ≤ 7) : rayN w h c d < 24 ∧ inn w h c d (rayN w h c d) = false := by
  have ho := inn_out hw hw2 h2 hc hc' hd hd'
  obtain ⟨h1, h3, h4⟩ := first_spec (fun k => !inn w h c d k) 24
  have : rayN w h c d < 24 := by
    rcases Nat.lt_or_ge (rayN w h c d) 24 with h5 | h5
    · exact h5
    · have := h3 23 (by unfold rayN at h5; omega)
      simp [ho] at this
  exact ⟨this, by have := h4 this; unfold rayN; simpa using this⟩
theorem inn_rayN {w h c d : Int} {k : Nat} (hk : k < rayN w h c d) : inn w h c d k = true := by
  obtain ⟨-, h3, -⟩ := first_spec (fun k => !inn w h c d k) 24
  simpa using h3 k hk
theorem rayN_eq {w h c d : Int} {k : Nat} (hk : k < 24) (hi : ∀ j, j < k → inn w h c d j = true) (hn : inn w h c d k = false) : rayN w h c d = k :=
  first_at hk (fun j hj => by simp [hi j hj]) (by simp [hn])
theorem inn_iff {w h c d : Int} {k : Nat} : inn w h c d k = true ↔ 0 ≤ rx w c d k ∧ rx w c d k < w ∧ 0 ≤ ry w c d k ∧ ry w c d k < h := by
  simp only [inn, Bool.and_eq_true, decide_eq_true_eq]; constructor
  · rintro ⟨⟨⟨a, b⟩, c⟩, d⟩; exact ⟨a, b, c, d⟩
  · rintro ⟨a, b, c, d⟩; exact ⟨⟨⟨a, b⟩, c⟩, d⟩
theorem rayC_in {w h c d : Int} {k : Nat} (hw : 1 ≤ w) (hk : inn w h c d k = true) : 0 ≤ rayC w c d k ∧ rayC w c d k < w * h ∧ 0 ≤ ry w c d k * w ∧ ry w c d k * w ≤ w * h := by
  obtain ⟨h1, h2, h3, h4⟩ := inn_iff.1 hk
  unfold rayC
  have a := Int.mul_nonneg h3 (show 0 ≤ w by omega)
  have b := Int.mul_le_mul_of_nonneg_right (show ry w c d k ≤ h - 1 by omega) (show 0 ≤ w by omega)
  rw [Int.sub_mul, Int.one_mul, Int.mul_comm h w] at b
  omega

/-- The depth of a cell. -/
def W.dlo (g : W) (c : Int) : Int := g.lo - g.y c.toNat
def W.dhi (g : W) (c : Int) : Int := g.hi - g.x c.toNat
theorem W.ok.depth {g : W} (h : g.ok) {c : Int} (hc : 0 ≤ c) (hc' : c < g.w * g.h) : c.toNat < g.n ∧ g.dlo c ≤ g.dhi c ∧ -1220000 ≤ g.dlo c ∧ g.dhi c ≤ 1220000 := by
  have h1 := h.nn
  have h2 : c.toNat < g.n := by omega
  have h3 := h.gr _ h2
  have := h.s3; have := h.s4; have := h.s5
  unfold dlo dhi
  omega
/-- The k-th cell of a ray is sea for sure, or maybe. -/
def W.sea (g : W) (c d : Int) (sure : Bool) (k : Nat) : Bool := (!sure || decide (1 ≤ g.dlo (rayC g.w c d k))) && decide (1 ≤ g.dhi (rayC g.w c d k))
def W.fetchN (g : W) (c d : Int) (sure : Bool) : Nat := first (fun k => !g.sea c d sure k) (rayN g.w g.h c d)
def W.ray (g : W) (c d : Int) (k : Nat) : Int := rayC g.w c d k
theorem W.fetchN_le (g : W) (c d : Int) (sure : Bool) : g.fetchN c d sure ≤ rayN g.w g.h c d := (first_spec _ _).1
theorem W.sea_fetchN {g : W} {c d : Int} {sure : Bool} {k : Nat} (hk : k < g.fetchN c d sure) : g.sea c d sure k = true := by
  obtain ⟨-, h3, -⟩ := first_spec (fun k => !g.sea c d sure k) (rayN g.w g.h c d)
  simpa using h3 k hk
def sum (f : Nat → Int) : Nat → Int
  | 0 => 0
  | k + 1 => sum f k + f k
theorem sum_le {f : Nat → Int} {a b : Int} : ∀ {n : Nat}, (∀ k, k < n → a ≤ f k ∧ f k ≤ b) → n * a ≤ sum f n ∧ sum f n ≤ n * b
  | 0, _ => by simp [sum]
  | n + 1, h => by
    have h1 := sum_le (n := n) fun k hk => h k (by omega)
    have h2 := h n (by omega)
    simp only [sum, Int.natCast_add, Int.add_mul]
    omega
theorem sum_congr {f g : Nat → Int} : ∀ {n : Nat}, (∀ k, k < n → f k = g k) → sum f n = sum g n
  | 0, _ => rfl
  | n + 1, h => by simp only [sum, sum_congr (n := n) fun k hk => h k (by omega), h n (by omega)]
/-- A product within bounds. -/
theorem mul_bd {a b p q : Int} (h1 : 0 ≤ a) (h2 : a ≤ p) (h3 : 0 ≤ b) (h4 : b ≤ q) : 0 ≤ a * b ∧ a * b ≤ p * q :=
  ⟨Int.mul_nonneg h1 h3, Int.mul_le_mul h2 h4 h3 (by omega)⟩

/-- A place. -/
structure P extends W where
  dl : Int
  dh : Int
  ll : Int
  lh : Int
  c : Int
structure P.ok (p : P) : Prop where
  g : W.ok p.toW
  d1 : 1 ≤ p.dl
  d2 : p.dl ≤ p.dh
  d3 : p.dh ≤ 10000
  l1 : 1 ≤ p.ll
  l2 : p.ll ≤ p.lh
  l3 : p.lh ≤ 1024
  c1 : 0 ≤ p.c
  c2 : p.c < p.w * p.h
def long (s d : Int) : Int := if d.tmod 2 = 1 then 141 * s else 100 * s
def wide (s d : Int) : Int := if d.tmod 2 = 1 then 142 * s else 100 * s
def tlo (dl v a b : Int) : Int := (dl * v * v * a) / (3832031250 * b)
def thi (dh v a b : Int) : Int := -(-(dh * v * v * a) / (3832031250 * max 1 b))
def P.rlo (p : P) (d v : Int) : Int := sum (fun k => tlo p.dl v (long p.s d) (p.dhi (p.ray p.c d k))) (p.fetchN p.c d true)
def P.rhi (p : P) (d v : Int) : Int := sum (fun k => thi p.dh v (wide p.s d) (p.dlo (p.ray p.c d k))) (p.fetchN p.c d false)
theorem tlo_bd {dl v a b : Int} (h1 : 1 ≤ dl) (h2 : dl ≤ 10000) (h3 : 0 ≤ v) (h4 : v ≤ 10000) (h5 : 0 ≤ a) (h6 : a ≤ 1420000) (h7 : 1 ≤ b) (h8 : b ≤ 1220000) :
    0 ≤ dl * v ∧ dl * v ≤ 100000000 ∧ 0 ≤ dl * v * v ∧ dl * v * v ≤ 1000000000000 ∧ 0 ≤ dl * v * v * a ∧ dl * v * v * a ≤ 1420000000000000000 ∧ 0 ≤ tlo dl v a b ∧ tlo dl v a b ≤ 370561111 := by
  obtain ⟨a1, a2⟩ := mul_bd (show 0 ≤ dl by omega) h2 h3 h4
  obtain ⟨a3, a4⟩ := mul_bd a1 a2 h3 h4
  obtain ⟨a5, a6⟩ := mul_bd a3 a4 h5 h6
  refine ⟨a1, a2, a3, a4, a5, a6, Int.ediv_nonneg a5 (by omega), ?_⟩
  unfold tlo
  have := Int.ediv_le_of_le_mul (a := dl * v * v * a) (b := 370561111) (c := 3832031250 * b) (by omega) (by omega)
  exact this
theorem thi_bd {dh v a b : Int} (h1 : 1 ≤ dh) (h2 : dh ≤ 10000) (h3 : 0 ≤ v) (h4 : v ≤ 10000) (h5 : 0 ≤ a) (h6 : a ≤ 1420000) (h8 : b ≤ 1220000) :
    0 ≤ dh * v ∧ dh * v ≤ 100000000 ∧ 0 ≤ dh * v * v ∧ dh * v * v ≤ 1000000000000 ∧ 0 ≤ dh * v * v * a ∧ dh * v * v * a ≤ 1420000000000000000 ∧ 0 ≤ thi dh v a b ∧ thi dh v a b ≤ 370561111 := by
  obtain ⟨a1, a2⟩ := mul_bd (show 0 ≤ dh by omega) h2 h3 h4
  obtain ⟨a3, a4⟩ := mul_bd a1 a2 h3 h4
  obtain ⟨a5, a6⟩ := mul_bd a3 a4 h5 h6
  refine ⟨a1, a2, a3, a4, a5, a6, ?_⟩
  unfold thi
  have hm : 1 ≤ max 1 b ∧ max 1 b ≤ 1220000 := by omega
  generalize max 1 b = m at *
  have e1 : -(dh * v * v * a) / (3832031250 * m) ≤ 0 := by
    have := Int.ediv_le_ediv (c := 3832031250 * m) (by omega) (show -(dh * v * v * a) ≤ 0 by omega)
    simpa using this
  have e2 : -370561111 ≤ -(dh * v * v * a) / (3832031250 * m) := by
    rw [Int.le_ediv_iff_mul_le (by omega)]
    omega
  omega
theorem wl_bd {s d : Int} (h1 : 1 ≤ s) (h2 : s ≤ 10000) : 0 ≤ long s d ∧ long s d ≤ 1420000 ∧ 0 ≤ wide s d ∧ wide s d ≤ 1420000 := by
  unfold long wide
  split <;> omega
theorem P.ok.fetch {p : P} (h : p.ok) {d : Int} (hd : 0 ≤ d) (hd' : d ≤ 7) {sure : Bool} {k : Nat} (hk : k < p.fetchN p.c d sure) : p.fetchN p.c d sure ≤ 23 ∧ (sure = true → 1 ≤ p.dlo (p.ray p.c d k)) ∧ 1 ≤ p.dhi (p.ray p.c d k) ∧ p.dhi (p.ray p.c d k) ≤ 1220000 ∧ p.dlo (p.ray p.c d k) ≤ 1220000 ∧ -1220000 ≤ p.dlo (p.ray p.c d k) := by
  have h1 := p.fetchN_le p.c d sure
  have h2 := (rayN_lt h.g.w1 h.g.w2 h.g.h2 h.c1 h.c2 hd hd').1
  have h3 := W.sea_fetchN hk
  have h4 := rayC_in h.g.w1 (inn_rayN (show k < rayN p.w p.h p.c d by omega))
  have h5 := h.g.depth (c := p.ray p.c d k) h4.1 h4.2.1
  unfold W.sea at h3
  unfold W.ray at *
  simp only [Bool.and_eq_true, Bool.or_eq_true, Bool.not_eq_true', decide_eq_true_eq] at h3
  refine ⟨by omega, fun e => ?_, h3.2, h5.2.2.2, by omega, h5.2.2.1⟩
  rcases h3.1 with h6 | h6
  · rw [e] at h6; cases h6
  · exact h6
theorem P.ok.rise {p : P} (h : p.ok) {d v0 v1 : Int} (hd : 0 ≤ d) (hd' : d ≤ 7) (hv : 0 ≤ v0) (hv' : v0 ≤ v1) (hv2 : v1 ≤ 10000) : 0 ≤ p.rlo d v0 ∧ p.rlo d v0 ≤ 8522905553 ∧ 0 ≤ p.rhi d v1 ∧ p.rhi d v1 ≤ 8522905553 := by
  have hw := wl_bd (d := d) h.g.s1 h.g.s2
  have h1 := p.fetchN_le p.c d true
  have h2 := p.fetchN_le p.c d false
  have h3 := (rayN_lt h.g.w1 h.g.w2 h.g.h2 h.c1 h.c2 hd hd').1
  have h4 := sum_le (f := fun k => tlo p.dl v0 (long p.s d) (p.dhi (p.ray p.c d k))) (a := 0) (b := 370561111) (n := p.fetchN p.c d true) fun k hk => by
    have := h.fetch hd hd' hk
    have := tlo_bd h.d1 (show p.dl ≤ 10000 by have := h.d2; have := h.d3; omega) hv (show v0 ≤ 10000 by omega) hw.1 hw.2.1 this.2.2.1 this.2.2.2.1
    exact this.2.2.2.2.2.2
  have h5 := sum_le (f := fun k => thi p.dh v1 (wide p.s d) (p.dlo (p.ray p.c d k))) (a := 0) (b := 370561111) (n := p.fetchN p.c d false) fun k hk => by
    have := h.fetch hd hd' hk
    have := thi_bd (show 1 ≤ p.dh by have := h.d1; have := h.d2; omega) h.d3 (show 0 ≤ v1 by omega) hv2 hw.2.2.1 hw.2.2.2 this.2.2.2.2.1
    exact this.2.2.2.2.2.2
  unfold P.rlo P.rhi
  omega
end Go.Proofs.Ytkklmkogdogbkaa.M
