/-
  What the stage 'surge' computes, in plain numbers: the wind of a storm. No condition. (This text proves no statement by itself.)
-/
import Derived.Test.YtkklmkogdogbkaaMod4
namespace Go.Proofs.Ytkklmkogdogbkaa.M
/-- A storm and a cell. -/
structure Bl where
  w : Int
  s : Int
  c : Int
  x0 : Int
  x1 : Int
  y0 : Int
  y1 : Int
  r : Int
  m0 : Int
  m1 : Int
  l0 : Int
  l1 : Int
structure Bl.ok (g : Bl) : Prop where
  p1 : 0 ≤ g.c.tmod g.w * g.s
  p2 : g.c.tmod g.w * g.s ≤ 240000
  p3 : 0 ≤ g.c.tdiv g.w * g.s
  p4 : g.c.tdiv g.w * g.s ≤ 240000
  x1 : g.x0 ≤ g.x1
  x2 : -1000000 ≤ g.x0
  x3 : g.x1 ≤ 1000000
  y1 : g.y0 ≤ g.y1
  y2 : -1000000 ≤ g.y0
  y3 : g.y1 ≤ 1000000
  r1 : 1 ≤ g.r
  r2 : g.r ≤ 1000000
  m1 : g.m0 ≤ g.m1
  m2 : 0 ≤ g.m0
  m3 : g.m1 ≤ 10000
  l1 : g.l0 ≤ g.l1
  l2 : 0 ≤ g.l0
  l3 : g.l1 ≤ 20000
def Bl.X0 (g : Bl) : Int := g.c.tmod g.w * g.s - g.x1
def Bl.X1 (g : Bl) : Int := g.c.tmod g.w * g.s - g.x0
def Bl.Y0 (g : Bl) : Int := g.c.tdiv g.w * g.s - g.y1
def Bl.Y1 (g : Bl) : Int := g.c.tdiv g.w * g.s - g.y0
def Bl.D0 (g : Bl) : Int := root (near g.X0 g.X1 * near g.X0 g.X1 + near g.Y0 g.Y1 * near g.Y0 g.Y1 + 1) - 1
def Bl.D1 (g : Bl) : Int := root (far g.X0 g.X1 * far g.X0 g.X1 + far g.Y0 g.Y1 * far g.Y0 g.Y1)
def Bl.D (g : Bl) (k : Nat) : Int := bif decide (k = 1) then g.D1 else g.D0
def Bl.sLo (g : Bl) (k : Nat) : Int := g.m0 * min (g.D k) g.r / max (g.D k) g.r
def Bl.sHi (g : Bl) (k : Nat) : Int := -(-(g.m1 * min (g.D k) g.r) / max (g.D k) g.r)
/-- The speed, the bearing and the fall of pressure. -/
def Bl.S0 (g : Bl) : Int := min (g.sLo 0) (g.sLo 1)
def Bl.S1 (g : Bl) : Int := if g.D0 ≤ g.r ∧ g.r ≤ g.D1 then g.m1 else max (g.sHi 0) (g.sHi 1)
def Bl.H (g : Bl) : Int := heading (-g.Y1) (-g.Y0) g.X0 g.X1
def Bl.F0 (g : Bl) : Int := if g.r < g.D1 then 0 else g.l0
theorem first_pos {p : Nat → Bool} {n : Nat} (hn : 0 < n) (h : p 0 = false) : 1 ≤ first p n := by
  have h1 := (first_spec p n).2.2
  rcases Nat.eq_zero_or_pos (first p n) with h2 | h2
  · rw [h2] at h1
    have := h1 hn
    rw [h] at this; cases this
  · exact h2
theorem first_posI {p : Nat → Bool} {n : Nat} (hn : 0 < n) (h : p 0 = false) : (1 : Int) ≤ ((first p n : Nat) : Int) := by
  have := first_pos hn h
  omega
theorem root_eq {n : Int} {N : Nat} (hN : N = 16777216) : root n = ((first (fun k : Nat => decide (n ≤ (k : Int) * k)) N : Nat) : Int) := by subst hN; rfl
theorem root_pos {n : Int} (h : 1 ≤ n) : 1 ≤ root n := by
  obtain ⟨N, hN⟩ : ∃ N, N = 16777216 := ⟨_, rfl⟩
  rw [root_eq hN]
  exact first_posI (by omega) (decide_eq_false (by simp; omega))
theorem sq_bd {a m : Int} (h : 0 ≤ a) (h' : a ≤ m) : 0 ≤ a * a ∧ a * a ≤ m * m := mul_bd h h' h h'
theorem Bl.ok.vec {g : Bl} (h : g.ok) : -1000000 ≤ g.X0 ∧ g.X0 ≤ g.X1 ∧ g.X1 ≤ 1240000 ∧ -1000000 ≤ g.Y0 ∧ g.Y0 ≤ g.Y1 ∧ g.Y1 ≤ 1240000 := by
  obtain ⟨p1, p2, p3, p4, x1, x2, x3, y1, y2, y3, -, -, -, -, -, -, -, -⟩ := h
  unfold X0 X1 Y0 Y1
  omega
theorem near_bd {a b m : Int} (h0 : 0 ≤ m) (h1 : -m ≤ a) (h2 : a ≤ b) (h3 : b ≤ m) : 0 ≤ near a b ∧ near a b ≤ m ∧ 0 ≤ far a b ∧ far a b ≤ m := by
  unfold near far; omega
theorem Bl.ok.sq {g : Bl} (h : g.ok) : (0 ≤ near g.X0 g.X1 * near g.X0 g.X1 ∧ near g.X0 g.X1 * near g.X0 g.X1 ≤ 1537600000000) ∧ (0 ≤ near g.Y0 g.Y1 * near g.Y0 g.Y1 ∧ near g.Y0 g.Y1 * near g.Y0 g.Y1 ≤ 1537600000000) ∧
    (0 ≤ far g.X0 g.X1 * far g.X0 g.X1 ∧ far g.X0 g.X1 * far g.X0 g.X1 ≤ 1537600000000) ∧ (0 ≤ far g.Y0 g.Y1 * far g.Y0 g.Y1 ∧ far g.Y0 g.Y1 * far g.Y0 g.Y1 ≤ 1537600000000) := by
  have hv := h.vec
  have a := near_bd (a := g.X0) (b := g.X1) (m := 1240000) (by omega) (by omega) (by omega) (by omega)
  have b := near_bd (a := g.Y0) (b := g.Y1) (m := 1240000) (by omega) (by omega) (by omega) (by omega)
  exact ⟨sq_bd a.1 a.2.1, sq_bd b.1 b.2.1, sq_bd a.2.2.1 a.2.2.2, sq_bd b.2.2.1 b.2.2.2⟩
theorem Bl.ok.dist {g : Bl} (h : g.ok) : 0 ≤ g.D0 ∧ g.D0 ≤ 16777216 ∧ 0 ≤ g.D1 ∧ g.D1 ≤ 16777216 := by
  have := h.sq
  unfold D0 D1
  have a := root_le (near g.X0 g.X1 * near g.X0 g.X1 + near g.Y0 g.Y1 * near g.Y0 g.Y1 + 1)
  have b := root_pos (n := near g.X0 g.X1 * near g.X0 g.X1 + near g.Y0 g.Y1 * near g.Y0 g.Y1 + 1) (by omega)
  have c := root_le (far g.X0 g.X1 * far g.X0 g.X1 + far g.Y0 g.Y1 * far g.Y0 g.Y1)
  omega

theorem cond_bd {b : Bool} {p q l u : Int} (hp : l ≤ p ∧ p ≤ u) (hq : l ≤ q ∧ q ≤ u) : l ≤ (bif b then p else q) ∧ (bif b then p else q) ≤ u := by
  cases b
  · exact hq
  · exact hp
theorem Bl.ok.hD {g : Bl} (h : g.ok) (k : Nat) : 0 ≤ g.D k ∧ g.D k ≤ 16777216 := by
  have hd := h.dist
  exact cond_bd ⟨hd.2.2.1, hd.2.2.2⟩ ⟨hd.1, hd.2.1⟩
theorem spd {D r m0 m1 : Int} (hD : 0 ≤ D ∧ D ≤ 16777216) (r1 : 1 ≤ r) (r2 : r ≤ 1000000) (a1 : m0 ≤ m1) (a2 : 0 ≤ m0) (a3 : m1 ≤ 10000) : 1 ≤ max D r ∧ max D r ≤ 16777216 ∧ 0 ≤ m0 * min D r ∧ m0 * min D r ≤ 10000000000 ∧ 0 ≤ m1 * min D r ∧ m1 * min D r ≤ 10000000000 ∧ 0 ≤ m0 * min D r / max D r ∧ m0 * min D r / max D r ≤ 10000000000 ∧ 0 ≤ -(-(m1 * min D r) / max D r) ∧ -(-(m1 * min D r) / max D r) ≤ 10000000000 := by
  have a := mul_bd (a := m0) (b := min D r) (p := 10000) (q := 1000000) (by omega) (by omega) (by omega) (by omega)
  have b := mul_bd (a := m1) (b := min D r) (p := 10000) (q := 1000000) (by omega) (by omega) (by omega) (by omega)
  have hm : 1 ≤ max D r ∧ max D r ≤ 16777216 := by omega
  have e1 := ediv_le (b := max D r) (by omega) a.1
  have e2 := ediv_abs (a := -(m1 * min D r)) (b := max D r) (m := 10000000000) (by omega) (by omega) (by omega)
  have e3 : -(m1 * min D r) / max D r ≤ 0 := by
    have := Int.ediv_le_ediv (c := max D r) (by omega) (show -(m1 * min D r) ≤ 0 by omega)
    simpa using this
  refine ⟨hm.1, hm.2, a.1, by omega, b.1, by omega, e1.1, by omega, by omega, by omega⟩
theorem Bl.ok.speed {g : Bl} (h : g.ok) (k : Nat) : 1 ≤ max (g.D k) g.r ∧ max (g.D k) g.r ≤ 16777216 ∧ 0 ≤ g.m0 * min (g.D k) g.r ∧ g.m0 * min (g.D k) g.r ≤ 10000000000 ∧ 0 ≤ g.m1 * min (g.D k) g.r ∧ g.m1 * min (g.D k) g.r ≤ 10000000000 ∧ 0 ≤ g.sLo k ∧ g.sLo k ≤ 10000000000 ∧ 0 ≤ g.sHi k ∧ g.sHi k ≤ 10000000000 :=
  spd (h.hD k) h.r1 h.r2 h.m1 h.m2 h.m3
/-- The error of a wind of a storm. -/
def blowE (w h s : Int) (n : Nat) (x y : Nat → Int) (x0 x1 y0 y1 r m0 m1 l0 l1 c : Int) : Int :=
  if gridE w h s n x y = 0 then if stormE x0 x1 y0 y1 r m0 m1 l0 l1 = 0 then if decide (c < 0) || decide (w * h ≤ c) then 4 else 0 else stormE x0 x1 y0 y1 r m0 m1 l0 l1 else gridE w h s n x y
theorem blow_ok {w h s : Int} {n : Nat} {x y : Nat → Int} {x0 x1 y0 y1 r m0 m1 l0 l1 c : Int} (hE : blowE w h s n x y x0 x1 y0 y1 r m0 m1 l0 l1 c = 0) : (Bl.mk w s c x0 x1 y0 y1 r m0 m1 l0 l1).ok := by
  unfold blowE at hE
  have h1 : gridE w h s n x y = 0 := by
    split at hE
    · assumption
    · exact hE
  rw [if_pos h1] at hE
  have h2 : stormE x0 x1 y0 y1 r m0 m1 l0 l1 = 0 := by
    split at hE
    · assumption
    · exact hE
  rw [if_pos h2] at hE
  obtain ⟨a1, a2, a3, a4, a5, a6, -, -⟩ := gridE_iff.1 h1
  unfold stormE within at h2
  have h3 : ¬ (decide (c < 0) || decide (w * h ≤ c)) = true := by
    intro h3; rw [if_pos h3] at hE; cases hE
  simp only [Bool.or_eq_true, decide_eq_true_eq] at h3
  split at h2
  · rename_i h4
    simp only [Bool.and_eq_true, decide_eq_true_eq] at h4
    have hc := cell_at (w := w) (h := h) (c := c) a1 (by omega) (by omega)
    have m1 := mul_bd (a := c.tmod w) (b := s) (p := 24) (q := 10000) (by omega) (by omega) (by omega) a6
    have m2 := mul_bd (a := c.tdiv w) (b := s) (p := 24) (q := 10000) (by omega) (by omega) (by omega) a6
    constructor <;> simp only <;> omega
  · cases h2
end Go.Proofs.Ytkklmkogdogbkaa.M
