/-
  A storm within a storm: its wind lies within the other one's, in plain numbers. No condition. (This text proves no statement by itself.)
-/
import Derived.Test.YtkklmkogdogbkaaKS6
import Derived.Test.YtkklmkogdogbkaaKMod14
import Derived.Test.YtkklmkogdogbkaaKSep30

namespace Go.Proofs.Ytkklmkogdogbkaa.M
open Go
set_option linter.unusedVariables false
theorem flr_mono {n m : Int} (h0 : 0 ≤ n) (h : n ≤ m) (h1 : m ≤ 200000000000000) : flr n ≤ flr m := by
  obtain ⟨f, e, a1, a2, a3⟩ := flr_spec h0 (by omega)
  obtain ⟨f', e', b1, b2, b3⟩ := flr_spec (n := m) (by omega) h1
  rw [e, e']
  rcases Int.lt_or_le (f' : Int) f with h2 | h2
  · have := sq_mono (a := (f' : Int) + 1) (b := f) (by omega) (by omega)
    omega
  · exact h2
theorem root_mono {n m : Int} (h0 : 0 ≤ n) (h : n ≤ m) (h1 : m ≤ 200000000000000) : root n ≤ root m := by
  have h2 := flr_mono h0 h h1
  have b1 := flr_bd h0 (by omega)
  rw [← flr_up h0 (by omega), ← flr_up (n := m) (by omega) h1]
  rcases Int.lt_or_le (flr n) (flr m) with h3 | h3
  · split <;> split <;> omega
  · have e : flr n = flr m := by omega
    rw [e] at b1 ⊢
    split <;> split <;> omega
theorem flr_root {n : Int} (h0 : 0 ≤ n) (h1 : n ≤ 200000000000000) : flr n ≤ root n := by
  rw [← flr_up h0 h1]
  split <;> omega
/-- A storm within a storm, at the same cell. -/
structure Bl.isIn (g k : Bl) : Prop where
  w : k.w = g.w
  s : k.s = g.s
  c : k.c = g.c
  r : k.r = g.r
  x0 : g.x0 ≤ k.x0
  x1 : k.x1 ≤ g.x1
  y0 : g.y0 ≤ k.y0
  y1 : k.y1 ≤ g.y1
  m0 : g.m0 ≤ k.m0
  m1 : k.m1 ≤ g.m1
  l0 : g.l0 ≤ k.l0
  l1 : k.l1 ≤ g.l1
section
variable {g k : Bl} (hg : g.ok) (hk : k.ok) (h : g.isIn k)
include h
theorem Bl.isIn.vec : g.X0 ≤ k.X0 ∧ k.X1 ≤ g.X1 ∧ g.Y0 ≤ k.Y0 ∧ k.Y1 ≤ g.Y1 := by
  have := h.x0; have := h.x1; have := h.y0; have := h.y1
  unfold Bl.X0 Bl.X1 Bl.Y0 Bl.Y1
  rw [h.w, h.s, h.c]
  omega
include hg hk
theorem Bl.isIn.dist : g.D0 ≤ k.D0 ∧ k.D1 ≤ g.D1 ∧ k.D0 ≤ k.D1 := by
  have v := h.vec
  have a := hg.vec
  have b := hk.vec
  have sg := hg.sq
  have sk := hk.sq
  have n1 : 0 ≤ near g.X0 g.X1 ∧ near g.X0 g.X1 ≤ near k.X0 k.X1 ∧ near k.X0 k.X1 ≤ far k.X0 k.X1 ∧ far k.X0 k.X1 ≤ far g.X0 g.X1 := by unfold near far; omega
  have n2 : 0 ≤ near g.Y0 g.Y1 ∧ near g.Y0 g.Y1 ≤ near k.Y0 k.Y1 ∧ near k.Y0 k.Y1 ≤ far k.Y0 k.Y1 ∧ far k.Y0 k.Y1 ≤ far g.Y0 g.Y1 := by unfold near far; omega
  have q1 := sq_mono n1.1 n1.2.1
  have q2 := sq_mono (show 0 ≤ near k.X0 k.X1 by omega) n1.2.2.1
  have q3 := sq_mono (show 0 ≤ far k.X0 k.X1 by omega) n1.2.2.2
  have r1 := sq_mono n2.1 n2.2.1
  have r2 := sq_mono (show 0 ≤ near k.Y0 k.Y1 by omega) n2.2.2.1
  have r3 := sq_mono (show 0 ≤ far k.Y0 k.Y1 by omega) n2.2.2.2
  rw [Bl.D0_eq, Bl.D0_eq, Bl.D1_eq, Bl.D1_eq]
  refine ⟨flr_mono (by omega) (by omega) (by omega), root_mono (by omega) (by omega) (by omega), ?_⟩
  refine Int.le_trans (flr_root (by omega) (by omega)) (root_mono (by omega) (by omega) (by omega))
end
/-- The speed at a distance: it grows to the radius, then it falls. -/
theorem spd_lo {m m' D0 D D1 r : Int} (hm : 0 ≤ m) (hmm : m ≤ m') (h0 : 0 ≤ D0) (h1 : D0 ≤ D) (h2 : D ≤ D1) (hr : 1 ≤ r) : min (m * min D0 r / max D0 r) (m * min D1 r / max D1 r) ≤ m' * min D r / max D r := by
  rcases Int.le_total D r with h | h
  · have a := mul_mono hm hmm (show 0 ≤ min D0 r by omega) (show min D0 r ≤ min D r by omega)
    have := quo_mono a.1 a.2 (show 0 < max D r by omega) (show max D r ≤ max D0 r by omega)
    omega
  · have a := mul_mono hm hmm (show 0 ≤ min D1 r by omega) (show min D1 r ≤ min D r by omega)
    have := quo_mono a.1 a.2 (show 0 < max D r by omega) (show max D r ≤ max D1 r by omega)
    omega
theorem spd_hi {m m' D r : Int} (hm : 0 ≤ m) (hmm : m ≤ m') (h0 : 0 ≤ D) (hr : 1 ≤ r) : -(-(m * min D r) / max D r) ≤ m' := by
  refine cei_le (by omega) ?_
  exact (mul_mono hm hmm (show 0 ≤ min D r by omega) (show min D r ≤ max D r by omega)).2
theorem spd_up {m m' D0 D D1 r : Int} (hm : 0 ≤ m) (hmm : m ≤ m') (h0 : 0 ≤ D0) (h1 : D0 ≤ D) (h2 : D ≤ D1) (hr : 1 ≤ r) (ho : r < D0 ∨ D1 < r) : -(-(m * min D r) / max D r) ≤ max (-(-(m' * min D0 r) / max D0 r)) (-(-(m' * min D1 r) / max D1 r)) := by
  rcases ho with h | h
  · have a := mul_mono hm hmm (show 0 ≤ min D r by omega) (show min D r ≤ min D0 r by omega)
    have := cei_mono a.1 a.2 (show 0 < max D0 r by omega) (show max D0 r ≤ max D r by omega)
    omega
  · have a := mul_mono hm hmm (show 0 ≤ min D r by omega) (show min D r ≤ min D1 r by omega)
    have := cei_mono a.1 a.2 (show 0 < max D1 r by omega) (show max D1 r ≤ max D r by omega)
    omega
section
variable {g k : Bl} (hg : g.ok) (hk : k.ok) (h : g.isIn k)
include hg hk h
theorem Bl.isIn.speed : g.S0 ≤ k.S0 ∧ k.S1 ≤ g.S1 := by
  obtain ⟨d1, d2, d3⟩ := h.dist hg hk
  have e := hg.dist
  have e' := hk.dist
  have hr := h.r
  have := hg.r1
  have := hg.m2
  have := hk.m2
  have := h.m0
  have := h.m1
  have := hk.m1
  rw [Bl.S0_eq, Bl.S0_eq, Bl.S1_eq, Bl.S1_eq, hr]
  constructor
  · have a := spd_lo (m := g.m0) (m' := k.m0) (D0 := g.D0) (D := k.D0) (D1 := g.D1) (r := g.r) (by omega) (by omega) (by omega) (by omega) (by omega) (by omega)
    have b := spd_lo (m := g.m0) (m' := k.m0) (D0 := g.D0) (D := k.D1) (D1 := g.D1) (r := g.r) (by omega) (by omega) (by omega) (by omega) (by omega) (by omega)
    exact Int.le_min.2 ⟨a, b⟩
  · by_cases c : g.D0 ≤ g.r ∧ g.r ≤ g.D1
    · rw [if_pos c]
      split
      · omega
      · have a := spd_hi (m := k.m1) (m' := g.m1) (D := k.D0) (r := g.r) (by omega) (by omega) (by omega) (by omega)
        have b := spd_hi (m := k.m1) (m' := g.m1) (D := k.D1) (r := g.r) (by omega) (by omega) (by omega) (by omega)
        exact Int.max_le.2 ⟨a, b⟩
    · rw [if_neg c, if_neg (by omega)]
      have a := spd_up (m := k.m1) (m' := g.m1) (D0 := g.D0) (D := k.D0) (D1 := g.D1) (r := g.r) (by omega) (by omega) (by omega) (by omega) (by omega) (by omega) (by omega)
      have b := spd_up (m := k.m1) (m' := g.m1) (D0 := g.D0) (D := k.D1) (D1 := g.D1) (r := g.r) (by omega) (by omega) (by omega) (by omega) (by omega) (by omega) (by omega)
      exact Int.max_le.2 ⟨a, b⟩
theorem Bl.isIn.fall : g.F0 ≤ k.F0 := by
  obtain ⟨d1, d2, d3⟩ := h.dist hg hk
  have hr := h.r
  have := h.l0
  have := hk.l2
  unfold Bl.F0
  rw [hr]
  split <;> split <;> omega
end
theorem dirB_in {a b c d p q r s : Int} (h1 : a ≤ p) (h2 : q ≤ b) (h3 : c ≤ r) (h4 : s ≤ d) : ∀ k, k < 8 → dirB p q r s k = true → dirB a b c d k = true := by
  have A : ∀ {a b c d p q r s : Int}, a ≤ p → q ≤ b → c ≤ r → s ≤ d → ahead p q r s = true → ahead a b c d = true := fun {a b c d p q r s} h1 h2 h3 h4 h => by
    unfold ahead near at h ⊢
    simp only [Bool.and_eq_true, decide_eq_true_eq] at h ⊢
    omega
  have B : ∀ {a b c d p q r s : Int}, a ≤ p → q ≤ b → c ≤ r → s ≤ d → aslant p q r s = true → aslant a b c d = true := fun {a b c d p q r s} h1 h2 h3 h4 h => by
    unfold aslant at h ⊢
    simp only [Bool.and_eq_true, decide_eq_true_eq] at h ⊢
    omega
  intro k hk
  have : k = 0 ∨ k = 1 ∨ k = 2 ∨ k = 3 ∨ k = 4 ∨ k = 5 ∨ k = 6 ∨ k = 7 := by omega
  rcases this with e | e | e | e | e | e | e | e <;> subst e
  · exact A h1 h2 h3 h4
  · exact B h1 h2 h3 h4
  · exact A (a := c) (b := d) (c := -b) (d := -a) (p := r) (q := s) (r := -q) (s := -p) h3 h4 (by omega) (by omega)
  · exact B (a := c) (b := d) (c := -b) (d := -a) (p := r) (q := s) (r := -q) (s := -p) h3 h4 (by omega) (by omega)
  · exact A (a := -b) (b := -a) (c := -d) (d := -c) (p := -q) (q := -p) (r := -s) (s := -r) (by omega) (by omega) (by omega) (by omega)
  · exact B (a := -b) (b := -a) (c := -d) (d := -c) (p := -q) (q := -p) (r := -s) (s := -r) (by omega) (by omega) (by omega) (by omega)
  · exact A (a := -d) (b := -c) (c := a) (d := b) (p := -s) (q := -r) (r := p) (s := q) (by omega) (by omega) h1 h2
  · exact B (a := -d) (b := -c) (c := a) (d := b) (p := -s) (q := -r) (r := p) (s := q) (by omega) (by omega) h1 h2
theorem band_nat {a b : Nat} (ha : a < 256) (hb : b < 256) : band a b = ((a &&& b : Nat) : Int) := by
  have h := Nat.and_le_left (n := a) (m := b)
  have e : (BitVec.ofInt (IntKind.bits .i64) (a : Int) &&& BitVec.ofInt (IntKind.bits .i64) (b : Int)).toNat = a &&& b := by
    have b64 : IntKind.bits .i64 = 64 := rfl
    rw [BitVec.toNat_and, BitVec.toNat_ofInt, BitVec.toNat_ofInt, b64]
    have : ∀ n : Nat, n < 256 → ((n : Int) % ((2 ^ 64 : Nat) : Int)).toNat = n := fun n hn => by
      rw [Int.emod_eq_of_lt (by omega) (by omega)]; rfl
    rw [this a ha, this b hb]
  unfold band
  rw [e]
  exact Sep.wrap_R64 (by unfold Sep.R64; omega)
theorem heading_nat (a b c d : Int) : ∃ n : Nat, heading a b c d = n ∧ n < 256 := by
  unfold heading
  split
  · exact ⟨255, rfl, by omega⟩
  · exact ⟨_, sumB_pk _, pk_lt _ _ _ _ _ _ _ _⟩
theorem pkf_lt (f : Nat → Bool) : pkf f < 256 := pk_lt _ _ _ _ _ _ _ _
theorem heading_in {a b c d p q r s : Int} (h1 : a ≤ p) (h2 : q ≤ b) (h3 : c ≤ r) (h4 : s ≤ d) : band (heading p q r s) (heading a b c d) = heading p q r s := by
  obtain ⟨n, e, hn⟩ := heading_nat p q r s
  by_cases g : near a b = 0 ∧ near c d = 0
  · have e2 : heading a b c d = ((255 : Nat) : Int) := if_pos g
    rw [e, e2, band_nat hn (by omega)]
    have : n &&& 255 = n := by
      have := Nat.and_two_pow_sub_one_eq_mod n 8
      simpa [Nat.mod_eq_of_lt hn] using this
    rw [this]
  · have e2 : heading a b c d = (pkf (dirB a b c d) : Int) := (if_neg g).trans (sumB_pk _)
    have e1 : heading p q r s = (pkf (dirB p q r s) : Int) := (if_neg (by unfold near at g ⊢; omega)).trans (sumB_pk _)
    rw [e1, e2, band_nat (pkf_lt _) (pkf_lt _), pkf_and (dirB_in h1 h2 h3 h4)]
theorem Bl.isIn.head {g k : Bl} (h : g.isIn k) : band k.H g.H = k.H := by
  have v := h.vec
  unfold Bl.H
  exact heading_in (by omega) (by omega) (by omega) (by omega)
theorem heading_bd {a b c d : Int} (h1 : a ≤ b) (h2 : c ≤ d) : 1 ≤ heading a b c d ∧ heading a b c d ≤ 255 := by
  have t := turned (a := a) (b := b) (c := c) (d := d) (u := a) (v := c) (Int.le_refl _) h1 (Int.le_refl _) h2
  exact ⟨t.l1, t.l2⟩
theorem Bl.ok.windOk {g : Bl} (hg : g.ok) : wind g.S0 g.S1 g.H g.F0 g.l1 = true := by
  have e := hg.dist
  have v := hg.vec
  have := hg.r1
  have := hg.m1
  have := hg.m2
  have := hg.m3
  have := hg.l1
  have := hg.l2
  have := hg.l3
  have hd : g.D0 ≤ g.D1 := (Bl.isIn.dist hg hg ⟨rfl, rfl, rfl, rfl, Int.le_refl _, Int.le_refl _, Int.le_refl _, Int.le_refl _, Int.le_refl _, Int.le_refl _, Int.le_refl _, Int.le_refl _⟩).2.2
  have hh : 1 ≤ g.H ∧ g.H ≤ 255 := by
    unfold Bl.H
    exact heading_bd (by omega) (by omega)
  have P : ∀ D, 0 ≤ D → 0 ≤ g.m0 * min D g.r / max D g.r ∧ g.m0 * min D g.r / max D g.r ≤ g.m0 ∧ g.m0 * min D g.r / max D g.r ≤ -(-(g.m1 * min D g.r) / max D g.r) ∧ -(-(g.m1 * min D g.r) / max D g.r) ≤ g.m1 := fun D hD => by
    have a := mul_mono (a := g.m0) (b := g.m1) (by omega) (by omega) (show 0 ≤ min D g.r by omega) (Int.le_refl _)
    have b := (mul_mono (a := g.m0) (b := g.m0) (by omega) (by omega) (show 0 ≤ min D g.r by omega) (show min D g.r ≤ max D g.r by omega)).2
    have c1 := (quo_cei (a := g.m0 * min D g.r) (show 0 < max D g.r by omega)).1
    have c2 := cei_mono a.1 a.2 (show 0 < max D g.r by omega) (Int.le_refl _)
    refine ⟨Int.ediv_nonneg a.1 (by omega), Int.ediv_le_of_le_mul (by omega) b, by omega, spd_hi (by omega) (by omega) hD (by omega)⟩
  obtain ⟨p1, p2, p3, p4⟩ := P g.D0 (by omega)
  obtain ⟨q1, q2, q3, q4⟩ := P g.D1 (by omega)
  have hf : 0 ≤ g.F0 ∧ g.F0 ≤ g.l1 := by unfold Bl.F0; split <;> omega
  refine wind_iff.2 ⟨?_, ?_, ?_, hh.1, hh.2, by omega, hf.2, by omega⟩
  · rw [Bl.S0_eq]; omega
  · rw [Bl.S0_eq, Bl.S1_eq]; split <;> omega
  · rw [Bl.S1_eq]; split <;> omega
theorem blowE_in {w h s : Int} {n : Nat} {x y : Nat → Int} {x0 x1 y0 y1 r m0 m1 l0 l1 c u0 u1 v0 v1 p0 p1 q0 q1 : Int} (hE : blowE w h s n x y x0 x1 y0 y1 r m0 m1 l0 l1 c = 0)
    (hx : x0 ≤ u0 ∧ u0 ≤ u1 ∧ u1 ≤ x1) (hy : y0 ≤ v0 ∧ v0 ≤ v1 ∧ v1 ≤ y1) (hm : m0 ≤ p0 ∧ p0 ≤ p1 ∧ p1 ≤ m1) (hl : l0 ≤ q0 ∧ q0 ≤ q1 ∧ q1 ≤ l1) : blowE w h s n x y u0 u1 v0 v1 r p0 p1 q0 q1 c = 0 := by
  have ok := blow_ok hE
  obtain ⟨-, -, -, -, a1, a2, a3, b1, b2, b3, c1, c2, d1, d2, d3, e1, e2, e3⟩ := ok
  simp only at a1 a2 a3 b1 b2 b3 c1 c2 d1 d2 d3 e1 e2 e3
  have S : stormE x0 x1 y0 y1 r m0 m1 l0 l1 = 0 := by
    unfold stormE within
    rw [if_pos (by simp only [Bool.and_eq_true, decide_eq_true_eq]; omega)]
  have S' : stormE u0 u1 v0 v1 r p0 p1 q0 q1 = 0 := by
    unfold stormE within
    rw [if_pos (by simp only [Bool.and_eq_true, decide_eq_true_eq]; omega)]
  unfold blowE at hE ⊢
  rw [S] at hE
  rw [S']
  exact hE
/-- A cut lies within. -/
theorem of_in {m : Nat} {c0 c1 : Nat → Int} {n a b : Int} (hc : ∀ k, k < m → 0 ≤ c0 k ∧ c0 k ≤ 4294967295 ∧ 0 ≤ c1 k ∧ c1 k ≤ 4294967295) (hn : 0 ≤ n) (h : a ≤ b) : a ≤ ofLo m c0 n a b ∧ ofLo m c0 n a b ≤ ofHi m c0 c1 n a b ∧ ofHi m c0 c1 n a b ≤ b ∧ n ≤ ofN m n a b ∧ ofN m n a b ≤ n + 1 := by
  unfold ofLo ofHi ofN
  split
  · omega
  · rename_i g
    have gm : m ≠ 0 := fun e => g (.inl e)
    obtain ⟨k1, -⟩ := ofK_lt gm hn
    obtain ⟨a1, a2, a3, a4⟩ := hc _ k1
    have := cut_in (c0 := c0 (ofK m n)) (c1 := c1 (ofK m n)) a1 a3 h
    omega
end Go.Proofs.Ytkklmkogdogbkaa.M
