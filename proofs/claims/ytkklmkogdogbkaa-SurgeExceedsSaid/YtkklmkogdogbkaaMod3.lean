/-
  What the stage 'surge' computes, in plain numbers: setups, steady states, runs. No condition. (This text proves no statement by itself.)
-/
import Derived.Test.YtkklmkogdogbkaaMod2
namespace Go.Proofs.Ytkklmkogdogbkaa.M
/-- The error of water. -/
def W.chk (g : W) : Int := if gridE g.w g.h g.s g.n g.x g.y = 0 then if within g.lo g.hi (-20000) 20000 then 0 else 3 else gridE g.w g.h g.s g.n g.x g.y
theorem gridE_iff {w h s : Int} {n : Nat} {x y : Nat → Int} : gridE w h s n x y = 0 ↔ 1 ≤ w ∧ w ≤ 24 ∧ 1 ≤ h ∧ h ≤ 24 ∧ 1 ≤ s ∧ s ≤ 10000 ∧ (n : Int) = w * h ∧ ∀ k, k < n → okS x y k = true := by
  unfold gridE
  rw [← allB_iff]
  split
  · rename_i h1
    simp only [Bool.and_eq_true, decide_eq_true_eq] at h1
    split
    · rename_i h2
      split
      · rename_i h3; exact ⟨fun _ => ⟨by omega, by omega, by omega, by omega, by omega, by omega, h2, h3⟩, fun _ => rfl⟩
      · rename_i h3; exact ⟨fun h => absurd h (by decide), fun h => (h3 h.2.2.2.2.2.2.2).elim⟩
    · rename_i h2; exact ⟨fun h => absurd h (by decide), fun h => (h2 h.2.2.2.2.2.2.1).elim⟩
  · rename_i h1
    simp only [Bool.and_eq_true, decide_eq_true_eq] at h1
    constructor
    · intro h; cases h
    · intro h; exact (h1 (by omega)).elim
theorem W.chk_iff {g : W} : g.chk = 0 ↔ g.ok := by
  unfold chk
  constructor
  · intro h
    have h1 : gridE g.w g.h g.s g.n g.x g.y = 0 := by
      split at h
      · assumption
      · exact h
    rw [if_pos h1] at h
    have h2 : within g.lo g.hi (-20000) 20000 = true := by
      split at h
      · assumption
      · cases h
    obtain ⟨a1, a2, a3, a4, a5, a6, a7, a8⟩ := gridE_iff.1 h1
    simp only [within, Bool.and_eq_true, decide_eq_true_eq] at h2
    refine ⟨a1, a2, a3, a4, a5, a6, a7, fun k hk => ?_, h2.1.1, h2.1.2, h2.2⟩
    have := a8 k hk
    simp only [okS, within, Bool.and_eq_true, decide_eq_true_eq] at this
    omega
  · intro h
    rw [if_pos (gridE_iff.2 ⟨h.w1, h.w2, h.h1, h.h2, h.s1, h.s2, h.nn, fun k hk => ?_⟩), if_pos]
    · have := h.s3; have := h.s4; have := h.s5
      simp only [within, Bool.and_eq_true, decide_eq_true_eq]; omega
    · have := h.gr k hk
      simp only [okS, within, Bool.and_eq_true, decide_eq_true_eq]; omega
def W.hasE (g : W) (c : Int) : Int := if decide (c < 0) || decide (g.w * g.h ≤ c) then 4 else 0
def modelE (a b c d : Int) : Int := if within a b 1 10000 && within c d 1 1024 then 0 else 3
/-- The error of a place. -/
def P.atE (p : P) : Int := if p.chk = 0 then if modelE p.dl p.dh p.ll p.lh = 0 then p.hasE p.c else modelE p.dl p.dh p.ll p.lh else p.chk
theorem P.atE_iff {p : P} : p.atE = 0 ↔ p.ok := by
  unfold atE
  constructor
  · intro h
    have h1 : p.chk = 0 := by
      split at h
      · assumption
      · exact h
    rw [if_pos h1] at h
    have h2 : modelE p.dl p.dh p.ll p.lh = 0 := by
      split at h
      · assumption
      · exact h
    rw [if_pos h2] at h
    have h3 := W.chk_iff.1 h1
    unfold modelE at h2
    unfold W.hasE at h
    have h4 : within p.dl p.dh 1 10000 && within p.ll p.lh 1 1024 := by
      split at h2
      · assumption
      · cases h2
    have h5 : ¬ (decide (p.c < 0) || decide (p.w * p.h ≤ p.c)) := by
      intro h6; rw [if_pos h6] at h; cases h
    simp only [within, Bool.and_eq_true, decide_eq_true_eq, Bool.or_eq_true, not_or] at h4 h5
    refine ⟨h3, ?_, ?_, ?_, ?_, ?_, ?_, ?_, ?_⟩ <;> omega
  · intro h
    have := h.d1; have := h.d2; have := h.d3; have := h.l1; have := h.l2; have := h.l3; have := h.c1; have := h.c2
    have h2 : modelE p.dl p.dh p.ll p.lh = 0 := by
      unfold modelE
      rw [if_pos]
      simp only [within, Bool.and_eq_true, decide_eq_true_eq]; omega
    rw [if_pos (W.chk_iff.2 h.g), if_pos h2]
    unfold W.hasE
    rw [if_neg]
    simp only [Bool.or_eq_true, decide_eq_true_eq]; omega
/-- The setup of a direction. -/
def P.slo (p : P) (d v0 v1 : Int) : Int := p.rlo ((d + 4).tmod 8) v0 - p.rhi d v1
def P.shi (p : P) (d v0 v1 : Int) : Int := p.rhi ((d + 4).tmod 8) v1 - p.rlo d v0
theorem P.ok.setup {p : P} (h : p.ok) {d v0 v1 : Int} (hd : 0 ≤ d) (hd' : d ≤ 7) (hv : 0 ≤ v0) (hv' : v0 ≤ v1) (hv2 : v1 ≤ 10000) :
    -8522905553 ≤ p.slo d v0 v1 ∧ p.slo d v0 v1 ≤ 8522905553 ∧ -8522905553 ≤ p.shi d v0 v1 ∧ p.shi d v0 v1 ≤ 8522905553 := by
  have h1 := h.rise hd hd' hv hv' hv2
  have h2 := h.rise (d := (d + 4).tmod 8) (Int.tmod_nonneg _ (by omega)) (by have := Int.tmod_lt_of_pos (d + 4) (show (0 : Int) < 8 by omega); omega) hv hv' hv2
  unfold slo shi
  omega
/-- The error of a setup. -/
def P.setE (p : P) (d v0 v1 : Int) : Int := if p.atE = 0 then if decide (d < 0) || decide (7 < d) || !within v0 v1 0 10000 then 3 else 0 else p.atE
def has (m : Int) (d : Nat) : Bool := decide ((m.toNat / 2 ^ d) % 2 = 1)
/-- The directions of a mask. -/
def sets (m : Int) : Nat → List Int
  | 0 => []
  | d + 1 => if has m d then sets m d ++ [(d : Int)] else sets m d
theorem sets_mem {m : Int} {x : Int} : ∀ {d : Nat}, x ∈ sets m d ↔ ∃ e : Nat, e < d ∧ has m e = true ∧ x = e
  | 0 => by simp [sets]
  | d + 1 => by
    simp only [sets]
    split
    · rename_i h
      simp only [List.mem_append, List.mem_singleton, sets_mem (d := d)]
      constructor
      · rintro (⟨e, h1, h2, h3⟩ | h1)
        · exact ⟨e, by omega, h2, h3⟩
        · exact ⟨d, by omega, h, h1⟩
      · rintro ⟨e, h1, h2, h3⟩
        by_cases e' : e = d
        · subst e'; exact .inr h3
        · exact .inl ⟨e, by omega, h2, h3⟩
    · rename_i h
      rw [sets_mem (d := d)]
      constructor
      · rintro ⟨e, h1, h2, h3⟩
        exact ⟨e, by omega, h2, h3⟩
      · rintro ⟨e, h1, h2, h3⟩
        by_cases e' : e = d
        · subst e'; exact (h h2).elim
        · exact ⟨e, by omega, h2, h3⟩
/-- How many directions a mask has. -/
def cntS (m : Int) (d : Nat) : Nat := (sets m d).length
theorem sets_len (m : Int) : ∀ d, (sets m d).length ≤ d
  | 0 => by simp [sets]
  | d + 1 => by
    have := sets_len m d
    simp only [sets]
    split <;> simp <;> omega
theorem sets_pos {m : Int} (h1 : 1 ≤ m) (h2 : m ≤ 255) : 1 ≤ cntS m 8 := by
  obtain ⟨n, rfl⟩ : ∃ n : Nat, m = n := ⟨m.toNat, by omega⟩
  have h : ∃ e : Nat, e < 8 ∧ has n e = true := by
    simp only [has, Int.toNat_natCast, decide_eq_true_eq]
    by_cases e0 : n / 2 ^ 0 % 2 = 1
    · exact ⟨0, by omega, e0⟩
    by_cases e1 : n / 2 ^ 1 % 2 = 1
    · exact ⟨1, by omega, e1⟩
    by_cases e2 : n / 2 ^ 2 % 2 = 1
    · exact ⟨2, by omega, e2⟩
    by_cases e3 : n / 2 ^ 3 % 2 = 1
    · exact ⟨3, by omega, e3⟩
    by_cases e4 : n / 2 ^ 4 % 2 = 1
    · exact ⟨4, by omega, e4⟩
    by_cases e5 : n / 2 ^ 5 % 2 = 1
    · exact ⟨5, by omega, e5⟩
    by_cases e6 : n / 2 ^ 6 % 2 = 1
    · exact ⟨6, by omega, e6⟩
    by_cases e7 : n / 2 ^ 7 % 2 = 1
    · exact ⟨7, by omega, e7⟩
    omega
  obtain ⟨e, h3, h4⟩ := h
  have := sets_mem.2 ⟨e, h3, h4, rfl⟩
  exact List.length_pos_of_mem this
theorem cntS_succ (m : Int) (d : Nat) : cntS m (d + 1) = if has m d then cntS m d + 1 else cntS m d := by
  simp only [cntS, sets]
  split <;> simp
theorem get_succ {m : Int} {d : Nat} (h : has m d = true) {k : Nat} (hk : k < cntS m d + 1) : (sets m (d + 1)).getD k 0 = if k < cntS m d then (sets m d).getD k 0 else d := by
  simp only [sets, if_pos h, List.getD_eq_getElem?_getD]
  unfold cntS at *
  split
  · rename_i h1; rw [List.getElem?_append_left h1]
  · rename_i h1
    rw [List.getElem?_append_right (by omega), show k - (sets m d).length = 0 by omega]; rfl
theorem cntS_le (m : Int) (d : Nat) : cntS m d ≤ d := sets_len m d
theorem sets_get {m : Int} {k d : Nat} (hk : k < cntS m d) : 0 ≤ (sets m d).getD k 0 ∧ (sets m d).getD k 0 < d := by
  have h : (sets m d).getD k 0 ∈ sets m d := by
    rw [List.getD_eq_getElem?_getD, List.getElem?_eq_getElem (show k < (sets m d).length from hk)]
    exact List.getElem_mem _
  obtain ⟨e, h1, h2, h3⟩ := sets_mem.1 h
  omega
def P.setLo (p : P) (m v0 v1 : Int) (d k : Nat) : Int := p.slo ((sets m d).getD k 0) v0 v1
def P.setHi (p : P) (m v0 v1 : Int) (d k : Nat) : Int := p.shi ((sets m d).getD k 0) v0 v1
/-- The steady state of a wind. -/
def P.stLo (p : P) (v0 v1 m q0 : Int) : Int := low (fun k => p.setLo m v0 v1 8 (k + 1)) (p.setLo m v0 v1 8 0) (cntS m 8 - 1) + 2560 * q0 / 981
def P.stHi (p : P) (v0 v1 m q1 : Int) : Int := high (fun k => p.setHi m v0 v1 8 (k + 1)) (p.setHi m v0 v1 8 0) (cntS m 8 - 1) + -(-(2560 * q1) / 981)
theorem low_bd {x : Nat → Int} {a l u : Int} (ha : l ≤ a ∧ a ≤ u) : ∀ {n : Nat}, (∀ k, k < n → l ≤ x k ∧ x k ≤ u) → l ≤ low x a n ∧ low x a n ≤ u
  | 0, _ => ha
  | n + 1, h => by
    have h1 := low_bd ha (n := n) fun k hk => h k (by omega)
    have h2 := h n (by omega)
    simp only [low]; omega
theorem high_bd {x : Nat → Int} {a l u : Int} (ha : l ≤ a ∧ a ≤ u) : ∀ {n : Nat}, (∀ k, k < n → l ≤ x k ∧ x k ≤ u) → l ≤ high x a n ∧ high x a n ≤ u
  | 0, _ => ha
  | n + 1, h => by
    have h1 := high_bd ha (n := n) fun k hk => h k (by omega)
    have h2 := h n (by omega)
    simp only [high]; omega
structure WindOk (v0 v1 m q0 q1 : Int) : Prop where
  a1 : 0 ≤ v0
  a2 : v0 ≤ v1
  a3 : v1 ≤ 10000
  a4 : 1 ≤ m
  a5 : m ≤ 255
  a6 : -20000 ≤ q0
  a7 : q0 ≤ q1
  a8 : q1 ≤ 20000
theorem wind_iff {v0 v1 m q0 q1 : Int} : wind v0 v1 m q0 q1 = true ↔ WindOk v0 v1 m q0 q1 := by
  simp only [wind, within, Bool.and_eq_true, decide_eq_true_eq]
  constructor
  · intro h; constructor <;> omega
  · intro h; have := h.a1; have := h.a2; have := h.a3; have := h.a4; have := h.a5; have := h.a6; have := h.a7; have := h.a8; omega
theorem P.ok.sets {p : P} (h : p.ok) {v0 v1 m q0 q1 : Int} (hw : WindOk v0 v1 m q0 q1) {k : Nat} (hk : k < cntS m 8) :
    -8522905553 ≤ p.setLo m v0 v1 8 k ∧ p.setLo m v0 v1 8 k ≤ 8522905553 ∧ -8522905553 ≤ p.setHi m v0 v1 8 k ∧ p.setHi m v0 v1 8 k ≤ 8522905553 := by
  have := sets_get hk
  exact h.setup this.1 (by omega) hw.a1 hw.a2 hw.a3
theorem P.ok.hull {p : P} (h : p.ok) {v0 v1 m q0 q1 : Int} (hw : WindOk v0 v1 m q0 q1) :
    -8522905553 ≤ low (fun k => p.setLo m v0 v1 8 (k + 1)) (p.setLo m v0 v1 8 0) (cntS m 8 - 1) ∧ low (fun k => p.setLo m v0 v1 8 (k + 1)) (p.setLo m v0 v1 8 0) (cntS m 8 - 1) ≤ 8522905553 ∧
    -8522905553 ≤ high (fun k => p.setHi m v0 v1 8 (k + 1)) (p.setHi m v0 v1 8 0) (cntS m 8 - 1) ∧ high (fun k => p.setHi m v0 v1 8 (k + 1)) (p.setHi m v0 v1 8 0) (cntS m 8 - 1) ≤ 8522905553 := by
  have h0 := sets_pos hw.a4 hw.a5
  have a := h.sets hw (k := 0) (by omega)
  have l := low_bd (x := fun k => p.setLo m v0 v1 8 (k + 1)) (a := p.setLo m v0 v1 8 0) (l := -8522905553) (u := 8522905553) ⟨a.1, a.2.1⟩ (n := cntS m 8 - 1) fun k hk => by
    have := h.sets hw (k := k + 1) (by omega); exact ⟨this.1, this.2.1⟩
  have r := high_bd (x := fun k => p.setHi m v0 v1 8 (k + 1)) (a := p.setHi m v0 v1 8 0) (l := -8522905553) (u := 8522905553) ⟨a.2.2.1, a.2.2.2⟩ (n := cntS m 8 - 1) fun k hk => by
    have := h.sets hw (k := k + 1) (by omega); exact ⟨this.2.2.1, this.2.2.2⟩
  exact ⟨l.1, l.2, r.1, r.2⟩
theorem P.ok.steady {p : P} (h : p.ok) {v0 v1 m q0 q1 : Int} (hw : WindOk v0 v1 m q0 q1) :
    -9000000000 ≤ p.stLo v0 v1 m q0 ∧ p.stLo v0 v1 m q0 ≤ 9000000000 ∧ -9000000000 ≤ p.stHi v0 v1 m q1 ∧ p.stHi v0 v1 m q1 ≤ 9000000000 := by
  have := h.hull hw
  have := hw.a6; have := hw.a7; have := hw.a8
  unfold stLo stHi
  omega
/-- One step towards a steady state. -/
def fLo (ll lh a c : Int) : Int := a + (if c < a then lh else ll) * (c - a) / 1024
def fHi (ll lh b d : Int) : Int := b + -(-((if d < b then ll else lh) * (d - b)) / 1024)
theorem mul_lag {l x B : Int} (h1 : 1 ≤ l) (h2 : l ≤ 1024) (hx : -B ≤ x) (hx' : x ≤ B) : -(1024 * B) ≤ l * x ∧ l * x ≤ 1024 * B ∧ (0 ≤ x → 0 ≤ l * x ∧ l * x ≤ 1024 * x) ∧ (x ≤ 0 → l * x ≤ 0 ∧ 1024 * x ≤ l * x) := by
  rcases Int.le_total 0 x with h | h
  · have a := Int.mul_nonneg (show 0 ≤ l by omega) h
    have b := Int.mul_le_mul_of_nonneg_right h2 h
    refine ⟨by omega, by omega, fun _ => ⟨a, b⟩, fun h' => ?_⟩
    have : x = 0 := by omega
    subst this; simp
  · have a := Int.mul_nonneg (show 0 ≤ l by omega) (show 0 ≤ -x by omega)
    have b := Int.mul_le_mul_of_nonneg_right h2 (show 0 ≤ -x by omega)
    rw [Int.mul_neg] at a b
    rw [Int.mul_neg] at b
    refine ⟨by omega, by omega, fun h' => ?_, fun _ => ⟨by omega, by omega⟩⟩
    have : x = 0 := by omega
    subst this; simp
theorem fLo_bd {ll lh a c B : Int} (h1 : 1 ≤ ll) (h2 : ll ≤ lh) (h3 : lh ≤ 1024) (ha : -B ≤ a ∧ a ≤ B) (hc : -B ≤ c ∧ c ≤ B) : -B ≤ fLo ll lh a c ∧ fLo ll lh a c ≤ B := by
  unfold fLo
  split
  · have := (mul_lag (l := lh) (x := c - a) (B := 2 * B) (by omega) h3 (by omega) (by omega)).2.2.2 (by omega)
    generalize lh * (c - a) = q at *
    omega
  · have := (mul_lag (l := ll) (x := c - a) (B := 2 * B) h1 (by omega) (by omega) (by omega)).2.2.1 (by omega)
    generalize ll * (c - a) = q at *
    omega
theorem fHi_bd {ll lh a c B : Int} (h1 : 1 ≤ ll) (h2 : ll ≤ lh) (h3 : lh ≤ 1024) (ha : -B ≤ a ∧ a ≤ B) (hc : -B ≤ c ∧ c ≤ B) : -B ≤ fHi ll lh a c ∧ fHi ll lh a c ≤ B := by
  unfold fHi
  split
  · have := (mul_lag (l := ll) (x := c - a) (B := 2 * B) h1 (by omega) (by omega) (by omega)).2.2.2 (by omega)
    generalize ll * (c - a) = q at *
    omega
  · have := (mul_lag (l := lh) (x := c - a) (B := 2 * B) (by omega) h3 (by omega) (by omega)).2.2.1 (by omega)
    generalize lh * (c - a) = q at *
    omega
/-- Winds. -/
structure Ws where
  n : Nat
  v0 : Nat → Int
  v1 : Nat → Int
  m : Nat → Int
  q0 : Nat → Int
  q1 : Nat → Int
def Ws.okW (g : Ws) (k : Nat) : Bool := wind (g.v0 k) (g.v1 k) (g.m k) (g.q0 k) (g.q1 k)
/-- The sea after k winds. -/
def P.rLo (p : P) (a : Int) (g : Ws) : Nat → Int
  | 0 => a
  | k + 1 => fLo p.ll p.lh (p.rLo a g k) (p.stLo (g.v0 k) (g.v1 k) (g.m k) (g.q0 k))
def P.rHi (p : P) (b : Int) (g : Ws) : Nat → Int
  | 0 => b
  | k + 1 => fHi p.ll p.lh (p.rHi b g k) (p.stHi (g.v0 k) (g.v1 k) (g.m k) (g.q1 k))
theorem P.ok.run {p : P} (h : p.ok) {a b : Int} {g : Ws} (ha : -1099511627776 ≤ a ∧ a ≤ 1099511627776) (hb : -1099511627776 ≤ b ∧ b ≤ 1099511627776) : ∀ {k : Nat}, (∀ j, j < k → g.okW j = true) →
    (-1099511627776 ≤ p.rLo a g k ∧ p.rLo a g k ≤ 1099511627776) ∧ -1099511627776 ≤ p.rHi b g k ∧ p.rHi b g k ≤ 1099511627776
  | 0, _ => ⟨ha, hb⟩
  | k + 1, hk => by
    have h1 := h.run ha hb (k := k) fun j hj => hk j (by omega)
    have h2 := h.steady (wind_iff.1 (hk k (by omega)))
    exact ⟨fLo_bd h.l1 h.l2 h.l3 h1.1 ⟨by omega, by omega⟩, fHi_bd h.l1 h.l2 h.l3 h1.2 ⟨by omega, by omega⟩⟩
/-- The error of a run. -/
def P.runE (p : P) (a b : Int) (g : Ws) : Int :=
  if p.atE = 0 then if within a b (-1099511627776) 1099511627776 then if 500 < g.n then 9 else if allB g.okW g.n then 0 else 3 else 3 else p.atE
def P.steadyE (p : P) (v0 v1 m q0 q1 : Int) : Int := if p.atE = 0 then if wind v0 v1 m q0 q1 then 0 else 3 else p.atE
/-- The first one that is greater. -/
def W.fetE (g : W) (c d : Int) : Int := if g.chk = 0 then if g.hasE c = 0 then if decide (d < 0) || decide (7 < d) then 3 else 0 else g.hasE c else g.chk
end Go.Proofs.Ytkklmkogdogbkaa.M
