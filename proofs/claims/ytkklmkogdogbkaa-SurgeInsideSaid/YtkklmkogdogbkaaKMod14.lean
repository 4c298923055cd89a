/-
  What the stage 'surge' computes, in plain numbers: what lies within what, of fetches, rises, setups and steady levels. No condition. (This text proves no statement by itself.)
-/
import Derived.Test.YtkklmkogdogbkaaKS6

namespace Go.Proofs.Ytkklmkogdogbkaa.M
theorem quo_mono {a a' b b' : Int} (h0 : 0 ≤ a) (h1 : a ≤ a') (h2 : 0 < b') (h3 : b' ≤ b) : a / b ≤ a' / b' := by
  have hq : 0 ≤ a / b := Int.ediv_nonneg h0 (by omega)
  have e1 : a / b * b ≤ a := Int.ediv_mul_le a (by omega)
  have e2 := Int.mul_le_mul_of_nonneg_left h3 hq
  exact Int.le_ediv_of_mul_le h2 (by omega)
theorem cei_ge {a b : Int} (hb : 0 < b) : a ≤ -(-a / b) * b := by
  have := Int.ediv_mul_le (-a) (show b ≠ 0 by omega)
  rw [Int.neg_mul]; omega
theorem cei_le {a b m : Int} (hb : 0 < b) (h : a ≤ m * b) : -(-a / b) ≤ m := by
  have := Int.le_ediv_of_mul_le (a := -m) (b := -a) hb (by rw [Int.neg_mul]; omega)
  omega
theorem quo_cei {a b : Int} (hb : 0 < b) : a / b ≤ -(-a / b) ∧ -(-a / b) - a / b ≤ 1 := by
  have h1 := Int.mul_ediv_add_emod a b
  have h2 := Int.emod_nonneg a (show b ≠ 0 by omega)
  have h3 := Int.emod_lt_of_pos a hb
  have h4 := Int.mul_ediv_add_emod (-a) b
  have h5 := Int.emod_nonneg (-a) (show b ≠ 0 by omega)
  have h6 := Int.emod_lt_of_pos (-a) hb
  generalize a / b = q at *
  generalize -a / b = r at *
  generalize a % b = e at *
  generalize -a % b = e' at *
  have e : b * (q + r) = -(e + e') := by rw [Int.mul_add]; omega
  have g1 : q + r < 1 := by
    rcases Int.lt_or_le (q + r) 1 with h | h
    · exact h
    · have := Int.mul_le_mul_of_nonneg_left h (show 0 ≤ b by omega); omega
  have g2 : -2 < q + r := by
    rcases Int.lt_or_le (-2) (q + r) with h | h
    · exact h
    · have := Int.mul_le_mul_of_nonneg_left h (show 0 ≤ b by omega); omega
  omega
theorem cei_nonneg {a b : Int} (hb : 0 < b) (h : 0 ≤ a) : 0 ≤ -(-a / b) := by
  have h1 := (quo_cei (a := a) hb).1
  have h2 : 0 ≤ a / b := Int.ediv_nonneg h (by omega)
  omega
theorem cei_mono {a a' b b' : Int} (h0 : 0 ≤ a) (h1 : a ≤ a') (h2 : 0 < b') (h3 : b' ≤ b) : -(-a / b) ≤ -(-a' / b') := by
  have hm : 0 ≤ -(-a' / b') := cei_nonneg h2 (by omega)
  have e1 := cei_ge (a := a') h2
  have e2 := Int.mul_le_mul_of_nonneg_left h3 hm
  exact cei_le (by omega) (by omega)
theorem sum_mono {f g : Nat → Int} : ∀ {n : Nat}, (∀ k, k < n → f k ≤ g k) → sum f n ≤ sum g n
  | 0, _ => Int.le_refl _
  | n + 1, h => by
    have := sum_mono (n := n) fun k hk => h k (by omega)
    have := h n (by omega)
    simp only [sum]; omega
theorem sum_more {f : Nat → Int} {n : Nat} : ∀ {m : Nat}, n ≤ m → (∀ k, k < m → 0 ≤ f k) → sum f n ≤ sum f m
  | 0, h, _ => by rw [show n = 0 by omega]; exact Int.le_refl _
  | m + 1, h, hf => by
    rcases Nat.lt_or_ge m n with h1 | h1
    · rw [show n = m + 1 by omega]; exact Int.le_refl _
    · have := sum_more (n := n) (m := m) h1 fun k hk => hf k (by omega)
      have := hf m (by omega)
      simp only [sum]; omega
theorem sum_zero {f : Nat → Int} : ∀ {n : Nat}, (∀ k, k < n → f k = 0) → sum f n = 0
  | 0, _ => rfl
  | n + 1, h => by simp only [sum]; rw [sum_zero fun k hk => h k (by omega), h n (by omega)]; rfl
theorem sum_gap {f g : Nat → Int} : ∀ {n : Nat}, (∀ k, k < n → g k - f k ≤ 1) → sum g n - sum f n ≤ n
  | 0, _ => by simp [sum]
  | n + 1, h => by
    have := sum_gap (n := n) fun k hk => h k (by omega)
    have := h n (by omega)
    simp only [sum]; omega
theorem mul_mono {a b c d : Int} (h0 : 0 ≤ a) (h1 : a ≤ b) (h2 : 0 ≤ c) (h3 : c ≤ d) : 0 ≤ a * c ∧ a * c ≤ b * d := ⟨Int.mul_nonneg h0 h2, Int.mul_le_mul h1 h3 h2 (by omega)⟩
theorem num_mono {d d' v v' a a' : Int} (h1 : 0 ≤ d) (h2 : d ≤ d') (h3 : 0 ≤ v) (h4 : v ≤ v') (h5 : 0 ≤ a) (h6 : a ≤ a') : 0 ≤ d * v * v * a ∧ d * v * v * a ≤ d' * v' * v' * a' := by
  obtain ⟨a1, a2⟩ := mul_mono h1 h2 h3 h4
  obtain ⟨a3, a4⟩ := mul_mono a1 a2 h3 h4
  exact mul_mono a3 a4 h5 h6
theorem tlo_mono {d d' v v' a b b' : Int} (h1 : 0 ≤ d) (h2 : d ≤ d') (h3 : 0 ≤ v) (h4 : v ≤ v') (h5 : 0 ≤ a) (h6 : 1 ≤ b') (h7 : b' ≤ b) : tlo d v a b ≤ tlo d' v' a b' := by
  obtain ⟨n1, n2⟩ := num_mono h1 h2 h3 h4 h5 (Int.le_refl a)
  exact quo_mono n1 n2 (by omega) (by omega)
theorem thi_mono {d d' v v' a b b' : Int} (h1 : 0 ≤ d) (h2 : d ≤ d') (h3 : 0 ≤ v) (h4 : v ≤ v') (h5 : 0 ≤ a) (h7 : b' ≤ b) : thi d v a b ≤ thi d' v' a b' := by
  obtain ⟨n1, n2⟩ := num_mono h1 h2 h3 h4 h5 (Int.le_refl a)
  exact cei_mono n1 n2 (by omega) (by omega)
theorem tlo_thi {d d' v v' a a' b b' : Int} (h1 : 0 ≤ d) (h2 : d ≤ d') (h3 : 0 ≤ v) (h4 : v ≤ v') (h5 : 0 ≤ a) (h6 : a ≤ a') (h7 : 1 ≤ b') (h8 : b' ≤ b) : tlo d v a b ≤ thi d' v' a' b' := by
  obtain ⟨n1, n2⟩ := num_mono h1 h2 h3 h4 h5 h6
  have e1 : tlo d v a b ≤ d' * v' * v' * a' / (3832031250 * b') := quo_mono n1 n2 (by omega) (by omega)
  have e2 := (quo_cei (a := d' * v' * v' * a') (b := 3832031250 * b') (by omega)).1
  have e3 : thi d' v' a' b' = -(-(d' * v' * v' * a') / (3832031250 * max 1 b')) := rfl
  rw [show max 1 b' = b' by omega] at e3
  omega
theorem thi_nonneg {d v a b : Int} (h1 : 0 ≤ d) (h3 : 0 ≤ v) (h5 : 0 ≤ a) : 0 ≤ thi d v a b :=
  cei_nonneg (by omega) (num_mono h1 (Int.le_refl d) h3 (Int.le_refl v) h5 (Int.le_refl a)).1
theorem tlo_nonneg {d v a b : Int} (h1 : 0 ≤ d) (h3 : 0 ≤ v) (h5 : 0 ≤ a) (hb : 1 ≤ b) : 0 ≤ tlo d v a b :=
  Int.ediv_nonneg (num_mono h1 (Int.le_refl d) h3 (Int.le_refl v) h5 (Int.le_refl a)).1 (by omega)
theorem long_wide {s d : Int} (h : 1 ≤ s) : 0 ≤ long s d ∧ long s d ≤ wide s d := by
  unfold long wide; split <;> omega
theorem first_mono {p q : Nat → Bool} {n : Nat} (h : ∀ k, k < n → q k = true → p k = true) : first p n ≤ first q n := by
  obtain ⟨a1, a2, a3⟩ := first_spec p n
  obtain ⟨b1, b2, b3⟩ := first_spec q n
  rcases Nat.lt_or_ge (first q n) (first p n) with h1 | h1
  · have := a2 _ h1
    rw [h _ (by omega) (b3 (by omega))] at this; cases this
  · exact h1
theorem sea_iff {g : W} {c d : Int} {sure : Bool} {k : Nat} : g.sea c d sure k = true ↔ (sure = true → 1 ≤ g.dlo (rayC g.w c d k)) ∧ 1 ≤ g.dhi (rayC g.w c d k) := by
  unfold W.sea
  cases sure <;> simp
/-- A place within another one. -/
structure P.isIn (q p : P) : Prop where
  w : q.w = p.w
  h : q.h = p.h
  s : q.s = p.s
  n : q.n = p.n
  c : q.c = p.c
  x : ∀ k, k < p.n → p.x k ≤ q.x k
  y : ∀ k, k < p.n → q.y k ≤ p.y k
  lo : p.lo ≤ q.lo
  hi : q.hi ≤ p.hi
  dl : p.dl ≤ q.dl
  dh : q.dh ≤ p.dh
  ll : p.ll ≤ q.ll
  lh : q.lh ≤ p.lh
theorem P.isIn.refl (p : P) : p.isIn p := ⟨rfl, rfl, rfl, rfl, rfl, fun _ _ => Int.le_refl _, fun _ _ => Int.le_refl _, Int.le_refl _, Int.le_refl _, Int.le_refl _, Int.le_refl _, Int.le_refl _, Int.le_refl _⟩
section
variable {p q : P} (hp : p.ok) (hq : q.ok) (hi : q.isIn p) {d : Int} (hd : 0 ≤ d) (hd' : d ≤ 7)
include hp hi
theorem P.isIn.depth {k : Nat} (hk : k < rayN p.w p.h p.c d) : p.dlo (rayC p.w p.c d k) ≤ q.dlo (rayC p.w p.c d k) ∧ q.dhi (rayC p.w p.c d k) ≤ p.dhi (rayC p.w p.c d k) := by
  have h1 := rayC_in (d := d) hp.g.w1 (inn_rayN hk)
  have h2 := hp.g.depth h1.1 h1.2.1
  have h3 := hi.x _ h2.1
  have h4 := hi.y _ h2.1
  have h5 := hi.lo; have h6 := hi.hi
  unfold W.dlo W.dhi
  omega
include hq in
theorem P.isIn.fet : p.fetchN p.c d true ≤ q.fetchN q.c d true ∧ q.fetchN q.c d false ≤ p.fetchN p.c d false := by
  unfold W.fetchN
  rw [hi.w, hi.h, hi.c]
  refine ⟨first_mono fun k hk hs => ?_, first_mono fun k hk hs => ?_⟩ <;>
  · have h1 := hi.depth hp (d := d) hk
    have h2 := rayC_in (d := d) hp.g.w1 (inn_rayN hk)
    have h3 := hq.g.depth (c := rayC p.w p.c d k) h2.1 (by rw [hi.w, hi.h]; exact h2.2.1)
    simp only [Bool.not_eq_true', Bool.eq_false_iff, ne_eq, sea_iff] at hs ⊢
    have ew := hi.w
    try rw [ew] at hs
    try rw [ew]
    intro h4
    apply hs
    have h5 := h4.1; have h6 := h4.2
    refine ⟨fun e => ?_, ?_⟩ <;> first | (have h7 := h5 trivial; omega) | omega | (cases e)
omit hi hp in
theorem P.fet (p : P) (d : Int) : p.fetchN p.c d true ≤ p.fetchN p.c d false := by
  unfold W.fetchN
  refine first_mono fun k hk hs => ?_
  simp only [Bool.not_eq_true', Bool.eq_false_iff, ne_eq, sea_iff] at hs ⊢
  exact fun h => hs ⟨fun e => (by cases e), h.2⟩
include hq hd hd'
theorem P.isIn.rise {v0 v1 u0 u1 : Int} (h1 : 0 ≤ v0) (h2 : v0 ≤ u0) (h3 : u0 ≤ u1) (h4 : u1 ≤ v1) (h5 : v1 ≤ 10000) : p.rlo d v0 ≤ q.rlo d u0 ∧ q.rlo d u0 ≤ q.rhi d u1 ∧ q.rhi d u1 ≤ p.rhi d v1 := by
  obtain ⟨f1, f2⟩ := hi.fet hp hq (d := d)
  have f3 := q.fet d
  obtain ⟨l1, l2⟩ := long_wide (s := p.s) (d := d) hp.g.s1
  have D1 := hp.d1; have D2 := hi.dl; have D3 := hi.dh; have D4 := hq.d2
  have E : ∀ k, q.ray q.c d k = rayC p.w p.c d k := fun k => by show rayC q.w q.c d k = _; rw [hi.w, hi.c]
  have dep := fun k (hk : k < rayN p.w p.h p.c d) => hi.depth hp (d := d) hk
  have er : rayN q.w q.h q.c d = rayN p.w p.h p.c d := by rw [hi.w, hi.h, hi.c]
  have rn : q.fetchN q.c d false ≤ rayN p.w p.h p.c d := er ▸ q.fetchN_le q.c d false
  have rn' := p.fetchN_le p.c d false
  unfold P.rlo P.rhi
  rw [hi.s]
  refine ⟨Int.le_trans (sum_mono fun k hk => ?_) (sum_more f1 fun k hk => ?_), Int.le_trans (sum_mono fun k hk => ?_) (sum_more f3 fun k hk => ?_), Int.le_trans (sum_mono fun k hk => ?_) (sum_more f2 fun k hk => ?_)⟩
  · have a := hp.fetch hd hd' hk
    have b := hq.fetch (sure := true) hd hd' (show k < q.fetchN q.c d true by omega)
    have c := dep k (by omega)
    rw [E] at b ⊢
    exact tlo_mono (by omega) D2 h1 h2 l1 b.2.2.1 c.2
  · have b := hq.fetch (sure := true) hd hd' hk
    exact tlo_nonneg (by omega) (by omega) l1 b.2.2.1
  · have b := hq.fetch (sure := true) hd hd' hk
    have c := hq.g.depth (c := q.ray q.c d k) (by
      have := rayC_in (d := d) (k := k) hq.g.w1 (inn_rayN (show k < rayN q.w q.h q.c d by have := q.fetchN_le q.c d true; omega))
      exact this.1) (by
      have := rayC_in (d := d) (k := k) hq.g.w1 (inn_rayN (show k < rayN q.w q.h q.c d by have := q.fetchN_le q.c d true; omega))
      exact this.2.1)
    exact tlo_thi (by omega) D4 (by omega) h3 l1 l2 (b.2.1 rfl) c.2.1
  · exact thi_nonneg (by omega) (by omega) (by omega)
  · have c := dep k (by omega)
    rw [E]
    exact thi_mono (by omega) D3 (by omega) h4 (by omega) c.1
  · exact thi_nonneg (by omega) (by omega) (by omega)
theorem P.isIn.setup {v0 v1 u0 u1 : Int} (h1 : 0 ≤ v0) (h2 : v0 ≤ u0) (h3 : u0 ≤ u1) (h4 : u1 ≤ v1) (h5 : v1 ≤ 10000) : p.slo d v0 v1 ≤ q.slo d u0 u1 ∧ q.slo d u0 u1 ≤ q.shi d u0 u1 ∧ q.shi d u0 u1 ≤ p.shi d v0 v1 := by
  have a := hi.rise hp hq hd hd' h1 h2 h3 h4 h5
  have t1 : 0 ≤ (d + 4).tmod 8 := Int.tmod_nonneg _ (by omega)
  have t2 := Int.tmod_lt_of_pos (d + 4) (show (0 : Int) < 8 by omega)
  have b := hi.rise hp hq (d := (d + 4).tmod 8) t1 (by omega) h1 h2 h3 h4 h5
  unfold P.slo P.shi
  omega
end
end Go.Proofs.Ytkklmkogdogbkaa.M
/-
  What the stage 'surge' computes, in plain numbers: setups of opposite directions, and steady levels of points. No condition. (This text proves no statement by itself.)
-/
namespace Go.Proofs.Ytkklmkogdogbkaa.M
theorem P.setE_iff {p : P} {d v0 v1 : Int} : p.setE d v0 v1 = 0 ↔ p.ok ∧ 0 ≤ d ∧ d ≤ 7 ∧ 0 ≤ v0 ∧ v0 ≤ v1 ∧ v1 ≤ 10000 := by
  rw [← P.atE_iff]
  unfold P.setE within
  by_cases h : p.atE = 0
  · simp only [h, if_true, true_and]
    by_cases h1 : d < 0 <;> by_cases h2 : 7 < d <;> by_cases h3 : v0 ≤ v1 <;> by_cases h4 : 0 ≤ v0 <;> by_cases h5 : v1 ≤ 10000 <;> simp [h1, h2, h3, h4, h5] <;> omega
  · simp [h]
theorem W.fetE_iff0 {g : W} {c d : Int} : g.fetE c d = 0 ↔ g.ok ∧ 0 ≤ c ∧ c < g.w * g.h ∧ 0 ≤ d ∧ d ≤ 7 := by
  rw [← W.chk_iff]
  unfold W.fetE W.hasE
  by_cases h1 : g.chk = 0 <;> by_cases h2 : c < 0 <;> by_cases h3 : g.w * g.h ≤ c <;> by_cases h4 : d < 0 <;> by_cases h5 : 7 < d <;> simp [h1, h2, h3, h4, h5] <;> omega
def opp (d : Int) : Int := (d + 4).tmod 8
theorem opp_in {d : Int} (h : 0 ≤ d) (h' : d ≤ 7) : 0 ≤ opp d ∧ opp d ≤ 7 ∧ opp (opp d) = d := by
  have : d = 0 ∨ d = 1 ∨ d = 2 ∨ d = 3 ∨ d = 4 ∨ d = 5 ∨ d = 6 ∨ d = 7 := by omega
  rcases this with e | e | e | e | e | e | e | e <;> subst e <;> decide
theorem P.set_opp (p : P) {d v0 v1 : Int} (h : 0 ≤ d) (h' : d ≤ 7) : p.slo (opp d) v0 v1 = -p.shi d v0 v1 ∧ p.shi (opp d) v0 v1 = -p.slo d v0 v1 := by
  have e := (opp_in h h').2.2
  have e1 : p.slo (opp d) v0 v1 = p.rlo (opp (opp d)) v0 - p.rhi (opp d) v1 := rfl
  have e2 : p.shi (opp d) v0 v1 = p.rhi (opp (opp d)) v1 - p.rlo (opp d) v0 := rfl
  have e3 : p.slo d v0 v1 = p.rlo (opp d) v0 - p.rhi d v1 := rfl
  have e4 : p.shi d v0 v1 = p.rhi (opp d) v1 - p.rlo d v0 := rfl
  rw [e] at e1 e2
  omega
theorem P.rise_zero (p : P) (d : Int) : p.rlo d 0 = 0 ∧ p.rhi d 0 = 0 := by
  refine ⟨sum_zero fun k _ => ?_, sum_zero fun k _ => ?_⟩
  · unfold tlo; simp
  · unfold thi; simp
theorem P.set_zero (p : P) (d : Int) : p.slo d 0 0 = 0 ∧ p.shi d 0 0 = 0 := by
  have a := p.rise_zero d
  have b := p.rise_zero ((d + 4).tmod 8)
  unfold P.slo P.shi
  omega
theorem P.ok.faster {p : P} (h : p.ok) {d v0 v1 u0 u1 : Int} (hd : 0 ≤ d) (hd' : d ≤ 7) (h0 : p.fetchN p.c d false = 0) (a1 : 0 ≤ v0) (a2 : v0 ≤ v1) (a3 : v0 ≤ u0) (a4 : v1 ≤ u1) (a5 : u0 ≤ u1) (a6 : u1 ≤ 10000) : p.slo d v0 v1 ≤ p.slo d u0 u1 ∧ p.shi d v0 v1 ≤ p.shi d u0 u1 := by
  have f := p.fet d
  have z : ∀ v, p.rlo d v = 0 ∧ p.rhi d v = 0 := fun v => by
    unfold P.rlo P.rhi
    rw [h0, show p.fetchN p.c d true = 0 by omega]
    exact ⟨rfl, rfl⟩
  obtain ⟨o1, o2, -⟩ := opp_in hd hd'
  have e3 : ∀ v0 v1, p.slo d v0 v1 = p.rlo (opp d) v0 - p.rhi d v1 := fun _ _ => rfl
  have e4 : ∀ v0 v1, p.shi d v0 v1 = p.rhi (opp d) v1 - p.rlo d v0 := fun _ _ => rfl
  have b := (P.isIn.refl p).rise h h (d := opp d) o1 o2 (v0 := v0) (v1 := u1) (u0 := u0) (u1 := u1) a1 a3 a5 (Int.le_refl _) a6
  have c := (P.isIn.refl p).rise h h (d := opp d) o1 o2 (v0 := v0) (v1 := u1) (u0 := v0) (u1 := v1) a1 (Int.le_refl _) a2 a4 a6
  rw [e3, e4, e3, e4, (z v0).1, (z v1).2, (z u0).1, (z u1).2]
  omega
theorem first_congr {p q : Nat → Bool} {n : Nat} (h : ∀ k, k < n → p k = q k) : first p n = first q n :=
  Nat.le_antisymm (first_mono fun k hk e => by rw [h k hk]; exact e) (first_mono fun k hk e => by rw [← h k hk]; exact e)
/-- Points. -/
structure P.points (p : P) : Prop where
  x : ∀ k, k < p.n → p.x k = p.y k
  s : p.lo = p.hi
  d : p.dl = p.dh
theorem P.points.gap {p : P} (hp : p.points) (h : p.ok) {d v : Int} (hd : 0 ≤ d) (hd' : d ≤ 7) (h2 : ¬ d.tmod 2 = 1) (a1 : 0 ≤ v) (a2 : v ≤ 10000) : p.rhi d v - p.rlo d v ≤ p.fetchN p.c d false := by
  have dep : ∀ k, k < rayN p.w p.h p.c d → p.dlo (rayC p.w p.c d k) = p.dhi (rayC p.w p.c d k) := fun k hk => by
    have h1 := rayC_in (d := d) h.g.w1 (inn_rayN hk)
    have h2 := h.g.depth h1.1 h1.2.1
    have h3 := hp.x _ h2.1
    have h4 := hp.s
    unfold W.dlo W.dhi
    omega
  have ef : p.fetchN p.c d true = p.fetchN p.c d false := by
    unfold W.fetchN
    refine first_congr fun k hk => ?_
    congr 1
    rw [Bool.eq_iff_iff, sea_iff, sea_iff, dep k hk]
    exact ⟨fun e => ⟨fun e' => (by cases e'), e.2⟩, fun e => ⟨fun _ => e.2, e.2⟩⟩
  have lw : long p.s d = wide p.s d := by unfold long wide; rw [if_neg h2, if_neg h2]
  unfold P.rhi P.rlo
  rw [ef]
  refine sum_gap fun k hk => ?_
  have b := h.fetch (sure := true) hd hd' (k := k) (by omega)
  have c := dep k (by have := p.fetchN_le p.c d false; omega)
  have e : p.ray p.c d k = rayC p.w p.c d k := rfl
  rw [e] at b ⊢
  have b1 := b.2.1 rfl
  rw [lw, ← c, hp.d]
  have q := (quo_cei (a := p.dh * v * v * wide p.s d) (b := 3832031250 * p.dlo (rayC p.w p.c d k)) (by omega)).2
  have e1 : thi p.dh v (wide p.s d) (p.dlo (rayC p.w p.c d k)) = -(-(p.dh * v * v * wide p.s d) / (3832031250 * max 1 (p.dlo (rayC p.w p.c d k)))) := rfl
  have e2 : tlo p.dl v (wide p.s d) (p.dlo (rayC p.w p.c d k)) = p.dl * v * v * wide p.s d / (3832031250 * p.dlo (rayC p.w p.c d k)) := rfl
  rw [show max 1 (p.dlo (rayC p.w p.c d k)) = p.dlo (rayC p.w p.c d k) by omega] at e1
  rw [hp.d] at e2
  omega
theorem bit_sets {d : Int} (hd : 0 ≤ d) (hd' : d ≤ 7) : sets (1 * 2 ^ d.toNat) 8 = [d] := by
  have : d = 0 ∨ d = 1 ∨ d = 2 ∨ d = 3 ∨ d = 4 ∨ d = 5 ∨ d = 6 ∨ d = 7 := by omega
  rcases this with e | e | e | e | e | e | e | e <;> subst e <;> decide
theorem bit_bd {d : Int} (hd : 0 ≤ d) (hd' : d ≤ 7) : 1 ≤ (1 : Int) * 2 ^ d.toNat ∧ (1 : Int) * 2 ^ d.toNat ≤ 255 := by
  have : d = 0 ∨ d = 1 ∨ d = 2 ∨ d = 3 ∨ d = 4 ∨ d = 5 ∨ d = 6 ∨ d = 7 := by omega
  rcases this with e | e | e | e | e | e | e | e <;> subst e <;> decide
theorem P.st_bit (p : P) {d v0 v1 q0 q1 : Int} (hd : 0 ≤ d) (hd' : d ≤ 7) : p.stLo v0 v1 (1 * 2 ^ d.toNat) q0 = p.slo d v0 v1 + 2560 * q0 / 981 ∧ p.stHi v0 v1 (1 * 2 ^ d.toNat) q1 = p.shi d v0 v1 + -(-(2560 * q1) / 981) := by
  have e := bit_sets hd hd'
  have e1 : cntS (1 * 2 ^ d.toNat) 8 = 1 := by unfold cntS; rw [e]; rfl
  unfold P.stLo P.stHi P.setLo P.setHi
  rw [e1, e]
  exact ⟨rfl, rfl⟩
theorem P.points.steady {p : P} (hp : p.points) (h : p.ok) {d v q : Int} (hd : 0 ≤ d) (hd' : d ≤ 7) (h2 : ¬ d.tmod 2 = 1) (a1 : 0 ≤ v) (a2 : v ≤ 10000) :
    p.stLo v v (1 * 2 ^ d.toNat) q ≤ p.stHi v v (1 * 2 ^ d.toNat) q ∧ p.stHi v v (1 * 2 ^ d.toNat) q - p.stLo v v (1 * 2 ^ d.toNat) q ≤ p.fetchN p.c d false + p.fetchN p.c (opp d) false + 1 := by
  obtain ⟨e1, e2⟩ := p.st_bit (v0 := v) (v1 := v) (q0 := q) (q1 := q) hd hd'
  obtain ⟨o1, o2, -⟩ := opp_in hd hd'
  have h2' : ¬ (opp d).tmod 2 = 1 := by
    have : d = 0 ∨ d = 1 ∨ d = 2 ∨ d = 3 ∨ d = 4 ∨ d = 5 ∨ d = 6 ∨ d = 7 := by omega
    rcases this with e | e | e | e | e | e | e | e <;> subst e <;> first | decide | exact absurd rfl h2
  have g1 := hp.gap h hd hd' h2 a1 a2
  have g2 := hp.gap h o1 o2 h2' a1 a2
  have s := (P.isIn.refl p).setup h h hd hd' (v0 := v) (v1 := v) (u0 := v) (u1 := v) a1 (Int.le_refl _) (Int.le_refl _) (Int.le_refl _) a2
  have c := quo_cei (a := 2560 * q) (b := 981) (by omega)
  have e3 : p.slo d v v = p.rlo (opp d) v - p.rhi d v := rfl
  have e4 : p.shi d v v = p.rhi (opp d) v - p.rlo d v := rfl
  rw [e1, e2]
  omega
def ptR (x y : Nat → Int) (k : Nat) : Bool := decide (x k = y k)
theorem steadyE_iff {p : P} {v0 v1 m q0 q1 : Int} (h : p.ok) (hw : WindOk v0 v1 m q0 q1) : p.steadyE v0 v1 m q0 q1 = 0 := by
  unfold P.steadyE
  rw [if_pos (P.atE_iff.2 h), if_pos (wind_iff.2 hw)]
end Go.Proofs.Ytkklmkogdogbkaa.M
