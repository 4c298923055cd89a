/-
  What the stage 'surge' computes, in plain numbers: what lies within what, of fetches, rises, setups and steady levels. No condition. (This text proves no statement by itself.)
-/
import Derived.Test.YtkklmkogdogbkaaKS6

namespace Go.Proofs.Ytkklmkogdogbkaa.M
theorem quo_mono {a a' b b' : Int} (h0 : 0 ≤ a) (h1 : a ≤ a') (h2 : 0 < b') (h3 : b' ≤ b) : a / b ≤ a' / b' := by
  have hq : 0 ≤ a / b := Int.ediv_nonneg h0 (by omega)
  have e1 : a / b * b ≤ a := Int.ediv_mul_le a (by omega)
  have e2 := Int.mul_le_mul_of_nonneg_left h3 hq
  exact Int.le_ediv_of_mul_le h2 (by omega)
theorem cei_ge {a b : Int} (hb : 0 < b) : a ≤ -(-a / b) * b := by
  have := Int.ediv_mul_le (-a) (show b ≠ 0 by omega)
  rw [Int.neg_mul]; omega
theorem cei_le {a b m : Int} (hb : 0 < b) (h : a ≤ m * b) : -(-a / b) ≤ m := by
  have := Int.le_ediv_of_mul_le (a := -m) (b := -a) hb (by rw [Int.neg_mul]; omega)
  omega
theorem quo_cei {a b : Int} (hb : 0 < b) : a / b ≤ -(-a / b) ∧ -(-a / b) - a / b ≤ 1 := by
  have h1 := Int.mul_ediv_add_emod a b
  have h2 := Int.emod_nonneg a (show b ≠ 0 by omega)
  have h3 := Int.emod_lt_of_pos a hb
  have h4 := Int.mul_ediv_add_emod (-a) b
  have h5 := Int.emod_nonneg (-a) (show b ≠ 0 by omega)
  have h6 := Int.emod_lt_of_pos (-a) hb
  generalize a / b = q at *
  generalize -a / b = r at *
  generalize a % b = e at *
  generalize -a % b = e' at *
  have e : b * (q + r) = -(e + e') := by rw [Int.mul_add]; omega
  have g1 : q + r < 1 := by
    rcases Int.lt_or_le (q + r) 1 with h | h
    · exact h
    · have := Int.mul_le_mul_of_nonneg_left h (show 0 ≤ b by omega); omega
  have g2 : -2 < q + r := by
    rcases Int.lt_or_le (-2) (q + r) with h | h
    · exact h
    · have := Int.mul_le_mul_of_nonneg_left h (show 0 ≤ b by omega); omega
  omega
theorem cei_nonneg {a b : Int} (hb : 0 < b) (h : 0 ≤ a) : 0 ≤ -(-a / b) := by
  have h1 := (quo_cei (a := a) hb).1
  have h2 : 0 ≤ a / b := Int.ediv_nonneg h (by omega)
  omega
theorem cei_mono {a a' b b' : Int} (h0 : 0 ≤ a) (h1 : a ≤ a') (h2 : 0 < b') (h3 : b' ≤ b) : -(-a / b) ≤ -(-a' / b') := by
  have hm : 0 ≤ -(-a' / b') := cei_nonneg h2 (by omega)
  have e1 := cei_ge (a := a') h2
  have e2 := Int.mul_le_mul_of_nonneg_left h3 hm
  exact cei_le (by omega) (by omega)
theorem sum_mono {f g : Nat → Int} : ∀ {n : Nat}, (∀ k, k < n → f k ≤ g k) → sum f n ≤ sum g n
  | 0, _ => Int.le_refl _
  | n + 1, h => by
    have := sum_mono (n := n) fun k hk => h k (by omega)
    have := h n (by omega)
    simp only [sum]; omega
theorem sum_more {f : Nat → Int} {n : Nat} : ∀ {m : Nat}, n ≤ m → (∀ k, k < m → 0 ≤ f k) → sum f n ≤ sum f m
  | 0, h, _ => by rw [show n = 0 by omega]; exact Int.le_refl _
  | m + 1, h, hf => by
    rcases Nat.lt_or_ge m n with h1 | h1
    · rw [show n = m + 1 by omega]; exact Int.le_refl _
    · have := sum_more (n := n) (m := m) h1 fun k hk => hf k (by omega)
      have := hf m (by omega)
      simp only [sum]; omega
theorem sum_zero {f : Nat → Int} : ∀ {n : Nat}, (∀ k, k < n → f k = 0) → sum f n = 0
  | 0, _ => rfl
  | n + 1, h => by simp only [sum]; rw [sum_zero fun k hk => h k (by omega), h n (by omega)]; rfl
theorem sum_gap {f g : Nat → Int} : ∀ {n : Nat}, (∀ k, k < n → g k - f k ≤ 1) → sum g n - sum f n ≤ n
  | 0, _ => by simp [sum]
  | n + 1, h => by
    have := sum_gap (n := n) fun k hk => h k (by omega)
    have := h n (by omega)
    simp only [sum]; omega
theorem mul_mono {a b c d : Int} (h0 : 0 ≤ a) (h1 : a ≤ b) (h2 : 0 ≤ c) (h3 : c ≤ d) : 0 ≤ a * c ∧ a * c ≤ b * d := ⟨Int.mul_nonneg h0 h2, Int.mul_le_mul h1 h3 h2 (by omega)⟩
theorem num_mono {d d' v v' a a' : Int} (h1 : 0 ≤ d) (h2 : d ≤ d') (h3 : 0 ≤ v) (h4 : v ≤ v') (h5 : 0 ≤ a) (h6 : a ≤ a') : 0 ≤ d * v * v * a ∧ d * v * v * a ≤ d' * v' * v' * a' := by
  obtain ⟨a1, a2⟩ := mul_mono h1 h2 h3 h4
  obtain ⟨a3, a4⟩ := mul_mono a1 a2 h3 h4
  exact mul_mono a3 a4 h5 h6
theorem tlo_mono {d d' v v' a b b' : Int} (h1 : 0 ≤ d) (h2 : d ≤ d') (h3 : 0 ≤ v) (h4 : v ≤ v') (h5 : 0 ≤ a) (h6 : 1 ≤ b') (h7 : b' ≤ b) : tlo d v a b ≤ tlo d' v' a b' := by
  obtain ⟨n1, n2⟩ := num_mono h1 h2 h3 h4 h5 (Int.le_refl a)
  exact quo_mono n1 n2 (by omega) (by omega)
theorem thi_mono {d d' v v' a b b' : Int} (h1 : 0 ≤ d) (h2 : d ≤ d') (h3 : 0 ≤ v) (h4 : v ≤ v') (h5 : 0 ≤ a) (h7 : b' ≤ b) : thi d v a b ≤ thi d' v' a b' := by
  obtain ⟨n1, n2⟩ := num_mono h1 h2 h3 h4 h5 (Int.le_refl a)
  exact cei_mono n1 n2 (by omega) (by omega)
theorem tlo_thi {d d' v v' a a' b b' : Int} (h1 : 0 ≤ d) (h2 : d ≤ d') (h3 : 0 ≤ v) (h4 : v ≤ v') (h5 : 0 ≤ a) (h6 : a ≤ a') (h7 : 1 ≤ b') (h8 : b' ≤ b) : tlo d v a b ≤ thi d' v' a' b' := by
  obtain ⟨n1, n2⟩ := num_mono h1 h2 h3 h4 h5 h6
  have e1 : tlo d v a b ≤ d' * v' * v' * a' / (3832031250 * b') := quo_mono n1 n2 (by omega) (by omega)
  have e2 := (quo_cei (a := d' * v' * v' * a') (b := 3832031250 * b') (by omega)).1
  have e3 : thi d' v' a' b' = -(-(d' * v' * v' * a') / (3832031250 * max 1 b')) := rfl
  rw [show max 1 b' = b' by omega] at e3
  omega
theorem thi_nonneg {d v a b : Int} (h1 : 0 ≤ d) (h3 : 0 ≤ v) (h5 : 0 ≤ a) : 0 ≤ thi d v a b :=
  cei_nonneg (by omega) (num_mono h1 (Int.le_refl d) h3 (Int.le_refl v) h5 (Int.le_refl a)).1
theorem tlo_nonneg {d v a b : Int} (h1 : 0 ≤ d) (h3 : 0 ≤ v) (h5 : 0 ≤ a) (hb : 1 ≤ b) : 0 ≤ tlo d v a b :=
  Int.ediv_nonneg (num_mono h1 (Int.le_refl d) h3 (Int.le_refl v) h5 (Int.le_refl a)).1 (by omega)
theorem long_wide {s d : Int} (h : 1 ≤ s) : 0 ≤ long s d ∧ long s d ≤ wide s d := by
  unfold long wide; split <;> omega
theorem first_mono {p q : Nat → Bool} {n : Nat} (h : ∀ k, k < n → q k = true → p k = true) : first p n ≤ first q n := by
  obtain ⟨a1, a2, a3⟩ := first_spec p n
  obtain ⟨b1, b2, b3⟩ := first_spec q n
  rcases Nat.lt_or_ge (first q n) (first p n) with h1 | h1
  · have := a2 _ h1
    rw [h _ (by omega) (b3 (by omega))] at this; cases this
  · exact h1
theorem sea_iff {g : W} {c d : Int} {sure : Bool} {k : Nat} : g.sea c d sure k = true ↔ (sure = true → 1 ≤ g.dlo (rayC g.w c d k)) ∧ 1 ≤ g.dhi (rayC g.w c d k) := by
  unfold W.sea
  cases sure <;> simp
/-- A place within another one. -/
structure P.isIn (q p : P) : Prop where
  w : q.w = p.w
  h : q.h = p.h
  s : q.s = p.s
  n : q.n = p.n
  c : q.c = p.c
  x : ∀ k, k < p.n → p.x k ≤ q.x k
  y : ∀ k, k < p.n → q.y k ≤ p.y k
  lo : p.lo ≤ q.lo
  hi : q.hi ≤ p.hi
  dl : p.dl ≤ q.dl
  dh : q.dh ≤ p.dh
  ll : p.ll ≤ q.ll
  lh : q.lh ≤ p.lh
theorem P.isIn.refl (p : P) : p.isIn p := ⟨rfl, rfl, rfl, rfl, rfl, fun _ _ => Int.le_refl _, fun _ _ => Int.le_refl _, Int.le_refl _, Int.le_refl _, Int.le_refl _, Int.le_refl _, Int.le_refl _, Int.le_refl _⟩
section
variable {p q : P} (hp : p.ok) (hq : q.ok) (hi : q.isIn p) {d : Int} (hd : 0 ≤ d) (hd' : d ≤ 7)
include hp hi
theorem P.isIn.depth {k : Nat} (hk : k < rayN p.w p.h p.c d) : p.dlo (rayC p.w p.c d k) ≤ q.dlo (rayC p.w p.c d k) ∧ q.dhi (rayC p.w p.c d k) ≤ p.dhi (rayC p.w p.c d k) := by
  have h1 := rayC_in (d := d) hp.g.w1 (inn_rayN hk)
  have h2 := hp.g.depth h1.1 h1.2.1
  have h3 := hi.x _ h2.1
  have h4 := hi.y _ h2.1
  have h5 := hi.lo; have h6 := hi.hi
  unfold W.dlo W.dhi
  omega
include hq in
theorem P.isIn.fet : p.fetchN p.c d true ≤ q.fetchN q.c d true ∧ q.fetchN q.c d false ≤ p.fetchN p.c d false := by
  unfold W.fetchN
  rw [hi.w, hi.h, hi.c]
  refine ⟨first_mono fun k hk hs => ?_, first_mono fun k hk hs => ?_⟩ <;>
  · have h1 := hi.depth hp (d := d) hk
    have h2 := rayC_in (d := d) hp.g.w1 (inn_rayN hk)
    have h3 := hq.g.depth (c := rayC p.w p.c d k) h2.1 (by rw [hi.w, hi.h]; exact h2.2.1)
    simp only [Bool.not_eq_true', Bool.eq_false_iff, ne_eq, sea_iff] at hs ⊢
    have ew := hi.w
    try rw [ew] at hs
    try rw [ew]
    intro h4
    apply hs
    have h5 := h4.1; have h6 := h4.2
    refine ⟨fun e => ?_, ?_⟩ <;> first | (have h7 := h5 trivial; omega) | omega | (cases e)
omit hi hp in
theorem P.fet (p : P) (d : Int) : p.fetchN p.c d true ≤ p.fetchN p.c d false := by
  unfold W.fetchN
  refine first_mono fun k hk hs => ?_
  simp only [Bool.not_eq_true', Bool.eq_false_iff, ne_eq, sea_iff] at hs ⊢
  exact fun h => hs ⟨fun e => (by cases e), h.2⟩
include hq hd hd'
theorem P.isIn.rise {v0 v1 u0 u1 : Int} (h1 : 0 ≤ v0) (h2 : v0 ≤ u0) (h3 : u0 ≤ u1) (h4 : u1 ≤ v1) (h5 : v1 ≤ 10000) : p.rlo d v0 ≤ q.rlo d u0 ∧ q.rlo d u0 ≤ q.rhi d u1 ∧ q.rhi d u1 ≤ p.rhi d v1 := by
  obtain ⟨f1, f2⟩ := hi.fet hp hq (d := d)
  have f3 := q.fet d
  obtain ⟨l1, l2⟩ := long_wide (s := p.s) (d := d) hp.g.s1
  have D1 := hp.d1; have D2 := hi.dl; have D3 := hi.dh; have D4 := hq.d2
  have E : ∀ k, q.ray q.c d k = rayC p.w p.c d k := fun k => by show rayC q.w q.c d k = _; rw [hi.w, hi.c]
  have dep := fun k (hk : k < rayN p.w p.h p.c d) => hi.depth hp (d := d) hk
  have er : rayN q.w q.h q.c d = rayN p.w p.h p.c d := by rw [hi.w, hi.h, hi.c]
  have rn : q.fetchN q.c d false ≤ rayN p.w p.h p.c d := er ▸ q.fetchN_le q.c d false
  have rn' := p.fetchN_le p.c d false
  unfold P.rlo P.rhi
  rw [hi.s]
  refine ⟨Int.le_trans (sum_mono fun k hk => ?_) (sum_more f1 fun k hk => ?_), Int.le_trans (sum_mono fun k hk => ?_) (sum_more f3 fun k hk => ?_), Int.le_trans (sum_mono fun k hk => ?_) (sum_more f2 fun k hk => ?_)⟩
  · have a := hp.fetch hd hd' hk
    have b := hq.fetch (sure := true) hd hd' (show k < q.fetchN q.c d true by omega)
    have c := dep k (by omega)
    rw [E] at b ⊢
    exact tlo_mono (by omega) D2 h1 h2 l1 b.2.2.1 c.2
  · have b := hq.fetch (sure := true) hd hd' hk
    exact tlo_nonneg (by omega) (by omega) l1 b.2.2.1
  · have b := hq.fetch (sure := true) hd hd' hk
    have c := hq.g.depth (c := q.ray q.c d k) (by
      have := rayC_in (d := d) (k := k) hq.g.w1 (inn_rayN (show k < rayN q.w q.h q.c d by have := q.fetchN_le q.c d true; omega))
      exact this.1) (by
      have := rayC_in (d := d) (k := k) hq.g.w1 (inn_rayN (show k < rayN q.w q.h q.c d by have := q.fetchN_le q.c d true; omega))
      exact this.2.1)
    exact tlo_thi (by omega) D4 (by omega) h3 l1 l2 (b.2.1 rfl) c.2.1
  · exact thi_nonneg (by omega) (by omega) (by omega)
  · have c := dep k (by omega)
    rw [E]
    exact thi_mono (by omega) D3 (by omega) h4 (by omega) c.1
  · exact thi_nonneg (by omega) (by omega) (by omega)
theorem P.isIn.setup {v0 v1 u0 u1 : Int} (h1 : 0 ≤ v0) (h2 : v0 ≤ u0) (h3 : u0 ≤ u1) (h4 : u1 ≤ v1) (h5 : v1 ≤ 10000) : p.slo d v0 v1 ≤ q.slo d u0 u1 ∧ q.slo d u0 u1 ≤ q.shi d u0 u1 ∧ q.shi d u0 u1 ≤ p.shi d v0 v1 := by
  have a := hi.rise hp hq hd hd' h1 h2 h3 h4 h5
  have t1 : 0 ≤ (d + 4).tmod 8 := Int.tmod_nonneg _ (by omega)
  have t2 := Int.tmod_lt_of_pos (d + 4) (show (0 : Int) < 8 by omega)
  have b := hi.rise hp hq (d := (d + 4).tmod 8) t1 (by omega) h1 h2 h3 h4 h5
  unfold P.slo P.shi
  omega
end
end Go.Proofs.Ytkklmkogdogbkaa.M
/-
  What the stage 'surge' computes, in plain numbers: setups of opposite directions, and steady levels of points. No condition. (This text proves no statement by itself.)
-/
namespace Go.Proofs.Ytkklmkogdogbkaa.M
theorem P.setE_iff {p : P} {d v0 v1 : Int} : p.setE d v0 v1 = 0 ↔ p.ok ∧ 0 ≤ d ∧ d ≤ 7 ∧ 0 ≤ v0 ∧ v0 ≤ v1 ∧ v1 ≤ 10000 := by
  rw [← P.atE_iff]
  unfold P.setE within
  by_cases h : p.atE = 0
  · simp only [h, if_true, true_and]
    by_cases h1 : d < 0 <;> by_cases h2 : 7 < d <;> by_cases h3 : v0 ≤ v1 <;> by_cases h4 : 0 ≤ v0 <;> by_cases h5 : v1 ≤ 10000 <;> simp [h1, h2, h3, h4, h5] <;> omega
  · simp [h]
theorem W.fetE_iff0 {g : W} {c d : Int} : g.fetE c d = 0 ↔ g.ok ∧ 0 ≤ c ∧ c < g.w * g.h ∧ 0 ≤ d ∧ d ≤ 7 := by
  rw [← W.chk_iff]
  unfold W.fetE W.hasE
  by_cases h1 : g.chk = 0 <;> by_cases h2 : c < 0 <;> by_cases h3 : g.w * g.h ≤ c <;> by_cases h4 : d < 0 <;> by_cases h5 : 7 < d <;> simp [h1, h2, h3, h4, h5] <;> omega
def opp (d : Int) : Int := (d + 4).tmod 8
theorem opp_in {d : Int} (h : 0 ≤ d) (h' : d ≤ 7) : 0 ≤ opp d ∧ opp d ≤ 7 ∧ opp (opp d) = d := by
  have : d = 0 ∨ d = 1 ∨ d = 2 ∨ d = 3 ∨ d = 4 ∨ d = 5 ∨ d = 6 ∨ d = 7 := by omega
  rcases this with e | e | e | e | e | e | e | e <;> subst e <;> decide
theorem P.set_opp (p : P) {d v0 v1 : Int} (h : 0 ≤ d) (h' : d ≤ 7) : p.slo (opp d) v0 v1 = -p.shi d v0 v1 ∧ p.shi (opp d) v0 v1 = -p.slo d v0 v1 := by
  have e := (opp_in h h').2.2
  have e1 : p.slo (opp d) v0 v1 = p.rlo (opp (opp d)) v0 - p.rhi (opp d) v1 := rfl
  have e2 : p.shi (opp d) v0 v1 = p.rhi (opp (opp d)) v1 - p.rlo (opp d) v0 := rfl
  have e3 : p.slo d v0 v1 = p.rlo (opp d) v0 - p.rhi d v1 := rfl
  have e4 : p.shi d v0 v1 = p.rhi (opp d) v1 - p.rlo d v0 := rfl
  rw [e] at e1 e2
  omega
theorem P.rise_zero (p : P) (d : Int) : p.rlo d 0 = 0 ∧ p.rhi d 0 = 0 := by
  refine ⟨sum_zero fun k _ => ?_, sum_zero fun k _ => ?_⟩
  · unfold tlo; simp
  · unfold thi; simp
theorem P.set_zero (p : P) (d : Int) : p.slo d 0 0 = 0 ∧ p.shi d 0 0 = 0 := by
  have a := p.rise_zero d
  have b := p.rise_zero ((d + 4).tmod 8)
  unfold P.slo P.shi
  omega
theorem P.ok.faster {p : P} (h : p.ok) {d v0 v1 u0 u1 : Int} (hd : 0 ≤ d) (hd' : d ≤ 7) (h0 : p.fetchN p.c d false = 0) (a1 : 0 ≤ v0) (a2 : v0 ≤ v1) (a3 : v0 ≤ u0) (a4 : v1 ≤ u1) (a5 : u0 ≤ u1) (a6 : u1 ≤ 10000) : p.slo d v0 v1 ≤ p.slo d u0 u1 ∧ p.shi d v0 v1 ≤ p.shi d u0 u1 := by
  have f := p.fet d
  have z : ∀ v, p.rlo d v = 0 ∧ p.rhi d v = 0 := fun v => by
    unfold P.rlo P.rhi
    rw [h0, show p.fetchN p.c d true = 0 by omega]
    exact ⟨rfl, rfl⟩
  obtain ⟨o1, o2, -⟩ := opp_in hd hd'
  have e3 : ∀ v0 v1, p.slo d v0 v1 = p.rlo (opp d) v0 - p.rhi d v1 := fun _ _ => rfl
  have e4 : ∀ v0 v1, p.shi d v0 v1 = p.rhi (opp d) v1 - p.rlo d v0 := fun _ _ => rfl
  have b := (P.isIn.refl p).rise h h (d := opp d) o1 o2 (v0 := v0) (v1 := u1) (u0 := u0) (u1 := u1) a1 a3 a5 (Int.le_refl _) a6
  have c := (P.isIn.refl p).rise h h (d := opp d) o1 o2 (v0 := v0) (v1 := u1) (u0 := v0) (u1 := v1) a1 (Int.le_refl _) a2 a4 a6
  rw [e3, e4, e3, e4, (z v0).1, (z v1).2, (z u0).1, (z u1).2]
  omega
theorem first_congr {p q : Nat → Bool} {n : Nat} (h : ∀ k, k < n → p k = q k) : first p n = first q n :=
  Nat.le_antisymm (first_mono fun k hk e => by rw [h k hk]; exact e) (first_mono fun k hk e => by rw [← h k hk]; exact e)
/-- Points. -/
structure P.points (p : P) : Prop where
  x : ∀ k, k < p.n → p.x k = p.y k
  s : p.lo = p.hi
  d : p.dl = p.dh
theorem P.points.gap {p : P} (hp : p.points) (h : p.ok) {d v : Int} (hd : 0 ≤ d) (hd' : d ≤ 7) (h2 : ¬ d.tmod 2 = 1) (a1 : 0 ≤ v) (a2 : v ≤ 10000) : p.rhi d v - p.rlo d v ≤ p.fetchN p.c d false := by
  have dep : ∀ k, k < rayN p.w p.h p.c d → p.dlo (rayC p.w p.c d k) = p.dhi (rayC p.w p.c d k) := fun k hk => by
    have h1 := rayC_in (d := d) h.g.w1 (inn_rayN hk)
    have h2 := h.g.depth h1.1 h1.2.1
    have h3 := hp.x _ h2.1
    have h4 := hp.s
    unfold W.dlo W.dhi
    omega
  have ef : p.fetchN p.c d true = p.fetchN p.c d false := by
    unfold W.fetchN
    refine first_congr fun k hk => ?_
    congr 1
    rw [Bool.eq_iff_iff, sea_iff, sea_iff, dep k hk]
    exact ⟨fun e => ⟨fun e' => (by cases e'), e.2⟩, fun e => ⟨fun _ => e.2, e.2⟩⟩
  have lw : long p.s d = wide p.s d := by unfold long wide; rw [if_neg h2, if_neg h2]
  unfold P.rhi P.rlo
  rw [ef]
  refine sum_gap fun k hk => ?_
  have b := h.fetch (sure := true) hd hd' (k := k) (by omega)
  have c := dep k (by have := p.fetchN_le p.c d false; omega)
  have e : p.ray p.c d k = rayC p.w p.c d k := rfl
  rw [e] at b ⊢
  have b1 := b.2.1 rfl
  rw [lw, ← c, hp.d]
  have q := (quo_cei (a := p.dh * v * v * wide p.s d) (b := 3832031250 * p.dlo (rayC p.w p.c d k)) (by omega)).2
  have e1 : thi p.dh v (wide p.s d) (p.dlo (rayC p.w p.c d k)) = -(-(p.dh * v * v * wide p.s d) / (3832031250 * max 1 (p.dlo (rayC p.w p.c d k)))) := rfl
  have e2 : tlo p.dl v (wide p.s d) (p.dlo (rayC p.w p.c d k)) = p.dl * v * v * wide p.s d / (3832031250 * p.dlo (rayC p.w p.c d k)) := rfl
  rw [show max 1 (p.dlo (rayC p.w p.c d k)) = p.dlo (rayC p.w p.c d k) by omega] at e1
  rw [hp.d] at e2
  omega
theorem bit_sets {d : Int} (hd : 0 ≤ d) (hd' : d ≤ 7) : sets (1 * 2 ^ d.toNat) 8 = [d] := by
  have : d = 0 ∨ d = 1 ∨ d = 2 ∨ d = 3 ∨ d = 4 ∨ d = 5 ∨ d = 6 ∨ d = 7 := by omega
  rcases this with e | e | e | e | e | e | e | e <;> subst e <;> decide
theorem bit_bd {d : Int} (hd : 0 ≤ d) (hd' : d ≤ 7) : 1 ≤ (1 : Int) * 2 ^ d.toNat ∧ (1 : Int) * 2 ^ d.toNat ≤ 255 := by
  have : d = 0 ∨ d = 1 ∨ d = 2 ∨ d = 3 ∨ d = 4 ∨ d = 5 ∨ d = 6 ∨ d = 7 := by omega
  rcases this with e | e | e | e | e | e | e | e <;> subst e <;> decide
theorem P.st_bit (p : P) {d v0 v1 q0 q1 : Int} (hd : 0 ≤ d) (hd' : d ≤ 7) : p.stLo v0 v1 (1 * 2 ^ d.toNat) q0 = p.slo d v0 v1 + 2560 * q0 / 981 ∧ p.stHi v0 v1 (1 * 2 ^ d.toNat) q1 = p.shi d v0 v1 + -(-(2560 * q1) / 981) := by
  have e := bit_sets hd hd'
  have e1 : cntS (1 * 2 ^ d.toNat) 8 = 1 := by unfold cntS; rw [e]; rfl
  unfold P.stLo P.stHi P.setLo P.setHi
  rw [e1, e]
  exact ⟨rfl, rfl⟩
theorem P.points.steady {p : P} (hp : p.points) (h : p.ok) {d v q : Int} (hd : 0 ≤ d) (hd' : d ≤ 7) (h2 : ¬ d.tmod 2 = 1) (a1 : 0 ≤ v) (a2 : v ≤ 10000) :
    p.stLo v v (1 * 2 ^ d.toNat) q ≤ p.stHi v v (1 * 2 ^ d.toNat) q ∧ p.stHi v v (1 * 2 ^ d.toNat) q - p.stLo v v (1 * 2 ^ d.toNat) q ≤ p.fetchN p.c d false + p.fetchN p.c (opp d) false + 1 := by
  obtain ⟨e1, e2⟩ := p.st_bit (v0 := v) (v1 := v) (q0 := q) (q1 := q) hd hd'
  obtain ⟨o1, o2, -⟩ := opp_in hd hd'
  have h2' : ¬ (opp d).tmod 2 = 1 := by
    have : d = 0 ∨ d = 1 ∨ d = 2 ∨ d = 3 ∨ d = 4 ∨ d = 5 ∨ d = 6 ∨ d = 7 := by omega
    rcases this with e | e | e | e | e | e | e | e <;> subst e <;> first | decide | exact absurd rfl h2
  have g1 := hp.gap h hd hd' h2 a1 a2
  have g2 := hp.gap h o1 o2 h2' a1 a2
  have s := (P.isIn.refl p).setup h h hd hd' (v0 := v) (v1 := v) (u0 := v) (u1 := v) a1 (Int.le_refl _) (Int.le_refl _) (Int.le_refl _) a2
  have c := quo_cei (a := 2560 * q) (b := 981) (by omega)
  have e3 : p.slo d v v = p.rlo (opp d) v - p.rhi d v := rfl
  have e4 : p.shi d v v = p.rhi (opp d) v - p.rlo d v := rfl
  rw [e1, e2]
  omega
def ptR (x y : Nat → Int) (k : Nat) : Bool := decide (x k = y k)
theorem steadyE_iff {p : P} {v0 v1 m q0 q1 : Int} (h : p.ok) (hw : WindOk v0 v1 m q0 q1) : p.steadyE v0 v1 m q0 q1 = 0 := by
  unfold P.steadyE
  rw [if_pos (P.atE_iff.2 h), if_pos (wind_iff.2 hw)]
end Go.Proofs.Ytkklmkogdogbkaa.M
/-
  A place within another one: the steady levels, and the levels of a run, lie within the others'. Plain arithmetic. No condition. (This text proves no statement by itself.)
-/
namespace Go.Proofs.Ytkklmkogdogbkaa.M
open Go
/-- The general step towards a steady state. -/
theorem mix_mono {l l' a c a' c' : Int} (h1 : 0 ≤ l') (h2 : l' ≤ 1024) (ha : a ≤ a') (hc : c ≤ c') (hl : 0 ≤ (l' - l) * (c - a)) : 1024 * a + l * (c - a) ≤ 1024 * a' + l' * (c' - a') := by
  have k1 : 0 ≤ (1024 - l') * (a' - a) := Int.mul_nonneg (by omega) (by omega)
  have k2 : 0 ≤ l' * (c' - c) := Int.mul_nonneg h1 (by omega)
  simp only [Int.sub_mul, Int.mul_sub] at *
  omega
theorem lagLo {ll lh l a c : Int} (h1 : ll ≤ l) (h2 : l ≤ lh) : 0 ≤ (l - (if c < a then lh else ll)) * (c - a) := by
  split
  · have : 0 ≤ (lh - l) * (a - c) := Int.mul_nonneg (by omega) (by omega)
    simp only [Int.sub_mul, Int.mul_sub] at *; omega
  · exact Int.mul_nonneg (by omega) (by omega)
theorem lagHi {ll lh l b d : Int} (h1 : ll ≤ l) (h2 : l ≤ lh) : 0 ≤ ((if d < b then ll else lh) - l) * (d - b) := by
  split
  · have : 0 ≤ (l - ll) * (b - d) := Int.mul_nonneg (by omega) (by omega)
    simp only [Int.sub_mul, Int.mul_sub] at *; omega
  · exact Int.mul_nonneg (by omega) (by omega)
theorem fLo_mix (ll lh a c : Int) : fLo ll lh a c = (1024 * a + (if c < a then lh else ll) * (c - a)) / 1024 := by unfold fLo; omega
theorem fHi_mix (ll lh a c : Int) : fHi ll lh a c = -(-(1024 * a + (if c < a then ll else lh) * (c - a)) / 1024) := by unfold fHi; omega
theorem lag_in {p : Prop} [Decidable p] {ll lh : Int} (h : ll ≤ lh) : ll ≤ (if p then lh else ll) ∧ (if p then lh else ll) ≤ lh ∧ ll ≤ (if p then ll else lh) ∧ (if p then ll else lh) ≤ lh := by split <;> omega
theorem fLo_mono {ll lh a c ll' lh' a' c' : Int} (h1 : 1 ≤ ll) (h2 : ll ≤ ll') (h3 : ll' ≤ lh') (h4 : lh' ≤ lh) (h5 : lh ≤ 1024) (ha : a ≤ a') (hc : c ≤ c') : fLo ll lh a c ≤ fLo ll' lh' a' c' := by
  rw [fLo_mix, fLo_mix]
  obtain ⟨k1, k2, -⟩ := lag_in (p := c' < a') h3
  have := mix_mono (l := if c < a then lh else ll) (l' := if c' < a' then lh' else ll') (by omega) (by omega) ha hc (lagLo (by omega) (by omega))
  omega
theorem fHi_mono {ll lh a c ll' lh' a' c' : Int} (h1 : 1 ≤ ll) (h2 : ll ≤ ll') (h3 : ll' ≤ lh') (h4 : lh' ≤ lh) (h5 : lh ≤ 1024) (ha : a' ≤ a) (hc : c' ≤ c) : fHi ll' lh' a' c' ≤ fHi ll lh a c := by
  rw [fHi_mix, fHi_mix]
  obtain ⟨-, -, k1, k2⟩ := lag_in (p := c' < a') h3
  obtain ⟨-, -, j1, j2⟩ := lag_in (p := c < a) (show ll ≤ lh by omega)
  have e := lagHi (ll := ll) (lh := lh) (l := if c' < a' then ll' else lh') (b := a) (d := c) (by omega) (by omega)
  generalize (if c < a then ll else lh) = l at *
  generalize (if c' < a' then ll' else lh') = l' at *
  have m1 : 0 ≤ (1024 - l') * (a - a') := Int.mul_nonneg (by omega) (by omega)
  have m2 : 0 ≤ l' * (c - c') := Int.mul_nonneg (by omega) (by omega)
  have : 1024 * a' + l' * (c' - a') ≤ 1024 * a + l * (c - a) := by
    simp only [Int.sub_mul, Int.mul_sub] at *; omega
  omega
theorem fLo_fHi {ll lh a c a' c' : Int} (h1 : 1 ≤ ll) (h2 : ll ≤ lh) (h5 : lh ≤ 1024) (ha : a ≤ a') (hc : c ≤ c') : fLo ll lh a c ≤ fHi ll lh a' c' := by
  rw [fLo_mix, fHi_mix]
  obtain ⟨-, -, k1, k2⟩ := lag_in (p := c' < a') h2
  have := mix_mono (l := if c < a then lh else ll) (l' := if c' < a' then ll else lh) (by omega) (by omega) ha hc (lagLo (by omega) (by omega))
  omega
/-- The least and the greatest one. -/
theorem low_le {x : Nat → Int} {a : Int} : ∀ {n : Nat}, low x a n ≤ a ∧ ∀ k, k < n → low x a n ≤ x k
  | 0 => ⟨Int.le_refl _, fun k h => by omega⟩
  | n + 1 => by
    obtain ⟨h1, h2⟩ := low_le (x := x) (a := a) (n := n)
    simp only [low]
    refine ⟨by omega, fun k hk => ?_⟩
    by_cases e : k = n
    · subst e; omega
    · have := h2 k (by omega); omega
theorem low_at {x : Nat → Int} {a : Int} : ∀ {n : Nat}, low x a n = a ∨ ∃ k, k < n ∧ low x a n = x k
  | 0 => .inl rfl
  | n + 1 => by
    simp only [low]
    by_cases e : x n ≤ low x a n
    · exact .inr ⟨n, by omega, by omega⟩
    · rcases low_at (x := x) (a := a) (n := n) with h | ⟨k, hk, h⟩
      · left; omega
      · right; exact ⟨k, by omega, by omega⟩
theorem high_ge {x : Nat → Int} {a : Int} : ∀ {n : Nat}, a ≤ high x a n ∧ ∀ k, k < n → x k ≤ high x a n
  | 0 => ⟨Int.le_refl _, fun k h => by omega⟩
  | n + 1 => by
    obtain ⟨h1, h2⟩ := high_ge (x := x) (a := a) (n := n)
    simp only [high]
    refine ⟨by omega, fun k hk => ?_⟩
    by_cases e : k = n
    · subst e; omega
    · have := h2 k (by omega); omega
theorem high_at {x : Nat → Int} {a : Int} : ∀ {n : Nat}, high x a n = a ∨ ∃ k, k < n ∧ high x a n = x k
  | 0 => .inl rfl
  | n + 1 => by
    simp only [high]
    by_cases e : high x a n ≤ x n
    · exact .inr ⟨n, by omega, by omega⟩
    · rcases high_at (x := x) (a := a) (n := n) with h | ⟨k, hk, h⟩
      · left; omega
      · right; exact ⟨k, by omega, by omega⟩
/-- The directions of a mask, by their places. -/
theorem sets_at {m : Int} {n k : Nat} (hk : k < cntS m n) : ∃ d : Nat, d < n ∧ has m d = true ∧ (sets m n).getD k 0 = (d : Int) := by
  have h : (sets m n).getD k 0 ∈ sets m n := by
    rw [List.getD_eq_getElem?_getD, List.getElem?_eq_getElem hk]; exact List.getElem_mem hk
  obtain ⟨e, h1, h2, h3⟩ := sets_mem.1 h
  exact ⟨e, h1, h2, h3⟩
theorem at_sets {m : Int} {n d : Nat} (hd : d < n) (h : has m d = true) : ∃ k, k < cntS m n ∧ (sets m n).getD k 0 = (d : Int) := by
  obtain ⟨k, hk⟩ := List.mem_iff_getElem?.1 (sets_mem.2 ⟨d, hd, h, rfl⟩)
  exact ⟨k, (List.getElem?_eq_some_iff.1 hk).1, by rw [List.getD_eq_getElem?_getD, hk]; rfl⟩
def P.hLo (p : P) (m v0 v1 : Int) : Int := low (fun k => p.setLo m v0 v1 8 (k + 1)) (p.setLo m v0 v1 8 0) (cntS m 8 - 1)
def P.hHi (p : P) (m v0 v1 : Int) : Int := high (fun k => p.setHi m v0 v1 8 (k + 1)) (p.setHi m v0 v1 8 0) (cntS m 8 - 1)
theorem P.hLo_le (p : P) {m v0 v1 : Int} {d : Nat} (hd : d < 8) (h : has m d = true) : p.hLo m v0 v1 ≤ p.slo d v0 v1 := by
  obtain ⟨k, hk, e⟩ := at_sets hd h
  have e' : p.setLo m v0 v1 8 k = p.slo d v0 v1 := by unfold P.setLo; rw [e]
  rw [← e']
  obtain ⟨h1, h2⟩ := low_le (x := fun k => p.setLo m v0 v1 8 (k + 1)) (a := p.setLo m v0 v1 8 0) (n := cntS m 8 - 1)
  cases k with
  | zero => exact h1
  | succ k => exact h2 k (by omega)
theorem P.le_hHi (p : P) {m v0 v1 : Int} {d : Nat} (hd : d < 8) (h : has m d = true) : p.shi d v0 v1 ≤ p.hHi m v0 v1 := by
  obtain ⟨k, hk, e⟩ := at_sets hd h
  have e' : p.setHi m v0 v1 8 k = p.shi d v0 v1 := by unfold P.setHi; rw [e]
  rw [← e']
  obtain ⟨h1, h2⟩ := high_ge (x := fun k => p.setHi m v0 v1 8 (k + 1)) (a := p.setHi m v0 v1 8 0) (n := cntS m 8 - 1)
  cases k with
  | zero => exact h1
  | succ k => exact h2 k (by omega)
theorem P.hLo_at (p : P) {m v0 v1 : Int} (h : 1 ≤ cntS m 8) : ∃ d : Nat, d < 8 ∧ has m d = true ∧ p.hLo m v0 v1 = p.slo d v0 v1 := by
  rcases low_at (x := fun k => p.setLo m v0 v1 8 (k + 1)) (a := p.setLo m v0 v1 8 0) (n := cntS m 8 - 1) with e | ⟨k, hk, e⟩
  · obtain ⟨d, h1, h2, h3⟩ := sets_at (m := m) (n := 8) (k := 0) (by omega)
    exact ⟨d, h1, h2, by unfold P.hLo; rw [e]; unfold P.setLo; rw [h3]⟩
  · obtain ⟨d, h1, h2, h3⟩ := sets_at (m := m) (n := 8) (k := k + 1) (by omega)
    exact ⟨d, h1, h2, by unfold P.hLo; rw [e]; unfold P.setLo; rw [h3]⟩
theorem P.hHi_at (p : P) {m v0 v1 : Int} (h : 1 ≤ cntS m 8) : ∃ d : Nat, d < 8 ∧ has m d = true ∧ p.hHi m v0 v1 = p.shi d v0 v1 := by
  rcases high_at (x := fun k => p.setHi m v0 v1 8 (k + 1)) (a := p.setHi m v0 v1 8 0) (n := cntS m 8 - 1) with e | ⟨k, hk, e⟩
  · obtain ⟨d, h1, h2, h3⟩ := sets_at (m := m) (n := 8) (k := 0) (by omega)
    exact ⟨d, h1, h2, by unfold P.hHi; rw [e]; unfold P.setHi; rw [h3]⟩
  · obtain ⟨d, h1, h2, h3⟩ := sets_at (m := m) (n := 8) (k := k + 1) (by omega)
    exact ⟨d, h1, h2, by unfold P.hHi; rw [e]; unfold P.setHi; rw [h3]⟩
theorem quo_le {a b : Int} (h : a ≤ b) : 2560 * a / 981 ≤ 2560 * b / 981 ∧ -(-(2560 * a) / 981) ≤ -(-(2560 * b) / 981) ∧ 2560 * a / 981 ≤ -(-(2560 * b) / 981) := by omega
/-- Winds within others. -/
structure WIn (v0 v1 m q0 q1 u0 u1 k r0 r1 : Int) : Prop where
  a : v0 ≤ u0
  b : u1 ≤ v1
  c : ∀ d : Nat, d < 8 → has k d = true → has m d = true
  d : q0 ≤ r0
  e : r1 ≤ q1
theorem WIn.refl (v0 v1 m q0 q1 : Int) : WIn v0 v1 m q0 q1 v0 v1 m q0 q1 := ⟨Int.le_refl _, Int.le_refl _, fun _ _ h => h, Int.le_refl _, Int.le_refl _⟩
theorem P.isIn.steady {p q : P} (hp : p.ok) (hq : q.ok) (hi : q.isIn p) {v0 v1 m q0 q1 u0 u1 k r0 r1 : Int} (hw : WindOk v0 v1 m q0 q1) (hw' : WindOk u0 u1 k r0 r1) (h : WIn v0 v1 m q0 q1 u0 u1 k r0 r1) :
    p.stLo v0 v1 m q0 ≤ q.stLo u0 u1 k r0 ∧ q.stLo u0 u1 k r0 ≤ q.stHi u0 u1 k r1 ∧ q.stHi u0 u1 k r1 ≤ p.stHi v0 v1 m q1 := by
  have hc := sets_pos hw'.a4 hw'.a5
  have st : ∀ d : Nat, d < 8 → p.slo d v0 v1 ≤ q.slo d u0 u1 ∧ q.slo d u0 u1 ≤ q.shi d u0 u1 ∧ q.shi d u0 u1 ≤ p.shi d v0 v1 := fun d hd =>
    hi.setup hp hq (d := (d : Int)) (by omega) (by omega) hw.a1 h.a hw'.a2 h.b hw.a3
  obtain ⟨d, d1, d2, d3⟩ := q.hLo_at (v0 := u0) (v1 := u1) hc
  obtain ⟨e, e1, e2, e3⟩ := q.hHi_at (v0 := u0) (v1 := u1) hc
  have i1 := p.hLo_le (v0 := v0) (v1 := v1) d1 (h.c d d1 d2)
  have i2 := p.le_hHi (v0 := v0) (v1 := v1) e1 (h.c e e1 e2)
  have i3 := q.le_hHi (v0 := u0) (v1 := u1) d1 d2
  have s1 := st d d1
  have s2 := st e e1
  have q1' := quo_le h.d
  have q2 := quo_le hw'.a7
  have q3 := quo_le h.e
  have f1 : p.stLo v0 v1 m q0 = p.hLo m v0 v1 + 2560 * q0 / 981 := rfl
  have f2 : q.stLo u0 u1 k r0 = q.hLo k u0 u1 + 2560 * r0 / 981 := rfl
  have f3 : p.stHi v0 v1 m q1 = p.hHi m v0 v1 + -(-(2560 * q1) / 981) := rfl
  have f4 : q.stHi u0 u1 k r1 = q.hHi k u0 u1 + -(-(2560 * r1) / 981) := rfl
  rw [f1, f2, f3, f4]
  omega
theorem P.isIn.run {p q : P} (hp : p.ok) (hq : q.ok) (hi : q.isIn p) {a b a' b' : Int} (ha : a ≤ a') (hab : a' ≤ b') (hb : b' ≤ b) {g g' : Ws} : ∀ {n : Nat},
    (∀ k, k < n → WindOk (g.v0 k) (g.v1 k) (g.m k) (g.q0 k) (g.q1 k) ∧ WindOk (g'.v0 k) (g'.v1 k) (g'.m k) (g'.q0 k) (g'.q1 k) ∧ WIn (g.v0 k) (g.v1 k) (g.m k) (g.q0 k) (g.q1 k) (g'.v0 k) (g'.v1 k) (g'.m k) (g'.q0 k) (g'.q1 k)) →
    p.rLo a g n ≤ q.rLo a' g' n ∧ q.rLo a' g' n ≤ q.rHi b' g' n ∧ q.rHi b' g' n ≤ p.rHi b g n
  | 0, _ => ⟨ha, hab, hb⟩
  | n + 1, h => by
    obtain ⟨r1, r2, r3⟩ := P.isIn.run hp hq hi ha hab hb (n := n) fun k hk => h k (by omega)
    obtain ⟨w1, w2, w3⟩ := h n (by omega)
    obtain ⟨s1, s2, s3⟩ := hi.steady hp hq w1 w2 w3
    have l1 := hp.l1; have l2 := hq.l2; have l3 := hp.l3; have l4 := hi.ll; have l5 := hi.lh; have l6 := hq.l1; have l7 := hq.l3
    simp only [P.rLo, P.rHi]
    exact ⟨fLo_mono l1 l4 l2 l5 l3 r1 s1, fLo_fHi l6 l2 l7 r2 s2, fHi_mono l1 l4 l2 l5 l3 r3 s3⟩
theorem P.runE_iff {p : P} {a b : Int} {g : Ws} : p.runE a b g = 0 ↔ p.ok ∧ (a ≤ b ∧ -1099511627776 ≤ a ∧ b ≤ 1099511627776) ∧ g.n ≤ 500 ∧ ∀ k, k < g.n → WindOk (g.v0 k) (g.v1 k) (g.m k) (g.q0 k) (g.q1 k) := by
  have e : within a b (-1099511627776) 1099511627776 = true ↔ a ≤ b ∧ -1099511627776 ≤ a ∧ b ≤ 1099511627776 := by
    simp only [within, Bool.and_eq_true, decide_eq_true_eq]; omega
  have e2 : allB g.okW g.n = true ↔ ∀ k, k < g.n → WindOk (g.v0 k) (g.v1 k) (g.m k) (g.q0 k) (g.q1 k) := by
    rw [allB_iff]; exact ⟨fun h k hk => wind_iff.1 (h k hk), fun h k hk => wind_iff.2 (h k hk)⟩
  rw [← e, ← e2, ← P.atE_iff]
  unfold P.runE
  by_cases h1 : p.atE = 0 <;> by_cases h2 : within a b (-1099511627776) 1099511627776 = true <;> by_cases h3 : 500 < g.n <;> by_cases h4 : allB g.okW g.n = true <;> simp [h1, h2, h3, h4] <;> omega
end Go.Proofs.Ytkklmkogdogbkaa.M
