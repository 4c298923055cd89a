/-
  Texts of one seat, joined. No condition. (This text proves no statement by itself.)
-/
import Derived.Test.YtoncoofmijjgeaaKSep12
namespace Go.Proofs.Ytoncoofmijjgeaa.M
open Go
abbrev Pm (α : Type) := Nat → α
section
variable {α : Type}
def sw (i j : Nat) (p : Pm α) : Pm α := fun k => if k = i then p j else if k = j then p i else p k
theorem sw_l {i j : Nat} {p : Pm α} : sw i j p i = p j := by simp [sw]
theorem sw_r {i j : Nat} {p : Pm α} : sw i j p j = p i := by unfold sw; split <;> simp_all
theorem sw_o {i j k : Nat} {p : Pm α} (h : k ≠ i) (h' : k ≠ j) : sw i j p k = p k := by simp [sw, h, h']
inductive Sw (a b : Nat) (p : Pm α) : Pm α → Prop
  | refl : Sw a b p p
  | step {q : Pm α} {i j : Nat} (h : Sw a b p q) (h1 : a ≤ i) (h2 : i < b) (h3 : a ≤ j) (h4 : j < b) : Sw a b p (sw i j q)
theorem Sw.trans {a b : Nat} {p q r : Pm α} (h : Sw a b p q) (h' : Sw a b q r) : Sw a b p r := by
  induction h' with
  | refl => exact h
  | step _ h1 h2 h3 h4 ih => exact .step ih h1 h2 h3 h4
theorem Sw.mono {a b a' b' : Nat} {p q : Pm α} (h : Sw a b p q) (ha : a' ≤ a) (hb : b ≤ b') : Sw a' b' p q := by
  induction h with
  | refl => exact .refl
  | step _ h1 h2 h3 h4 ih => exact .step ih (by omega) (by omega) (by omega) (by omega)
theorem Sw.one {a b i j : Nat} {p : Pm α} (h1 : a ≤ i) (h2 : i < b) (h3 : a ≤ j) (h4 : j < b) : Sw a b p (sw i j p) := .step .refl h1 h2 h3 h4
theorem Sw.out {a b : Nat} {p q : Pm α} (h : Sw a b p q) {k : Nat} (hk : k < a ∨ b ≤ k) : q k = p k := by
  induction h with
  | refl => rfl
  | step _ h1 h2 h3 h4 ih => rw [sw_o (by omega) (by omega), ih]
theorem Sw.all {a b : Nat} {p q : Pm α} (h : Sw a b p q) {Q : α → Prop} (hQ : ∀ k, a ≤ k → k < b → Q (p k)) : ∀ k, a ≤ k → k < b → Q (q k) := by
  induction h with
  | refl => exact hQ
  | step _ h1 h2 h3 h4 ih =>
    intro k k1 k2
    unfold sw
    split
    · exact ih _ h3 h4
    · split
      · exact ih _ h1 h2
      · exact ih k k1 k2
def Srt (key : α → Int) (a b : Nat) (p : Pm α) : Prop := ∀ i j, a ≤ i → i ≤ j → j < b → key (p i) ≤ key (p j)
theorem srt_adj {key : α → Int} {a b : Nat} {p : Pm α} (h : ∀ i, a ≤ i → i + 1 < b → key (p i) ≤ key (p (i + 1))) : Srt key a b p := by
  intro i j h1 h2 h3
  induction j with
  | zero => have : i = 0 := by omega
            subst this; exact Int.le_refl _
  | succ j ih =>
    by_cases e : i = j + 1
    · subst e; exact Int.le_refl _
    · have := ih (by omega) (by omega)
      have := h j (by omega) h3
      omega
def insJ (key : α → Int) (a : Nat) : Nat → Pm α → Pm α
  | 0, p => p
  | j + 1, p => if a < j + 1 ∧ key (p (j + 1)) < key (p j) then insJ key a j (sw (j + 1) j p) else p
def insI (key : α → Int) (a : Nat) : Nat → Nat → Pm α → Pm α
  | 0, _, p => p
  | f + 1, i, p => insI key a f (i + 1) (insJ key a i p)
theorem insJ_inv {key : α → Int} {a i : Nat} : ∀ (j : Nat) (q : Pm α), a ≤ j → j ≤ i → (∀ x y, a ≤ x → x < y → y ≤ i → x ≠ j → y ≠ j → key (q x) ≤ key (q y)) → (∀ y, j < y → y ≤ i → key (q j) ≤ key (q y)) →
    Srt key a (i + 1) (insJ key a j q) ∧ Sw a (i + 1) q (insJ key a j q)
  | 0, q, h1, h2, h3, h4 => by
    refine ⟨fun x y a1 a2 a3 => ?_, .refl⟩
    simp only [insJ]
    by_cases e : x = y
    · subst e; exact Int.le_refl _
    · by_cases e0 : x = 0
      · subst e0; exact h4 y (by omega) (by omega)
      · exact h3 x y a1 (by omega) (by omega) e0 (by omega)
  | j + 1, q, h1, h2, h3, h4 => by
    unfold insJ
    split
    · rename_i hc
      obtain ⟨c1, c2⟩ := hc
      have s1 : sw (j + 1) j q j = q (j + 1) := sw_r
      have s2 : sw (j + 1) j q (j + 1) = q j := sw_l
      have s3 : ∀ k, k ≠ j → k ≠ j + 1 → sw (j + 1) j q k = q k := fun k k1 k2 => sw_o k2 k1
      obtain ⟨r1, r2⟩ := insJ_inv (key := key) (a := a) (i := i) j (sw (j + 1) j q) (by omega) (by omega) (fun x y a1 a2 a3 a4 a5 => by
        by_cases ex : x = j + 1
        · subst ex
          rw [s2, s3 y a5 (by omega)]
          exact h3 j y (by omega) (by omega) a3 (by omega) (by omega)
        · by_cases ey : y = j + 1
          · subst ey
            rw [s2, s3 x a4 ex]
            exact h3 x j a1 (by omega) (by omega) (by omega) (by omega)
          · rw [s3 x a4 ex, s3 y a5 ey]
            exact h3 x y a1 a2 a3 ex ey) (fun y y1 y2 => by
        rw [s1]
        by_cases ey : y = j + 1
        · subst ey; rw [s2]; omega
        · rw [s3 y (by omega) ey]
          exact h4 y (by omega) y2)
      exact ⟨r1, (Sw.one (by omega) (by omega) (by omega) (by omega)).trans r2⟩
    · rename_i hc
      refine ⟨fun x y a1 a2 a3 => ?_, .refl⟩
      by_cases e : x = y
      · subst e; exact Int.le_refl _
      · by_cases ex : x = j + 1
        · subst ex; exact h4 y (by omega) (by omega)
        · by_cases ey : y = j + 1
          · subst ey
            have c : ¬ key (q (j + 1)) < key (q j) := fun c => hc ⟨by omega, c⟩
            by_cases e2 : x = j
            · subst e2; omega
            · have := h3 x j a1 (by omega) (by omega) (by omega) (by omega)
              omega
          · exact h3 x y a1 (by omega) (by omega) ex ey
theorem insJ_ok {key : α → Int} {a i : Nat} {p : Pm α} (hi : a ≤ i) (h : Srt key a i p) : Srt key a (i + 1) (insJ key a i p) ∧ Sw a (i + 1) p (insJ key a i p) :=
  insJ_inv i p hi (Nat.le_refl i) (fun x y a1 a2 a3 a4 a5 => h x y a1 (by omega) (by omega)) (fun y y1 y2 => by omega)
theorem insI_ok {key : α → Int} {a : Nat} : ∀ (f i : Nat) (p : Pm α), a ≤ i → Srt key a i p → Srt key a (i + f) (insI key a f i p) ∧ Sw a (i + f) p (insI key a f i p)
  | 0, i, p, _, h => ⟨h, .refl⟩
  | f + 1, i, p, hi, h => by
    obtain ⟨h1, h2⟩ := insJ_ok hi h
    obtain ⟨h3, h4⟩ := insI_ok f (i + 1) (insJ key a i p) (by omega) h1
    have e : i + (f + 1) = i + 1 + f := by omega
    rw [e]
    exact ⟨h3, (h2.mono (Nat.le_refl a) (by omega)).trans h4⟩
def insS (key : α → Int) (a b : Nat) (p : Pm α) : Pm α := insI key a (b - (a + 1)) (a + 1) p
theorem insS_ok {key : α → Int} {a b : Nat} {p : Pm α} : Srt key a b (insS key a b p) ∧ Sw a b p (insS key a b p) := by
  obtain ⟨h1, h2⟩ := insI_ok (key := key) (a := a) (b - (a + 1)) (a + 1) p (by omega) (fun i j h1 h2 h3 => by rw [show i = j by omega]; exact Int.le_refl _)
  unfold insS
  by_cases h : a + 1 ≤ b
  · have e : a + 1 + (b - (a + 1)) = b := by omega
    rw [e] at h1 h2
    exact ⟨h1, h2⟩
  · have e : b - (a + 1) = 0 := by omega
    rw [e]
    exact ⟨fun i j h1 h2 h3 => by rw [show i = j by omega]; exact Int.le_refl _, .refl⟩
def sftC (key : α → Int) (first hi root : Nat) (p : Pm α) : Nat := if 2 * root + 2 < hi ∧ key (p (first + (2 * root + 1))) < key (p (first + (2 * root + 2))) then 2 * root + 2 else 2 * root + 1
def sft (key : α → Int) (first hi : Nat) : Nat → Nat → Pm α → Pm α
  | 0, _, p => p
  | f + 1, root, p => if hi ≤ 2 * root + 1 then p else if key (p (first + root)) < key (p (first + sftC key first hi root p)) then sft key first hi f (sftC key first hi root p) (sw (first + root) (first + sftC key first hi root p) p) else p
def isCh (c r : Nat) : Prop := c = 2 * r + 1 ∨ c = 2 * r + 2
def Heap (key : α → Int) (first lo hi : Nat) (p : Pm α) : Prop := ∀ r c, lo ≤ r → isCh c r → c < hi → key (p (first + c)) ≤ key (p (first + r))
theorem sft_ok {key : α → Int} {first lo hi : Nat} : ∀ (f root : Nat) (p : Pm α), hi ≤ root + f → lo ≤ root → root < hi → (∀ r c, lo ≤ r → r ≠ root → isCh c r → c < hi → key (p (first + c)) ≤ key (p (first + r))) →
    (∀ r c, lo ≤ r → isCh root r → isCh c root → c < hi → key (p (first + c)) ≤ key (p (first + r))) → Heap key first lo hi (sft key first hi f root p) ∧ Sw (first + lo) (first + hi) p (sft key first hi f root p)
  | 0, root, p, hf, _, hr, _, _ => by omega
  | f + 1, root, p, hf, hl, hr, h1, h2 => by
    unfold sft
    split
    · rename_i hc
      refine ⟨fun r c r1 c1 c2 => ?_, .refl⟩
      by_cases e : r = root
      · subst e; unfold isCh at c1; omega
      · exact h1 r c r1 e c1 c2
    · rename_i hc
      -- the greater child
      have hC : isCh (sftC key first hi root p) root ∧ sftC key first hi root p < hi ∧ ∀ c, isCh c root → c < hi → key (p (first + c)) ≤ key (p (first + sftC key first hi root p)) := by
        unfold sftC
        split
        · rename_i g
          refine ⟨.inr rfl, g.1, fun c c1 c2 => ?_⟩
          rcases c1 with e | e <;> subst e <;> omega
        · rename_i g
          refine ⟨.inl rfl, by omega, fun c c1 c2 => ?_⟩
          rcases c1 with e | e
          · subst e; exact Int.le_refl _
          · subst e
            have : ¬ key (p (first + (2 * root + 1))) < key (p (first + (2 * root + 2))) := fun g' => g ⟨c2, g'⟩
            omega
      generalize sftC key first hi root p = ch at hC
      obtain ⟨k1, k2, k3⟩ := hC
      have hgt : root < ch := by unfold isCh at k1; omega
      split
      · rename_i hlt
        have s1 : sw (first + root) (first + ch) p (first + root) = p (first + ch) := sw_l
        have s2 : sw (first + root) (first + ch) p (first + ch) = p (first + root) := sw_r
        have s3 : ∀ k, k ≠ root → k ≠ ch → sw (first + root) (first + ch) p (first + k) = p (first + k) := fun k a b => sw_o (by omega) (by omega)
        obtain ⟨r1, r2⟩ := sft_ok (key := key) (first := first) (hi := hi) (lo := lo) f ch (sw (first + root) (first + ch) p) (by omega) (by omega) k2 (fun r c b1 b2 b3 b4 => by
          by_cases er : r = root
          · subst er
            rw [s1]
            by_cases ec : c = ch
            · subst ec; rw [s2]; omega
            · rw [s3 c (by unfold isCh at b3; omega) ec]; exact k3 c b3 b4
          · rw [s3 r er b2]
            by_cases ec : c = root
            · subst ec; rw [s1]; exact h2 r ch b1 b3 k1 k2
            · by_cases ec2 : c = ch
              · exfalso; unfold isCh at b3 k1; omega
              · rw [s3 c ec ec2]; exact h1 r c b1 er b3 b4) (fun r c b1 b2 b3 b4 => by
          have er : r = root := by unfold isCh at b2 k1; omega
          subst er
          rw [s1, s3 c (by unfold isCh at b2 b3; omega) (by unfold isCh at b3; omega)]
          exact h1 ch c (by omega) (by omega) b3 b4)
        exact ⟨r1, (Sw.one (by omega) (by omega) (by omega) (by omega)).trans r2⟩
      · rename_i hlt
        refine ⟨fun r c r1 c1 c2 => ?_, .refl⟩
        by_cases e : r = root
        · subst e; have := k3 c c1 c2; omega
        · exact h1 r c r1 e c1 c2
def hpB (key : α → Int) (first hi : Nat) : Nat → Pm α → Pm α
  | 0, p => p
  | k + 1, p => hpB key first hi k (sft key first hi (hi - k) k p)
theorem hpB_ok {key : α → Int} {first hi : Nat} : ∀ (k : Nat) (p : Pm α), k ≤ hi → Heap key first k hi p → Heap key first 0 hi (hpB key first hi k p) ∧ Sw first (first + hi) p (hpB key first hi k p)
  | 0, p, _, h => ⟨h, .refl⟩
  | k + 1, p, hk, h => by
    obtain ⟨h1, h2⟩ := sft_ok (key := key) (first := first) (lo := k) (hi := hi) (hi - k) k p (by omega) (Nat.le_refl k) (by omega) (fun r c r1 r2 c1 c2 => h r c (by omega) c1 c2) (fun r c r1 c1 _ _ => by unfold isCh at c1; omega)
    obtain ⟨h3, h4⟩ := hpB_ok k _ (by omega) h1
    exact ⟨h3, (h2.mono (by omega) (Nat.le_refl _)).trans h4⟩
theorem heap_top {key : α → Int} {first hi : Nat} {p : Pm α} (h : Heap key first 0 hi p) : ∀ k, k < hi → key (p (first + k)) ≤ key (p first) := by
  intro k
  induction k using Nat.strongRecOn with
  | ind k ih =>
    intro hk
    by_cases e : k = 0
    · subst e; exact Int.le_refl _
    · have h1 := ih ((k - 1) / 2) (by omega) (by omega)
      have h2 := h ((k - 1) / 2) k (by omega) (by unfold isCh; omega) hk
      omega
def hpP (key : α → Int) (first : Nat) : Nat → Pm α → Pm α
  | 0, p => p
  | i + 1, p => hpP key first i (sft key first i i 0 (sw first (first + i) p))
theorem hpP_ok {key : α → Int} {first hi : Nat} : ∀ (i : Nat) (p : Pm α), i ≤ hi → Heap key first 0 i p → Srt key (first + i) (first + hi) p → (∀ x y, x < i → i ≤ y → y < hi → key (p (first + x)) ≤ key (p (first + y))) →
    Srt key first (first + hi) (hpP key first i p) ∧ Sw first (first + hi) p (hpP key first i p)
  | 0, p, _, _, h, _ => ⟨by simpa [hpP] using h, .refl⟩
  | i + 1, p, hi', hH, hS, hL => by
    have top := heap_top hH
    have s1 : sw first (first + i) p first = p (first + i) := sw_l
    have s2 : sw first (first + i) p (first + i) = p first := sw_r
    have s3 : ∀ k, k ≠ 0 → k ≠ i → sw first (first + i) p (first + k) = p (first + k) := fun k a b => sw_o (by omega) (by omega)
    have w1 : Sw first (first + hi) p (sw first (first + i) p) := .one (by omega) (by omega) (by omega) (by omega)
    -- the heap below
    have key1 : Heap key first 0 i (sft key first i i 0 (sw first (first + i) p)) ∧ Sw first (first + i) (sw first (first + i) p) (sft key first i i 0 (sw first (first + i) p)) := by
      by_cases e : i = 0
      · subst e
        exact ⟨fun r c _ _ c2 => by omega, .refl⟩
      · have := sft_ok (key := key) (first := first) (lo := 0) (hi := i) i 0 (sw first (first + i) p) (by omega) (by omega) (by omega) (fun r c r1 r2 c1 c2 => by
          rw [s3 r r2 (by unfold isCh at c1; omega), s3 c (by unfold isCh at c1; omega) (by omega)]
          exact hH r c r1 c1 (by omega)) (fun r c r1 c1 _ _ => by unfold isCh at c1; omega)
        simpa using this
    obtain ⟨g1, g2⟩ := key1
    generalize hq : sft key first i i 0 (sw first (first + i) p) = q at g1 g2
    have up : ∀ y, i ≤ y → q (first + y) = sw first (first + i) p (first + y) := fun y hy => g2.out (.inr (by omega))
    have low : ∀ x, x < i → key (q (first + x)) ≤ key (p first) := fun x hx => by
      have := g2.all (Q := fun v => key v ≤ key (p first)) (fun k k1 k2 => by
        show key (sw first (first + i) p k) ≤ _
        by_cases e : k = first
        · subst e; rw [s1]; exact top i (by omega)
        · obtain ⟨d, rfl⟩ : ∃ d, k = first + d := ⟨k - first, by omega⟩
          rw [s3 d (by omega) (by omega)]
          exact top d (by omega)) (first + x) (by omega) (by omega)
      exact this
    have sfx : ∀ y, i ≤ y → y < hi → key (p first) ≤ key (q (first + y)) := fun y y1 y2 => by
      rw [up y y1]
      by_cases e : y = i
      · subst e; rw [s2]; exact Int.le_refl _
      · rw [s3 y (by omega) e]
        have := hL 0 y (by omega) (by omega) y2
        simpa using this
    obtain ⟨r1, r2⟩ := hpP_ok i q (by omega) g1 (fun x y x1 x2 x3 => by
      obtain ⟨dx, rfl⟩ : ∃ d, x = first + d := ⟨x - first, by omega⟩
      obtain ⟨dy, rfl⟩ : ∃ d, y = first + d := ⟨y - first, by omega⟩
      rw [up dx (by omega), up dy (by omega)]
      by_cases ex : dx = i
      · subst ex
        rw [s2]
        by_cases ey : dy = dx
        · subst ey; rw [s2]; exact Int.le_refl _
        · rw [s3 dy (by omega) ey]
          have := hL 0 dy (by omega) (by omega) (by omega)
          simpa using this
      · rw [s3 dx (by omega) ex, s3 dy (by omega) (by omega)]
        exact hS (first + dx) (first + dy) (by omega) (by omega) x3) (fun x y x1 x2 x3 => Int.le_trans (low x x1) (sfx y x2 x3))
    unfold hpP
    rw [hq]
    exact ⟨r1, (w1.trans (g2.mono (Nat.le_refl _) (by omega))).trans r2⟩
def hpS (key : α → Int) (a b : Nat) (p : Pm α) : Pm α := hpP key a (b - a) (hpB key a (b - a) ((b - a - 1) / 2 + 1) p)
theorem hpS_ok {key : α → Int} {a b : Nat} {p : Pm α} (h : a < b) : Srt key a b (hpS key a b p) ∧ Sw a b p (hpS key a b p) := by
  have e : a + (b - a) = b := by omega
  obtain ⟨h1, h2⟩ := hpB_ok (key := key) (first := a) (hi := b - a) ((b - a - 1) / 2 + 1) p (by omega) (fun r c r1 c1 c2 => by unfold isCh at c1; omega)
  obtain ⟨h3, h4⟩ := hpP_ok (key := key) (first := a) (hi := b - a) (b - a) _ (Nat.le_refl _) h1 (fun x y x1 x2 x3 => by omega) (fun x y x1 x2 x3 => by omega)
  rw [e] at h2 h3 h4
  exact ⟨h3, h2.trans h4⟩
end
end Go.Proofs.Ytoncoofmijjgeaa.M
namespace Go.Proofs.Ytoncoofmijjgeaa.M
open Go
section
variable {α : Type}
def pUp (c:Nat→Bool) (n:Nat):Nat→Nat→Nat
 | 0,i=>i
 | f+1,i=>if i<n∧c i=true then pUp c n f (i+1) else i
def pDn (c:Nat→Bool) (i:Nat):Nat→Nat→Nat
 | 0,j=>j
 | f+1,j=>if i≤j∧c j=true then pDn c i f (j-1) else j
theorem pUp_ok {c:Nat→Bool} {n:Nat} : ∀ (f i:Nat),n≤i+f→i≤pUp c n f i∧(i≤n→pUp c n f i≤n)∧(∀ k,i≤k→k<pUp c n f i→c k=true)∧(pUp c n f i<n→c (pUp c n f i)=false)
 | 0,i,h=>⟨Nat.le_refl i,fun h'=>h',fun k h1 h2=>by simp only [pUp] at h2; omega,fun h1=>by simp only [pUp] at h1; omega⟩
 | f+1,i,h=>by
  unfold pUp
  split
  ·rename_i hc
   obtain ⟨h1,h2,h3,h4⟩:=pUp_ok (c:=c) (n:=n) f (i+1) (by omega)
   refine ⟨by omega,fun _=>h2 (by omega),fun k k1 k2 => ?_,h4⟩
   by_cases e:k=i
   ·subst e; exact hc.2
   ·exact h3 k (by omega) k2
  ·rename_i hc
   refine ⟨Nat.le_refl i,fun h'=>h',fun k h1 h2=>by omega,fun h1 => ?_⟩
   cases hq:c i
   ·rfl
   ·exact absurd ⟨h1,hq⟩ hc
theorem pDn_ok {c:Nat→Bool} {i:Nat} (hi:1≤i):∀ (f j:Nat),j+1≤i+f→pDn c i f j≤j∧(i≤j+1→i≤pDn c i f j+1)∧(∀ k,pDn c i f j<k→k≤j→c k=true)∧(i≤pDn c i f j→c (pDn c i f j)=false)
 | 0,j,h=>⟨Nat.le_refl j,fun h'=>h',fun k h1 h2=>by simp only [pDn] at h1; omega,fun h1=>by simp only [pDn] at h1; omega⟩
 | f+1,j,h=>by
  unfold pDn
  split
  ·rename_i hc
   obtain ⟨h1,h2,h3,h4⟩:=pDn_ok (c:=c) hi f (j-1) (by omega)
   refine ⟨by omega,fun _=>h2 (by omega),fun k k1 k2 => ?_,h4⟩
   by_cases e:k=j
   ·subst e; exact hc.2
   ·exact h3 k k1 (by omega)
  ·rename_i hc
   refine ⟨Nat.le_refl j,fun h'=>h',fun k h1 h2=>by omega,fun h1 => ?_⟩
   cases hq:c j
   ·rfl
   ·exact absurd ⟨h1,hq⟩ hc
def pLp (Q:α→Bool):Nat→Nat→Nat→Pm α→Pm α × Nat × Nat
 | 0,i,j,p=>(p,i,j)
 | f+1,i,j,p =>
  if pDn (fun k=>!Q (p k)) (pUp (fun k=>Q (p k)) (j+1) (j+1-i) i) (j+1-pUp (fun k=>Q (p k)) (j+1) (j+1-i) i) j<pUp (fun k=>Q (p k)) (j+1) (j+1-i) i then
   (p,pUp (fun k=>Q (p k)) (j+1) (j+1-i) i,pDn (fun k=>!Q (p k)) (pUp (fun k=>Q (p k)) (j+1) (j+1-i) i) (j+1-pUp (fun k=>Q (p k)) (j+1) (j+1-i) i) j)
  else pLp Q f (pUp (fun k=>Q (p k)) (j+1) (j+1-i) i+1) (pDn (fun k=>!Q (p k)) (pUp (fun k=>Q (p k)) (j+1) (j+1-i) i) (j+1-pUp (fun k=>Q (p k)) (j+1) (j+1-i) i) j-1)
   (sw (pUp (fun k=>Q (p k)) (j+1) (j+1-i) i) (pDn (fun k=>!Q (p k)) (pUp (fun k=>Q (p k)) (j+1) (j+1-i) i) (j+1-pUp (fun k=>Q (p k)) (j+1) (j+1-i) i) j) p)
theorem pLp_ok {Q:α→Bool} : ∀ (f i j:Nat) (p:Pm α),1≤i→i≤j+1→j+1≤i+f→1≤f →
  Sw i (j+1) p (pLp Q f i j p).1∧(pLp Q f i j p).2.1=(pLp Q f i j p).2.2+1∧i≤(pLp Q f i j p).2.1∧(pLp Q f i j p).2.1≤j+1 ∧
  (∀ k,i≤k→k<(pLp Q f i j p).2.1→Q ((pLp Q f i j p).1 k)=true)∧(∀ k,(pLp Q f i j p).2.1≤k→k≤j→Q ((pLp Q f i j p).1 k)=false)
 | 0,i,j,p,_,_,_,h=>by omega
 | f+1,i,j,p,h1,h2,h3,_=>by
  obtain ⟨u1,u2,u3,u4⟩:=pUp_ok (c:=fun k=>Q (p k)) (n:=j+1) (j+1-i) i (by omega)
  unfold pLp
  generalize pUp (fun k=>Q (p k)) (j+1) (j+1-i) i=i' at *
  obtain ⟨d1,d2,d3,d4⟩:=pDn_ok (c:=fun k=>!Q (p k)) (i:=i') (by omega) (j+1-i') j (by omega)
  generalize pDn (fun k=>!Q (p k)) i' (j+1-i') j=j' at *
  have u2:=u2 h2
  have d2:=d2 (by omega)
  split
  ·rename_i hc
   refine ⟨.refl,?_,by simpa using u1,by simpa using u2,fun k k1 k2=>u3 k k1 k2,fun k k1 k2 => ?_⟩
   ·show i'=j'+1; omega
   ·have:=d3 k (by simp only at k1; omega) k2
    simpa using this
  ·rename_i hc
   have q1:Q (p i')=false:=u4 (by omega)
   have q2:Q (p j')=true:=by have:=d4 (by omega); simpa using this
   have hne:i'≠j':=fun e=>by rw [e,q2] at q1; cases q1
   have s1:sw i' j' p i'=p j':=sw_l
   have s2:sw i' j' p j'=p i':=sw_r
   have s3:∀ k,k≠i'→k≠j'→sw i' j' p k=p k:=fun k a b=>sw_o a b
   have w:Sw i (j+1) p (sw i' j' p):=.one (by omega) (by omega) (by omega) (by omega)
   by_cases hf:i'+1≤j'-1+1∧1≤f
   ·obtain ⟨r1,r2,r3,r4,r5,r6⟩:=pLp_ok (Q:=Q) f (i'+1) (j'-1) (sw i' j' p) (by omega) hf.1 (by omega) hf.2
    refine ⟨w.trans (r1.mono (by omega) (by omega)),r2,by omega,by omega,fun k k1 k2 => ?_,fun k k1 k2 => ?_⟩
    ·by_cases e:i'+1≤k
     ·exact r5 k e k2
     ·rw [r1.out (.inl (by omega))]
      by_cases e2:k=i'
      ·subst e2; rw [s1]; exact q2
      ·rw [s3 k e2 (by omega)]; exact u3 k k1 (by omega)
    ·by_cases e:k≤j'-1
     ·exact r6 k k1 e
     ·rw [r1.out (.inr (by omega))]
      by_cases e2:k=j'
      ·subst e2; rw [s2]; exact q1
      ·rw [s3 k (by omega) e2]
       have:=d3 k (by omega) k2
       simpa using this
   ·exfalso; omega
def prL (key:α→Int) (a b pv:Nat) (p:Pm α):Pm α × Nat × Nat:=pLp (fun x=>decide (key x<key (p pv))) (b-a) (a+1) (b-1) (sw a pv p)
def prP (key:α→Int) (a b pv:Nat) (p:Pm α):Pm α:=sw (prL key a b pv p).2.2 a (prL key a b pv p).1
def prM (key:α→Int) (a b pv:Nat) (p:Pm α):Nat:=(prL key a b pv p).2.2
theorem pr_ok {key:α→Int} {a b pv:Nat} {p:Pm α} (h:a+1<b) (h1:a≤pv) (h2:pv<b):Sw a b p (prP key a b pv p)∧a≤prM key a b pv p∧prM key a b pv p<b ∧
  (∀ k,a≤k→k<prM key a b pv p→key (prP key a b pv p k)≤key (prP key a b pv p (prM key a b pv p)))∧(∀ k,prM key a b pv p<k→k<b→key (prP key a b pv p (prM key a b pv p))≤key (prP key a b pv p k)):=by
 obtain ⟨r1,r2,r3,r4,r5,r6⟩:=pLp_ok (Q:=fun x=>decide (key x<key (p pv))) (b-a) (a+1) (b-1) (sw a pv p) (by omega) (by omega) (by omega) (by omega)
 unfold prP prM
 have e:pLp (fun x=>decide (key x<key (p pv))) (b-a) (a+1) (b-1) (sw a pv p)=prL key a b pv p:=rfl
 rw [e] at r1 r2 r3 r4 r5 r6
 generalize (prL key a b pv p).1=q at *
 generalize (prL key a b pv p).2.1=i at *
 generalize (prL key a b pv p).2.2=j at *
 subst r2
 have e2:b-1+1=b:=by omega
 rw [e2] at r1 r4
 have qa:q a=p pv:=by rw [r1.out (.inl (by omega))]; exact sw_l
 have s1:sw j a q j=q a:=sw_l
 have s2:sw j a q a=q j:=sw_r
 have s3:∀ k,k≠j→k≠a→sw j a q k=q k:=fun k x y=>sw_o x y
 refine ⟨((Sw.one (by omega) (by omega) h1 h2).trans (r1.mono (by omega) (Nat.le_refl b))).trans (.one (by omega) (by omega) (Nat.le_refl a) (by omega)),by omega,by omega,fun k k1 k2 => ?_,fun k k1 k2 => ?_⟩
 ·rw [s1,qa]
  have lt:∀ x,a+1≤x→x<j+1→key (q x)<key (p pv):=fun x x1 x2=>by have:=r5 x x1 x2; simpa using this
  by_cases e3:k=a
  ·subst e3
   rw [s2]
   have:=lt j (by omega) (by omega)
   omega
  ·rw [s3 k (by omega) e3]
   have:=lt k (by omega) (by omega)
   omega
 ·rw [s1,qa,s3 k (by omega) (by omega)]
  have:=r6 k (by omega) (by omega)
  simp only [decide_eq_false_iff_not] at this
  omega
def peL (key:α→Int) (a b pv:Nat) (p:Pm α):Pm α × Nat × Nat:=pLp (fun x=>!decide (key (p pv)<key x)) (b-a) (a+1) (b-1) (sw a pv p)
theorem pe_ok {key:α→Int} {a b pv:Nat} {p:Pm α} (h:a+1<b) (h1:a≤pv) (h2:pv<b) (hmin:∀ k,a≤k→k<b→key (p pv)≤key (p k)) :
  Sw a b p (peL key a b pv p).1∧a<(peL key a b pv p).2.1∧(peL key a b pv p).2.1≤b∧(∀ k,a≤k→k<(peL key a b pv p).2.1→key ((peL key a b pv p).1 k)=key (p pv)) ∧
  (∀ k,(peL key a b pv p).2.1≤k→k<b→key (p pv)≤key ((peL key a b pv p).1 k)):=by
 obtain ⟨r1,r2,r3,r4,r5,r6⟩:=pLp_ok (Q:=fun x=>!decide (key (p pv)<key x)) (b-a) (a+1) (b-1) (sw a pv p) (by omega) (by omega) (by omega) (by omega)
 have e:pLp (fun x=>!decide (key (p pv)<key x)) (b-a) (a+1) (b-1) (sw a pv p)=peL key a b pv p:=rfl
 rw [e] at r1 r2 r3 r4 r5 r6
 generalize (peL key a b pv p).1=q at *
 generalize (peL key a b pv p).2.1=i at *
 have e2:b-1+1=b:=by omega
 rw [e2] at r1 r4
 have qa:q a=p pv:=by rw [r1.out (.inl (by omega))]; exact sw_l
 have w:Sw a b p q:=(Sw.one (Nat.le_refl a) (by omega) h1 h2).trans (r1.mono (by omega) (Nat.le_refl b))
 have mn:=w.all (Q:=fun x=>key (p pv)≤key x) hmin
 refine ⟨w,by omega,r4,fun k k1 k2 => ?_,fun k k1 k2=>mn k (by omega) k2⟩
 by_cases e3:k=a
 ·subst e3; rw [qa]
 ·have h3:=r5 k (by omega) k2
  simp only [Bool.not_eq_true',decide_eq_false_iff_not] at h3
  have:key (p pv)≤key (q k):=mn k k1 (by omega)
  omega
def shL (key:α→Int):Nat→Pm α→Pm α
 | 0,p=>p
 | j+1,p=>if key (p (j+1))<key (p j) then shL key j (sw (j+1) j p) else p
def shR (key:α→Int) (b:Nat):Nat→Nat→Pm α→Pm α
 | 0,_,p=>p
 | f+1,j,p=>if j<b∧key (p j)<key (p (j-1)) then shR key b f (j+1) (sw j (j-1) p) else p
def LB (key:α→Int) (a b:Nat) (p:Pm α):Prop:=0<a→∀ k,a≤k→k<b→key (p (a-1))≤key (p k)
theorem LB.sw {key:α→Int} {a b:Nat} {p q:Pm α} (h:LB key a b p) (hs:Sw a b p q):LB key a b q:=fun h0 k k1 k2=>by
 rw [hs.out (.inl (by omega))]
 exact hs.all (Q:=fun x=>key (p (a-1))≤key x) (h h0) k k1 k2
theorem shL_eq {key:α→Int} {a:Nat} : ∀ (j:Nat) (p:Pm α),a≤j→(0<a→∀ k,a≤k→k≤j→key (p (a-1))≤key (p k))→shL key j p=insJ key a j p
 | 0,p,_,_=>rfl
 | j+1,p,h,hb=>by
  unfold shL insJ
  by_cases ha:a<j+1
  ·simp only [ha,true_and]
   split
   ·refine shL_eq j _ (by omega) (fun h0 k k1 k2 => ?_)
    rw [sw_o (by omega) (by omega)]
    by_cases e:k=j
    ·subst e; rw [sw_r]; exact hb h0 (k+1) (by omega) (by omega)
    ·rw [sw_o (by omega) e]; exact hb h0 k k1 (by omega)
   ·rfl
  ·have e:a=j+1:=by omega
   have:¬ key (p (j+1))<key (p j):=by
    have:=hb (by omega) (j+1) (by omega) (Nat.le_refl _)
    rw [e,Nat.add_sub_cancel] at this
    omega
   rw [if_neg this,if_neg (fun h=>ha h.1)]
theorem shR_ok {key:α→Int} {b:Nat} : ∀ (f j:Nat) (p:Pm α),1≤j→Sw (j-1) b p (shR key b f j p)
 | 0,j,p,_=>.refl
 | f+1,j,p,h=>by
  unfold shR
  split
  ·have:=shR_ok (key:=key) (b:=b) f (j+1) (sw j (j-1) p) (by omega)
   exact (Sw.one (by omega) (by omega) (by omega) (by omega)).trans (this.mono (by omega) (Nat.le_refl b))
  ·exact .refl
def pisI (key:α→Int) (b i:Nat) (p:Pm α):Nat:=pUp (fun k=>!decide (key (p k)<key (p (k-1)))) b (b-i) i
def pisA (key:α→Int) (a i:Nat) (p:Pm α):Pm α:=if 2≤i-a then shL key (i-1) p else p
def pisB (key:α→Int) (b i:Nat) (p:Pm α):Pm α:=if 2≤b-i then shR key b (b-(i+1)) (i+1) p else p
def pisP (key:α→Int) (a b i:Nat) (p:Pm α):Pm α:=pisB key b i (pisA key a i (sw i (i-1) p))
def pis (key:α→Int) (a b:Nat):Nat→Nat→Pm α→Pm α × Bool
 | 0,_,p=>(p,false)
 | r+1,i,p=>if pisI key b i p=b then (p,true) else if b-a<50 then (p,false) else pis key a b r (pisI key b i p) (pisP key a b (pisI key b i p) p)
theorem pis_ok {key:α→Int} {a b:Nat} : ∀ (r i:Nat) (p:Pm α),a+1≤i→i≤b→LB key a b p→Srt key a i p→Sw a b p (pis key a b r i p).1∧((pis key a b r i p).2=true→Srt key a b (pis key a b r i p).1)
 | 0,i,p,_,_,_,_=>⟨.refl,fun h=>by cases h⟩
 | r+1,i,p,h1,h2,hb,hs=>by
  obtain ⟨u1,u2,u3,u4⟩:=pUp_ok (c:=fun k=>!decide (key (p k)<key (p (k-1)))) (n:=b) (b-i) i (by omega)
  have e:pUp (fun k=>!decide (key (p k)<key (p (k-1)))) b (b-i) i=pisI key b i p:=rfl
  rw [e] at u1 u2 u3 u4
  unfold pis
  generalize pisI key b i p=i' at *
  have u2:=u2 h2
  have hs':Srt key a i' p:=srt_adj fun k k1 k2=>by
   by_cases c:k+1<i
   ·exact hs k (k+1) k1 (by omega) c
   ·have:=u3 (k+1) (by omega) k2
    simp only [Nat.add_sub_cancel,Bool.not_eq_true',decide_eq_false_iff_not] at this
    omega
  split
  ·rename_i hc
   subst hc
   exact ⟨.refl,fun _=>hs'⟩
  ·rename_i hc
   split
   ·exact ⟨.refl,fun h=>by cases h⟩
   ·have w1:Sw a b p (sw i' (i'-1) p):=.one (by omega) (by omega) (by omega) (by omega)
    have hb1:=hb.sw w1
    -- the smaller one to its place
    have hA:Sw a i' (sw i' (i'-1) p) (pisA key a i' (sw i' (i'-1) p))∧Srt key a i' (pisA key a i' (sw i' (i'-1) p)):=by
     have hs1:Srt key a (i'-1) (sw i' (i'-1) p):=fun x y x1 x2 x3=>by
      rw [sw_o (by omega) (by omega),sw_o (by omega) (by omega)]; exact hs' x y x1 x2 (by omega)
     unfold pisA
     split
     ·rw [shL_eq (a:=a) (i'-1) _ (by omega) (fun h0 k k1 k2=>hb1 h0 k k1 (by omega))]
      obtain ⟨g1,g2⟩:=insJ_ok (key:=key) (a:=a) (i:=i'-1) (by omega) hs1
      rw [show i'-1+1=i' by omega] at g1 g2
      exact ⟨g2,g1⟩
     ·refine ⟨.refl,fun x y x1 x2 x3 => ?_⟩
      rw [show x=y by omega]; exact Int.le_refl _
    have w2:=hA.1.mono (a':=a) (b':=b) (Nat.le_refl a) u2
    have hB:Sw i' b (pisA key a i' (sw i' (i'-1) p)) (pisP key a b i' p):=by
     unfold pisP pisB
     split
     ·exact shR_ok (b-(i'+1)) (i'+1) _ (by omega)
     ·exact .refl
    have w3:=hB.mono (a':=a) (b':=b) (by omega) (Nat.le_refl b)
    have w:=(w1.trans w2).trans w3
    have hs3:Srt key a i' (pisP key a b i' p):=fun x y x1 x2 x3=>by
     rw [hB.out (.inl (by omega)),hB.out (.inl (by omega))]; exact hA.2 x y x1 x2 x3
    obtain ⟨r1,r2⟩:=pis_ok r i' (pisP key a b i' p) (by omega) u2 (hb.sw w) hs3
    exact ⟨w.trans r1,r2⟩
def rvL:Nat→Nat→Nat→Pm α→Pm α
 | 0,_,_,p=>p
 | f+1,i,j,p=>if i<j then rvL f (i+1) (j-1) (sw i j p) else p
theorem rvL_ok {a b:Nat} : ∀ (f i j:Nat) (p:Pm α),a≤i→j<b→Sw a b p (rvL f i j p)
 | 0,_,_,p,_,_=>.refl
 | f+1,i,j,p,h1,h2=>by
  unfold rvL
  split
  ·exact (Sw.one h1 (by omega) (by omega) h2).trans (rvL_ok f (i+1) (j-1) _ (by omega) (by omega))
  ·exact .refl
def brk (ot:Nat→Nat→Nat) (a b:Nat):Nat→Pm α→Pm α
 | 0,p=>p
 | t+1,p=>sw (a+(b-a)/4*2-1+t) (a+ot (b-a) t) (brk ot a b t p)
theorem brk_ok {ot:Nat→Nat→Nat} {a b:Nat} (hl:8≤b-a) (ho:∀ t,ot (b-a) t<b-a):∀ (t:Nat) (p:Pm α),t≤3→Sw a b p (brk ot a b t p)
 | 0,p,_=>.refl
 | t+1,p,h=>by
  have:=ho t
  exact .step (brk_ok hl ho t p (by omega)) (by omega) (by omega) (by omega) (by omega)
def or2 (key:α→Int) (p:Pm α) (x y:Nat) (s:Int):Nat × Nat × Int:=if key (p y)<key (p x) then (y,x,s+1) else (x,y,s)
def medA (key:α→Int) (p:Pm α) (x y z:Nat) (s:Int):Nat × Nat × Int:=or2 key p (or2 key p x y s).2.1 z (or2 key p x y s).2.2
def med (key:α→Int) (p:Pm α) (x y z:Nat) (s:Int):Nat × Nat × Int:=or2 key p (or2 key p x y s).1 (medA key p x y z s).1 (medA key p x y z s).2.2
theorem or2_in {key:α→Int} {p:Pm α} {x y:Nat} {s:Int} : ((or2 key p x y s).1=x∨(or2 key p x y s).1=y)∧((or2 key p x y s).2.1=x∨(or2 key p x y s).2.1=y)∧(s≤(or2 key p x y s).2.2∧(or2 key p x y s).2.2≤s+1):=by
 unfold or2
 split <;> simp <;> omega
theorem med_in {key:α→Int} {p:Pm α} {x y z:Nat} {s:Int} : ((med key p x y z s).2.1=x∨(med key p x y z s).2.1=y∨(med key p x y z s).2.1=z)∧s≤(med key p x y z s).2.2∧(med key p x y z s).2.2≤s+3:=by
 have h1:=@or2_in α key p x y s
 have h2:=@or2_in α key p (or2 key p x y s).2.1 z (or2 key p x y s).2.2
 have h3:=@or2_in α key p (or2 key p x y s).1 (medA key p x y z s).1 (medA key p x y z s).2.2
 unfold med medA at *
 omega
def cpI (key:α→Int) (a b:Nat) (p:Pm α):Nat × Nat × Int:=if 50≤b-a then med key p (a+(b-a)/4*1-1) (a+(b-a)/4*1) (a+(b-a)/4*1+1) 0 else (0,a+(b-a)/4*1,0)
def cpJ (key:α→Int) (a b:Nat) (p:Pm α):Nat × Nat × Int:=if 50≤b-a then med key p (a+(b-a)/4*2-1) (a+(b-a)/4*2) (a+(b-a)/4*2+1) (cpI key a b p).2.2 else (0,a+(b-a)/4*2,0)
def cpK (key:α→Int) (a b:Nat) (p:Pm α):Nat × Nat × Int:=if 50≤b-a then med key p (a+(b-a)/4*3-1) (a+(b-a)/4*3) (a+(b-a)/4*3+1) (cpJ key a b p).2.2 else (0,a+(b-a)/4*3,0)
def cpM (key:α→Int) (a b:Nat) (p:Pm α):Nat × Nat × Int:=if 8≤b-a then med key p (cpI key a b p).2.1 (cpJ key a b p).2.1 (cpK key a b p).2.1 (cpK key a b p).2.2 else (0,a+(b-a)/4*2,0)
def cpV (key:α→Int) (a b:Nat) (p:Pm α):Nat:=(cpM key a b p).2.1
def cpH (key:α→Int) (a b:Nat) (p:Pm α):Int:=if (cpM key a b p).2.2=0 then 1 else if (cpM key a b p).2.2=12 then 2 else 0
theorem cpV_in {key:α→Int} {a b:Nat} {p:Pm α} (h:8≤b-a):a≤cpV key a b p∧cpV key a b p<b:=by
 have i1:a≤(cpI key a b p).2.1∧(cpI key a b p).2.1<b:=by
  unfold cpI
  split
  ·have:=(@med_in α key p (a+(b-a)/4*1-1) (a+(b-a)/4*1) (a+(b-a)/4*1+1) 0).1
   omega
  ·simp only; omega
 have i2:a≤(cpJ key a b p).2.1∧(cpJ key a b p).2.1<b:=by
  unfold cpJ
  split
  ·have:=(@med_in α key p (a+(b-a)/4*2-1) (a+(b-a)/4*2) (a+(b-a)/4*2+1) (cpI key a b p).2.2).1
   omega
  ·simp only; omega
 have i3:a≤(cpK key a b p).2.1∧(cpK key a b p).2.1<b:=by
  unfold cpK
  split
  ·have:=(@med_in α key p (a+(b-a)/4*3-1) (a+(b-a)/4*3) (a+(b-a)/4*3+1) (cpJ key a b p).2.2).1
   omega
  ·simp only; omega
 unfold cpV cpM
 rw [if_pos h]
 have:=(@med_in α key p (cpI key a b p).2.1 (cpJ key a b p).2.1 (cpK key a b p).2.1 (cpK key a b p).2.2).1
 omega
end
end Go.Proofs.Ytoncoofmijjgeaa.M
namespace Go.Proofs.Ytoncoofmijjgeaa.M
open Go
section
variable {α : Type}
section
variable (key : α → Int) (ot : Nat → Nat → Nat) (a b : Nat) (wb wp : Bool) (p : Pm α)
def pqB:Pm α:=if wb=true then p else brk ot a b 3 p
def pqT:Bool:=decide (cpH key a b (pqB ot a b wb p)=2)
def pqR:Pm α:=if pqT key ot a b wb p=true then rvL (b-a) a (b-1) (pqB ot a b wb p) else pqB ot a b wb p
def pqV:Nat:=if pqT key ot a b wb p=true then b-1-(cpV key a b (pqB ot a b wb p)-a) else cpV key a b (pqB ot a b wb p)
def pqG:Bool:=wb && (wp && decide (cpH key a b (pqB ot a b wb p)≠0))
def pqI:Pm α × Bool:=if pqG key ot a b wb wp p=true then pis key a b 5 (a+1) (pqR key ot a b wb p) else (pqR key ot a b wb p,false)
def pqE:Bool:=decide (0<a∧¬ key ((pqI key ot a b wb wp p).1 (a-1))<key ((pqI key ot a b wb wp p).1 (pqV key ot a b wb p)))
def pqA:Bool:=decide (pDn (fun k=>!decide (key (sw a (pqV key ot a b wb p) (pqI key ot a b wb wp p).1 k)<key ((pqI key ot a b wb wp p).1 (pqV key ot a b wb p))))
 (pUp (fun k=>decide (key (sw a (pqV key ot a b wb p) (pqI key ot a b wb wp p).1 k)<key ((pqI key ot a b wb wp p).1 (pqV key ot a b wb p)))) (b-1+1) (b-1+1-(a+1)) (a+1))
 (b-1+1-pUp (fun k=>decide (key (sw a (pqV key ot a b wb p) (pqI key ot a b wb wp p).1 k)<key ((pqI key ot a b wb wp p).1 (pqV key ot a b wb p)))) (b-1+1) (b-1+1-(a+1)) (a+1)) (b-1) <
 pUp (fun k=>decide (key (sw a (pqV key ot a b wb p) (pqI key ot a b wb wp p).1 k)<key ((pqI key ot a b wb wp p).1 (pqV key ot a b wb p)))) (b-1+1) (b-1+1-(a+1)) (a+1))
end
def pdq (key:α→Int) (ot:Nat→Nat→Nat):Nat→Nat→Nat→Int→Bool→Bool→Pm α→Pm α
 | 0,_,_,_,_,_,p=>p
 | f+1,a,b,lim,wb,wp,p =>
  if b-a≤12 then insS key a b p
  else if lim=0 then hpS key a b p
  else if (pqI key ot a b wb wp p).2=true then (pqI key ot a b wb wp p).1
  else if pqE key ot a b wb wp p=true then
   pdq key ot f (peL key a b (pqV key ot a b wb p) (pqI key ot a b wb wp p).1).2.1 b (if wb=true then lim else lim-1) wb wp (peL key a b (pqV key ot a b wb p) (pqI key ot a b wb wp p).1).1
  else if prM key a b (pqV key ot a b wb p) (pqI key ot a b wb wp p).1-a<b-prM key a b (pqV key ot a b wb p) (pqI key ot a b wb wp p).1 then
   pdq key ot f (prM key a b (pqV key ot a b wb p) (pqI key ot a b wb wp p).1+1) b (if wb=true then lim else lim-1) (decide ((b-a)/8≤prM key a b (pqV key ot a b wb p) (pqI key ot a b wb wp p).1-a)) (pqA key ot a b wb wp p)
    (pdq key ot f a (prM key a b (pqV key ot a b wb p) (pqI key ot a b wb wp p).1) (if wb=true then lim else lim-1) true true (prP key a b (pqV key ot a b wb p) (pqI key ot a b wb wp p).1))
  else
   pdq key ot f a (prM key a b (pqV key ot a b wb p) (pqI key ot a b wb wp p).1) (if wb=true then lim else lim-1) (decide ((b-a)/8≤b-prM key a b (pqV key ot a b wb p) (pqI key ot a b wb wp p).1)) (pqA key ot a b wb wp p)
    (pdq key ot f (prM key a b (pqV key ot a b wb p) (pqI key ot a b wb wp p).1+1) b (if wb=true then lim else lim-1) true true (prP key a b (pqV key ot a b wb p) (pqI key ot a b wb wp p).1))
section
variable {key : α → Int} {ot : Nat → Nat → Nat} (ho : ∀ l t, 8 ≤ l → ot l t < l)
include ho
theorem pqI_ok {a b:Nat} {wb wp:Bool} {p:Pm α} (h:12<b-a) (hb:LB key a b p):Sw a b p (pqI key ot a b wb wp p).1∧((pqI key ot a b wb wp p).2=true→Srt key a b (pqI key ot a b wb wp p).1) ∧
  a≤pqV key ot a b wb p∧pqV key ot a b wb p<b:=by
 have w1:Sw a b p (pqB ot a b wb p):=by
  unfold pqB
  split
  ·exact .refl
  ·exact brk_ok (by omega) (fun t=>ho _ t (by omega)) 3 p (Nat.le_refl 3)
 have w2:Sw a b (pqB ot a b wb p) (pqR key ot a b wb p):=by
  unfold pqR
  split
  ·exact rvL_ok (b-a) a (b-1) _ (Nat.le_refl a) (by omega)
  ·exact .refl
 have w:=w1.trans w2
 have hv:a≤pqV key ot a b wb p∧pqV key ot a b wb p<b:=by
  have:=cpV_in (key:=key) (a:=a) (b:=b) (p:=pqB ot a b wb p) (by omega)
  unfold pqV
  split <;> omega
 refine ⟨?_,?_,hv⟩
 ·unfold pqI
  split
  ·exact w.trans (pis_ok 5 (a+1) _ (Nat.le_refl _) (by omega) (hb.sw w) (fun i j h1 h2 h3=>by rw [show i=j by omega]; exact Int.le_refl _)).1
  ·exact w
 ·unfold pqI
  split
  ·exact (pis_ok 5 (a+1) _ (Nat.le_refl _) (by omega) (hb.sw w) (fun i j h1 h2 h3=>by rw [show i=j by omega]; exact Int.le_refl _)).2
  ·intro h; cases h
theorem pdq_ok:∀ (f a b:Nat) (lim:Int) (wb wp:Bool) (p:Pm α),b-a<f→LB key a b p→Srt key a b (pdq key ot f a b lim wb wp p)∧Sw a b p (pdq key ot f a b lim wb wp p)
 | 0,_,_,_,_,_,_,h,_=>by omega
 | f+1,a,b,lim,wb,wp,p,h,hb=>by
  unfold pdq
  split
  ·exact insS_ok
  ·rename_i h12
   split
   ·exact hpS_ok (by omega)
   ·obtain ⟨w1,s1,v1,v2⟩:=pqI_ok (key:=key) (ot:=ot) ho (a:=a) (b:=b) (wb:=wb) (wp:=wp) (p:=p) (by omega) hb
    split
    ·rename_i hs
     exact ⟨s1 hs,w1⟩
    ·have hb2:=hb.sw w1
     split
     ·rename_i he
      unfold pqE at he
      simp only [decide_eq_true_eq] at he
      generalize (pqI key ot a b wb wp p).1=q at *
      generalize pqV key ot a b wb p=v at *
      obtain ⟨e1,e2⟩:=he
      obtain ⟨p1,p2,p3,p4,p5⟩:=pe_ok (key:=key) (p:=q) (pv:=v) (a:=a) (b:=b) (by omega) v1 v2 (fun k k1 k2=>by have:=hb2 e1 k k1 k2; omega)
      generalize (peL key a b v q).1=r at *
      generalize (peL key a b v q).2.1=m at *
      obtain ⟨g1,g2⟩:=pdq_ok f m b (if wb=true then lim else lim-1) wb wp r (by omega) (fun h0 k k1 k2=>by
       have h1:=p4 (m-1) (by omega) (by omega)
       have h2:=p5 k k1 k2
       omega)
      refine ⟨fun i j i1 i2 i3 => ?_,(w1.trans p1).trans (g2.mono (by omega) (Nat.le_refl b))⟩
      generalize pdq key ot f m b (if wb=true then lim else lim-1) wb wp r=z at *
      by_cases ci:i<m
      ·have hi:=p4 i i1 ci
       rw [g2.out (.inl ci),hi]
       by_cases cj:j<m
       ·rw [g2.out (.inl cj),p4 j (by omega) cj]; exact Int.le_refl _
       ·have:=g2.all (Q:=fun x=>key (q v)≤key x) p5 j (by omega) i3
        exact this
      ·exact g1 i j (by omega) i2 i3
     ·generalize (pqI key ot a b wb wp p).1=q at *
      generalize pqV key ot a b wb p=v at *
      obtain ⟨p1,p2,p3,p4,p5⟩:=pr_ok (key:=key) (p:=q) (pv:=v) (a:=a) (b:=b) (by omega) v1 v2
      generalize prP key a b v q=r at *
      generalize prM key a b v q=m at *
      have hb3:=hb2.sw p1
      have lbL:LB key a m r:=fun h0 k k1 k2=>hb3 h0 k k1 (by omega)
      have fin:∀ {y z:Pm α},Sw a m r y→Srt key a m y→Sw (m+1) b y z→Srt key (m+1) b z→Srt key a b z∧Sw a b p z:=fun {y z} y1 y2 z1 z2=>by
       have low:∀ k,a≤k→k<m→key (z k)≤key (r m):=fun k k1 k2=>by
        rw [z1.out (.inl (by omega))]
        exact y1.all (Q:=fun x=>key x≤key (r m)) p4 k k1 k2
       have mid:z m=r m:=by rw [z1.out (.inl (by omega)),y1.out (.inr (Nat.le_refl m))]
       have up:∀ k,m+1≤k→k<b→key (r m)≤key (z k):=fun k k1 k2 =>
        z1.all (Q:=fun x=>key (r m)≤key x) (fun j j1 j2=>by rw [y1.out (.inr (by omega))]; exact p5 j (by omega) j2) k k1 k2
       refine ⟨fun i j i1 i2 i3 => ?_,((w1.trans p1).trans (y1.mono (Nat.le_refl a) (by omega))).trans (z1.mono (by omega) (Nat.le_refl b))⟩
       rcases Nat.lt_trichotomy i m with ci | ci | ci
       ·rcases Nat.lt_trichotomy j m with cj | cj | cj
        ·rw [z1.out (.inl (by omega)),z1.out (.inl (by omega))]; exact y2 i j i1 i2 cj
        ·subst cj; rw [mid]; exact low i i1 ci
        ·have h1:=low i i1 ci
         have h2:=up j cj i3
         omega
       ·subst ci
        rw [mid]
        rcases Nat.eq_or_lt_of_le i2 with cj | cj
        ·subst cj; rw [mid]; exact Int.le_refl _
        ·exact up j cj i3
       ·exact z2 i j ci i2 i3
      split
      ·obtain ⟨g1,g2⟩:=pdq_ok f a m (if wb=true then lim else lim-1) true true r (by omega) lbL
       generalize pdq key ot f a m (if wb=true then lim else lim-1) true true r=y at *
       obtain ⟨k1,k2⟩:=pdq_ok f (m+1) b (if wb=true then lim else lim-1) (decide ((b-a)/8≤m-a)) (pqA key ot a b wb wp p) y (by omega) (fun h0 k k1 k2=>by
        rw [Nat.add_sub_cancel,g2.out (.inr (Nat.le_refl m)),g2.out (.inr (by omega))]; exact p5 k (by omega) k2)
       exact fin g2 g1 k2 k1
      ·obtain ⟨k1,k2⟩:=pdq_ok f (m+1) b (if wb=true then lim else lim-1) true true r (by omega) (fun h0 k k1 k2=>by
        rw [Nat.add_sub_cancel]; exact p5 k (by omega) k2)
       generalize pdq key ot f (m+1) b (if wb=true then lim else lim-1) true true r=z at *
       obtain ⟨g1,g2⟩:=pdq_ok f a m (if wb=true then lim else lim-1) (decide ((b-a)/8≤b-m)) (pqA key ot a b wb wp p) z (by omega) (fun h0 k e1 e2=>by
        rw [k2.out (.inl (by omega)),k2.out (.inl (by omega))]; exact lbL h0 k e1 e2)
       generalize pdq key ot f a m (if wb=true then lim else lim-1) (decide ((b-a)/8≤b-m)) (pqA key ot a b wb wp p) z=y at *
       -- the same from the right first
       have low:∀ k,a≤k→k<m→key (y k)≤key (r m):=fun k k1' k2' =>
        g2.all (Q:=fun x=>key x≤key (r m)) (fun j j1 j2=>by rw [k2.out (.inl (by omega))]; exact p4 j j1 j2) k k1' k2'
       have mid:y m=r m:=by rw [g2.out (.inr (Nat.le_refl m)),k2.out (.inl (by omega))]
       have up:∀ k,m+1≤k→k<b→key (r m)≤key (y k):=fun k k1' k2'=>by
        rw [g2.out (.inr (by omega))]
        exact k2.all (Q:=fun x=>key (r m)≤key x) (fun j j1 j2=>p5 j (by omega) j2) k k1' k2'
       refine ⟨fun i j i1 i2 i3 => ?_,((w1.trans p1).trans (k2.mono (by omega) (Nat.le_refl b))).trans (g2.mono (Nat.le_refl a) (by omega))⟩
       rcases Nat.lt_trichotomy i m with ci | ci | ci
       ·rcases Nat.lt_trichotomy j m with cj | cj | cj
        ·exact g1 i j i1 i2 cj
        ·subst cj; rw [mid]; exact low i i1 ci
        ·have h1:=low i i1 ci
         have h2:=up j cj i3
         omega
       ·subst ci
        rw [mid]
        rcases Nat.eq_or_lt_of_le i2 with cj | cj
        ·subst cj; rw [mid]; exact Int.le_refl _
        ·exact up j cj i3
       ·rw [g2.out (.inr (by omega)),g2.out (.inr (by omega))]
        exact k1 i j ci i2 i3
end
end
def cmpI (a b:Int):Int:=if a<b then -1 else if b<a then 1 else 0
theorem cmpI_lt {a b:Int} : (cmpI a b<0)=(a<b):=by
 unfold cmpI
 rw [eq_iff_iff]
 split
 ·rename_i h; simp [h]
 ·split <;> simp <;> omega
section
variable {α : Type}
def mvJ (i:Nat) (p:Pm α):Nat→Pm α
 | 0=>p
 | c+1=>sw (i-c) (i-c-1) (mvJ i p c)
def insK (key:α→Int) (a:Nat) (p:Pm α):Nat→Pm α
 | 0=>p
 | t+1=>insJ key a (a+1+t) (insK key a p t)
theorem insI_K {key:α→Int} {a:Nat} {p:Pm α} : ∀ (f t:Nat),insI key a f (a+1+t) (insK key a p t)=insK key a p (t+f)
 | 0,t=>rfl
 | f+1,t=>by
  have:=insI_K (key:=key) (a:=a) (p:=p) f (t+1)
  rw [show t+1+f=t+(f+1) by omega] at this
  exact this
theorem insS_K {key:α→Int} {a b:Nat} {p:Pm α} : insS key a b p=insK key a p (b-(a+1)):=by
 have:=insI_K (key:=key) (a:=a) (p:=p) (b-(a+1)) 0
 rw [Nat.zero_add] at this
 exact this
theorem sw_f {f:α→Int} {i j k:Nat} {p:Pm α} : (bif decide (k=j) then f (p i) else bif decide (k=i) then f (p j) else f (p k))=f (sw i j p k):=by
 unfold sw
 by_cases h1:k=i
 ·subst h1
  by_cases h2:k=j
  ·subst h2; simp
  ·simp [h2]
 ·by_cases h2:k=j
  ·subst h2; simp [h1]
  ·simp [h1,h2]
theorem insJ_step {key:α→Int} {a j:Nat} {q:Pm α} (h:a<j) (hc:key (q j)<key (q (j-1))):insJ key a j q=insJ key a (j-1) (sw j (j-1) q):=by
 obtain ⟨i,rfl⟩ : ∃ i,j=i+1:=⟨j-1,by omega⟩
 rw [Nat.add_sub_cancel] at hc ⊢
 conv=>lhs; unfold insJ
 rw [if_pos ⟨h,hc⟩]
theorem insJ_stop {key:α→Int} {a j:Nat} {q:Pm α} (h:a<j→¬ key (q j)<key (q (j-1))):insJ key a j q=q:=by
 cases j with
 | zero=>rfl
 | succ i =>
  unfold insJ
  rw [if_neg]
  rintro ⟨h1,h2⟩
  have:=h h1
  rw [Nat.add_sub_cancel] at this
  exact this h2
theorem mvJ_next {i j:Nat} {p:Pm α} (h:1≤j) (h':j≤i):mvJ i p (i-(j-1))=sw j (j-1) (mvJ i p (i-j)):=by
 rw [show i-(j-1)=i-j+1 by omega]
 show sw (i-(i-j)) (i-(i-j)-1) (mvJ i p (i-j))=_
 rw [show i-(i-j)=j by omega]
end
section
variable {α : Type}
def sftE (key:α→Int) (first hi:Nat):Nat→Nat→Pm α→Bool
 | 0,_,_=>false
 | f+1,root,p=>if hi≤2*root+1 then false else if key (p (first+root))<key (p (first+sftC key first hi root p)) then sftE key first hi f (sftC key first hi root p) (sw (first+root) (first+sftC key first hi root p) p) else true
theorem sftC_gt {key:α→Int} {first hi root:Nat} {p:Pm α} : root<sftC key first hi root p:=by unfold sftC; split <;> omega
theorem sft_fuel {key:α→Int} {first hi:Nat} : ∀ (f f' root:Nat) (p:Pm α),hi≤root+f→hi≤root+f'→sft key first hi f root p=sft key first hi f' root p∧sftE key first hi f root p=sftE key first hi f' root p
 | 0,0,_,_,_,_=>⟨rfl,rfl⟩
 | 0,f'+1,root,p,h,_=>by unfold sft sftE; rw [if_pos (by omega),if_pos (by omega)]; exact ⟨rfl,rfl⟩
 | f+1,0,root,p,_,h=>by unfold sft sftE; rw [if_pos (by omega),if_pos (by omega)]; exact ⟨rfl,rfl⟩
 | f+1,f'+1,root,p,h,h'=>by
  have hg:=@sftC_gt α key first hi root p
  obtain ⟨i1,i2⟩:=sft_fuel (key:=key) (first:=first) (hi:=hi) f f' (sftC key first hi root p) (sw (first+root) (first+sftC key first hi root p) p) (by omega) (by omega)
  unfold sft sftE
  rw [i1,i2]
  exact ⟨rfl,rfl⟩
theorem sft_step {key:α→Int} {first hi root:Nat} {p:Pm α} (h:2*root+1<hi) (hc:key (p (first+root))<key (p (first+sftC key first hi root p))) :
  sft key first hi (hi-root) root p=sft key first hi (hi-sftC key first hi root p) (sftC key first hi root p) (sw (first+root) (first+sftC key first hi root p) p) ∧
  sftE key first hi (hi-root) root p=sftE key first hi (hi-sftC key first hi root p) (sftC key first hi root p) (sw (first+root) (first+sftC key first hi root p) p):=by
 have hg:=@sftC_gt α key first hi root p
 obtain ⟨f,hf⟩ : ∃ f,hi-root=f+1:=⟨hi-root-1,by omega⟩
 obtain ⟨i1,i2⟩:=sft_fuel (key:=key) (first:=first) (hi:=hi) f (hi-sftC key first hi root p) (sftC key first hi root p) (sw (first+root) (first+sftC key first hi root p) p) (by omega) (by omega)
 rw [hf]
 conv=>lhs; lhs; unfold sft
 conv=>rhs; lhs; unfold sftE
 rw [if_neg (by omega),if_pos hc,if_neg (by omega),if_pos hc]
 exact ⟨i1,i2⟩
theorem sft_stop {key:α→Int} {first hi root:Nat} {p:Pm α} (h:2*root+1<hi) (hc:¬ key (p (first+root))<key (p (first+sftC key first hi root p))) :
  sft key first hi (hi-root) root p=p∧sftE key first hi (hi-root) root p=true:=by
 obtain ⟨f,hf⟩ : ∃ f,hi-root=f+1:=⟨hi-root-1,by omega⟩
 rw [hf]
 unfold sft sftE
 rw [if_neg (by omega),if_neg hc,if_neg (by omega),if_neg hc]
 exact ⟨rfl,rfl⟩
theorem sft_end {key:α→Int} {first hi root:Nat} {p:Pm α} (h:hi≤2*root+1):sft key first hi (hi-root) root p=p∧sftE key first hi (hi-root) root p=false:=by
 cases hi-root with
 | zero=>exact ⟨rfl,rfl⟩
 | succ f=>unfold sft sftE; rw [if_pos h,if_pos h]; exact ⟨rfl,rfl⟩
end
end Go.Proofs.Ytoncoofmijjgeaa.M
namespace Go.Proofs.Ytoncoofmijjgeaa.M
open Go
theorem pUp_step {c:Nat→Bool} {n i:Nat} (h:i<n) (hc:c i=true):pUp c n (n-i) i=pUp c n (n-(i+1)) (i+1):=by
 obtain ⟨f,hf⟩ : ∃ f,n-i=f+1:=⟨n-i-1,by omega⟩
 rw [hf,show n-(i+1)=f by omega]
 conv=>lhs; unfold pUp
 rw [if_pos ⟨h,hc⟩]
theorem pUp_stop {c:Nat→Bool} {n i:Nat} (h:i<n→c i=false):pUp c n (n-i) i=i:=by
 cases hf:n-i with
 | zero=>rfl
 | succ f =>
  unfold pUp
  rw [if_neg]
  rintro ⟨h1,h2⟩
  rw [h h1] at h2; cases h2
theorem pDn_step {c:Nat→Bool} {i j:Nat} (h:i≤j) (h1:1≤i) (hc:c j=true):pDn c i (j+1-i) j=pDn c i (j-1+1-i) (j-1):=by
 obtain ⟨f,hf⟩ : ∃ f,j+1-i=f+1:=⟨j-i,by omega⟩
 rw [hf,show j-1+1-i=f by omega]
 conv=>lhs; unfold pDn
 rw [if_pos ⟨h,hc⟩]
theorem pDn_stop {c:Nat→Bool} {i j:Nat} (h:i≤j→c j=false):pDn c i (j+1-i) j=j:=by
 cases hf:j+1-i with
 | zero=>rfl
 | succ f =>
  unfold pDn
  rw [if_neg]
  rintro ⟨h1,h2⟩
  rw [h h1] at h2; cases h2
section
variable {α : Type}
def plU (Q:α→Bool) (i j:Nat) (p:Pm α):Nat:=pUp (fun k=>Q (p k)) (j+1) (j+1-i) i
def plD (Q:α→Bool) (i j:Nat) (p:Pm α):Nat:=pDn (fun k=>!Q (p k)) (plU Q i j p) (j+1-plU Q i j p) j
theorem pl_in {Q:α→Bool} {i j:Nat} {p:Pm α} (h1:1≤i) (h2:i≤j+1):i≤plU Q i j p∧plU Q i j p≤j+1∧plD Q i j p≤j∧plU Q i j p≤plD Q i j p+1∧(¬ plD Q i j p<plU Q i j p→plU Q i j p<plD Q i j p):=by
 obtain ⟨u1,u2,u3,u4⟩:=pUp_ok (c:=fun k=>Q (p k)) (n:=j+1) (j+1-i) i (by omega)
 have e:pUp (fun k=>Q (p k)) (j+1) (j+1-i) i=plU Q i j p:=rfl
 rw [e] at u1 u2 u3 u4
 obtain ⟨d1,d2,d3,d4⟩:=pDn_ok (c:=fun k=>!Q (p k)) (i:=plU Q i j p) (by omega) (j+1-plU Q i j p) j (by omega)
 have e:pDn (fun k=>!Q (p k)) (plU Q i j p) (j+1-plU Q i j p) j=plD Q i j p:=rfl
 rw [e] at d1 d2 d3 d4
 have u2:=u2 h2
 refine ⟨u1,u2,d1,d2 u2,fun h => ?_⟩
 rcases Nat.lt_or_ge (plU Q i j p) (plD Q i j p) with c | c
 ·exact c
 ·exfalso
  have e2:plU Q i j p=plD Q i j p:=by omega
  have q1:Q (p (plU Q i j p))=false:=u4 (by omega)
  have q2:=d4 (by omega)
  simp only [← e2,q1] at q2
  cases q2
theorem pLp_succ {Q:α→Bool} {f i j:Nat} {p:Pm α} : pLp Q (f+1) i j p=if plD Q i j p<plU Q i j p then (p,plU Q i j p,plD Q i j p) else pLp Q f (plU Q i j p+1) (plD Q i j p-1) (sw (plU Q i j p) (plD Q i j p) p):=rfl
theorem pLp_fuel {Q:α→Bool} : ∀ (f f' i j:Nat) (p:Pm α),1≤i→i≤j+1→j+2≤i+f→j+2≤i+f'→pLp Q f i j p=pLp Q f' i j p
 | 0,_,i,j,_,_,h2,h,_=>by omega
 | f+1,0,i,j,_,_,h2,_,h=>by omega
 | f+1,f'+1,i,j,p,h1,h2,h,h'=>by
  obtain ⟨a1,a2,a3,a4,a5⟩:=pl_in (Q:=Q) (p:=p) h1 h2
  rw [pLp_succ,pLp_succ]
  split
  ·rfl
  ·rename_i hc
   have:=a5 hc
   exact pLp_fuel f f' _ _ _ (by omega) (by omega) (by omega) (by omega)
def pLq (Q:α→Bool) (i j:Nat) (p:Pm α):Pm α × Nat × Nat:=pLp Q (j+2-i) i j p
theorem pLq_stop {Q:α→Bool} {i j:Nat} {p:Pm α} (h2:i≤j+1) (hc:plD Q i j p<plU Q i j p):pLq Q i j p=(p,plU Q i j p,plD Q i j p):=by
 unfold pLq
 obtain ⟨f,hf⟩ : ∃ f,j+2-i=f+1:=⟨j+1-i,by omega⟩
 rw [hf,pLp_succ,if_pos hc]
theorem pLq_step {Q:α→Bool} {i j:Nat} {p:Pm α} (h1:1≤i) (h2:i≤j+1) (hc:¬ plD Q i j p<plU Q i j p):pLq Q i j p=pLq Q (plU Q i j p+1) (plD Q i j p-1) (sw (plU Q i j p) (plD Q i j p) p):=by
 obtain ⟨a1,a2,a3,a4,a5⟩:=pl_in (Q:=Q) (p:=p) h1 h2
 have:=a5 hc
 unfold pLq
 obtain ⟨f,hf⟩ : ∃ f,j+2-i=f+1:=⟨j+1-i,by omega⟩
 rw [hf,pLp_succ,if_neg hc]
 exact pLp_fuel _ _ _ _ _ (by omega) (by omega) (by omega) (by omega)
theorem pLq_eq {Q:α→Bool} {a b:Nat} {p:Pm α} (h:a+1<b):pLp Q (b-a) (a+1) (b-1) p=pLq Q (a+1) (b-1) p:=by
 unfold pLq
 rw [show b-1+2-(a+1)=b-a by omega]
theorem plU_eq {Q:α→Bool} {i j:Nat} {p:Pm α} : pUp (fun k=>Q (p k)) (j+1) (j+1-i) i=plU Q i j p:=rfl
theorem plD_eq {Q:α→Bool} {i j:Nat} {p:Pm α} : pDn (fun k=>!Q (p k)) (plU Q i j p) (j+1-plU Q i j p) j=plD Q i j p:=rfl
theorem rvL_step {f i j:Nat} {p:Pm α} (h:i<j) (hf:j≤i+f):rvL f i j p=rvL (f-1) (i+1) (j-1) (sw i j p):=by
 obtain ⟨g,rfl⟩ : ∃ g,f=g+1:=⟨f-1,by omega⟩
 rw [Nat.add_sub_cancel]
 conv=>lhs; unfold rvL
 rw [if_pos h]
theorem rvL_stop {f i j:Nat} {p:Pm α} (h:¬ i<j):rvL f i j p=p:=by
 cases f with
 | zero=>rfl
 | succ f=>unfold rvL; rw [if_neg h]
theorem rvL_fuel:∀ (f f' i j:Nat) (p:Pm α),j≤i+f→j≤i+f'→rvL f i j p=rvL f' i j p
 | 0,f',i,j,p,h,h'=>by rw [rvL_stop (by omega),rvL_stop (by omega)]
 | f+1,0,i,j,p,h,h'=>by rw [rvL_stop (by omega),rvL_stop (by omega)]
 | f+1,f'+1,i,j,p,h,h'=>by
  unfold rvL
  split
  ·exact rvL_fuel f f' _ _ _ (by omega) (by omega)
  ·rfl
end
section
variable {α : Type}
theorem shL_step {key:α→Int} {j:Nat} {q:Pm α} (h:1≤j) (hc:key (q j)<key (q (j-1))):shL key j q=shL key (j-1) (sw j (j-1) q):=by
 obtain ⟨i,rfl⟩ : ∃ i,j=i+1:=⟨j-1,by omega⟩
 rw [Nat.add_sub_cancel] at hc ⊢
 conv=>lhs; unfold shL
 rw [if_pos hc]
theorem shL_stop {key:α→Int} {j:Nat} {q:Pm α} (h:1≤j→¬ key (q j)<key (q (j-1))):shL key j q=q:=by
 cases j with
 | zero=>rfl
 | succ i =>
  have:=h (by omega)
  rw [Nat.add_sub_cancel] at this
  unfold shL
  rw [if_neg this]
theorem shR_step {key:α→Int} {b j:Nat} {q:Pm α} (h:j<b) (hc:key (q j)<key (q (j-1))):shR key b (b-j) j q=shR key b (b-(j+1)) (j+1) (sw j (j-1) q):=by
 obtain ⟨f,hf⟩ : ∃ f,b-j=f+1:=⟨b-j-1,by omega⟩
 rw [hf,show b-(j+1)=f by omega]
 conv=>lhs; unfold shR
 rw [if_pos ⟨h,hc⟩]
theorem shR_stop {key:α→Int} {b j:Nat} {q:Pm α} (h:j<b→¬ key (q j)<key (q (j-1))):shR key b (b-j) j q=q:=by
 cases hf:b-j with
 | zero=>rfl
 | succ f =>
  unfold shR
  rw [if_neg]
  rintro ⟨h1,h2⟩
  exact h h1 h2
def pisX (key:α→Int) (a b:Nat):Nat→Nat→Pm α→Bool
 | 0,_,_=>false
 | r+1,i,p=>if pisI key b i p=b then true else if b-a<50 then true else pisX key a b r (pisI key b i p) (pisP key a b (pisI key b i p) p)
theorem pisI_in {key:α→Int} {b i:Nat} {p:Pm α} (h:i≤b):i≤pisI key b i p∧pisI key b i p≤b:=by
 obtain ⟨u1,u2,-,-⟩:=pUp_ok (c:=fun k=>!decide (key (p k)<key (p (k-1)))) (n:=b) (b-i) i (by omega)
 exact ⟨u1,u2 h⟩
theorem pisX_no {key:α→Int} {a b:Nat} : ∀ {r i:Nat} {p:Pm α},pisX key a b r i p=false→(pis key a b r i p).2=false
 | 0,i,p,_=>rfl
 | r+1,i,p,h=>by
  unfold pisX at h
  unfold pis
  split at h
  ·cases h
  ·rename_i h1
   split at h
   ·cases h
   ·rename_i h2
    rw [if_neg h1,if_neg h2]
    exact pisX_no h
end
def Ql (v x:Int × Int):Bool:=decide (x.1<v.1)
def Qe (v x:Int × Int):Bool:=!decide (v.1<x.1)
def prA (a b pv:Nat) (p:Pm (Int × Int)):Bool:=decide (plD (Ql (p pv)) (a+1) (b-1) (sw a pv p)<plU (Ql (p pv)) (a+1) (b-1) (sw a pv p))
theorem prL_q {a b pv:Nat} {p:Pm (Int × Int)} (h:a+1<b):prL (fun z:Int × Int=>z.1) a b pv p=pLq (Ql (p pv)) (a+1) (b-1) (sw a pv p):=pLq_eq h
theorem peL_q {a b pv:Nat} {p:Pm (Int × Int)} (h:a+1<b):peL (fun z:Int × Int=>z.1) a b pv p=pLq (Qe (p pv)) (a+1) (b-1) (sw a pv p):=pLq_eq h
end Go.Proofs.Ytoncoofmijjgeaa.M
namespace Go.Proofs.Ytoncoofmijjgeaa.M
open Go
section
variable {α : Type} {key : α → Int} {ot : Nat → Nat → Nat}
theorem pqV_in {a b:Nat} {wb:Bool} {p:Pm α} (h:12<b-a):a≤pqV key ot a b wb p∧pqV key ot a b wb p<b:=by
 have:=cpV_in (key:=key) (a:=a) (b:=b) (p:=pqB ot a b wb p) (by omega)
 unfold pqV
 split <;> omega
theorem pe_in {a b pv:Nat} {p:Pm α} (h:a+1<b):a<(peL key a b pv p).2.1∧(peL key a b pv p).2.1≤b:=by
 obtain ⟨-,r2,r3,r4,-,-⟩:=pLp_ok (Q:=fun x=>!decide (key (p pv)<key x)) (b-a) (a+1) (b-1) (sw a pv p) (by omega) (by omega) (by omega) (by omega)
 have e:pLp (fun x=>!decide (key (p pv)<key x)) (b-a) (a+1) (b-1) (sw a pv p)=peL key a b pv p:=rfl
 rw [e] at r2 r3 r4
 omega
theorem pr_in {a b pv:Nat} {p:Pm α} (h:a+1<b):a≤prM key a b pv p∧prM key a b pv p<b:=by
 obtain ⟨-,r2,r3,r4,-,-⟩:=pLp_ok (Q:=fun x=>decide (key x<key (p pv))) (b-a) (a+1) (b-1) (sw a pv p) (by omega) (by omega) (by omega) (by omega)
 have e:pLp (fun x=>decide (key x<key (p pv))) (b-a) (a+1) (b-1) (sw a pv p)=prL key a b pv p:=rfl
 rw [e] at r2 r3 r4
 unfold prM
 omega
theorem pdq_fuel:∀ (f f' a b:Nat) (lim:Int) (wb wp:Bool) (p:Pm α),b-a<f→b-a<f'→pdq key ot f a b lim wb wp p=pdq key ot f' a b lim wb wp p
 | 0,_,_,_,_,_,_,_,h,_=>by omega
 | _+1,0,_,_,_,_,_,_,_,h=>by omega
 | f+1,f'+1,a,b,lim,wb,wp,p,h,h'=>by
  unfold pdq
  by_cases h12:b-a≤12
  ·rw [if_pos h12,if_pos h12]
  ·rw [if_neg h12,if_neg h12]
   have e1:=pe_in (key:=key) (a:=a) (b:=b) (pv:=pqV key ot a b wb p) (p:=(pqI key ot a b wb wp p).1) (by omega)
   have e2:=pr_in (key:=key) (a:=a) (b:=b) (pv:=pqV key ot a b wb p) (p:=(pqI key ot a b wb wp p).1) (by omega)
   generalize prM key a b (pqV key ot a b wb p) (pqI key ot a b wb wp p).1=m at *
   generalize prP key a b (pqV key ot a b wb p) (pqI key ot a b wb wp p).1=r at *
   generalize (peL key a b (pqV key ot a b wb p) (pqI key ot a b wb wp p).1).2.1=i at *
   generalize (peL key a b (pqV key ot a b wb p) (pqI key ot a b wb wp p).1).1=q at *
   rw [pdq_fuel f f' i b _ wb wp q (by omega) (by omega),pdq_fuel f f' a m _ true true r (by omega) (by omega),pdq_fuel f f' (m+1) b _ true true r (by omega) (by omega),
    pdq_fuel f f' (m+1) b _ _ _ (pdq key ot f' a m _ true true r) (by omega) (by omega),pdq_fuel f f' a m _ _ _ (pdq key ot f' (m+1) b _ true true r) (by omega) (by omega)]
def pdC (key:α→Int) (ot:Nat→Nat→Nat) (a b:Nat) (lim:Int) (wb wp:Bool) (p:Pm α):Pm α:=pdq key ot (b-a+1) a b lim wb wp p
def pqL (lim:Int) (wb:Bool):Int:=if wb=true then lim else lim-1
theorem pdC_eq {a b:Nat} {lim:Int} {wb wp:Bool} {p:Pm α} : pdC key ot a b lim wb wp p =
  if b-a≤12 then insS key a b p
  else if lim=0 then hpS key a b p
  else if (pqI key ot a b wb wp p).2=true then (pqI key ot a b wb wp p).1
  else if pqE key ot a b wb wp p=true then
   pdC key ot (peL key a b (pqV key ot a b wb p) (pqI key ot a b wb wp p).1).2.1 b (pqL lim wb) wb wp (peL key a b (pqV key ot a b wb p) (pqI key ot a b wb wp p).1).1
  else if prM key a b (pqV key ot a b wb p) (pqI key ot a b wb wp p).1-a<b-prM key a b (pqV key ot a b wb p) (pqI key ot a b wb wp p).1 then
   pdC key ot (prM key a b (pqV key ot a b wb p) (pqI key ot a b wb wp p).1+1) b (pqL lim wb) (decide ((b-a)/8≤prM key a b (pqV key ot a b wb p) (pqI key ot a b wb wp p).1-a)) (pqA key ot a b wb wp p)
    (pdC key ot a (prM key a b (pqV key ot a b wb p) (pqI key ot a b wb wp p).1) (pqL lim wb) true true (prP key a b (pqV key ot a b wb p) (pqI key ot a b wb wp p).1))
  else
   pdC key ot a (prM key a b (pqV key ot a b wb p) (pqI key ot a b wb wp p).1) (pqL lim wb) (decide ((b-a)/8≤b-prM key a b (pqV key ot a b wb p) (pqI key ot a b wb wp p).1)) (pqA key ot a b wb wp p)
    (pdC key ot (prM key a b (pqV key ot a b wb p) (pqI key ot a b wb wp p).1+1) b (pqL lim wb) true true (prP key a b (pqV key ot a b wb p) (pqI key ot a b wb wp p).1)):=by
 conv=>lhs; unfold pdC pdq
 by_cases h12:b-a≤12
 ·rw [if_pos h12,if_pos h12]
 ·rw [if_neg h12,if_neg h12]
  have e1:=pe_in (key:=key) (a:=a) (b:=b) (pv:=pqV key ot a b wb p) (p:=(pqI key ot a b wb wp p).1) (by omega)
  have e2:=pr_in (key:=key) (a:=a) (b:=b) (pv:=pqV key ot a b wb p) (p:=(pqI key ot a b wb wp p).1) (by omega)
  unfold pdC pqL
  generalize prM key a b (pqV key ot a b wb p) (pqI key ot a b wb wp p).1=m at *
  generalize prP key a b (pqV key ot a b wb p) (pqI key ot a b wb wp p).1=r at *
  generalize (peL key a b (pqV key ot a b wb p) (pqI key ot a b wb wp p).1).2.1=i at *
  generalize (peL key a b (pqV key ot a b wb p) (pqI key ot a b wb wp p).1).1=q at *
  rw [pdq_fuel (b-a) (b-i+1) i b _ wb wp q (by omega) (by omega),pdq_fuel (b-a) (m-a+1) a m _ true true r (by omega) (by omega),pdq_fuel (b-a) (b-(m+1)+1) (m+1) b _ true true r (by omega) (by omega),
   pdq_fuel (b-a) (b-(m+1)+1) (m+1) b _ _ _ (pdq key ot (m-a+1) a m _ true true r) (by omega) (by omega),pdq_fuel (b-a) (m-a+1) a m _ _ _ (pdq key ot (b-(m+1)+1) (m+1) b _ true true r) (by omega) (by omega)]
theorem pdC_ok (ho:∀ l t,8≤l→ot l t<l) {n:Nat} {lim:Int} {p:Pm α} : Srt key 0 n (pdC key ot 0 n lim true true p)∧Sw 0 n p (pdC key ot 0 n lim true true p) :=
 pdq_ok ho (n-0+1) 0 n lim true true p (by omega) (fun h=>by omega)
end
end Go.Proofs.Ytoncoofmijjgeaa.M
