/- FixLit, plain: the times at which a distance was seen lie side by side. -/
import Derived.Test.YtddkghgfbhhcdaaOCryMoo
set_option maxRecDepth 100000
set_option maxHeartbeats 2000000
set_option linter.unusedVariables false
set_option linter.unusedSimpArgs false
namespace Go.Oct.Cry.Fx
open Go.Oct
def seg (l : List Span) (i : Nat) (t : Int) : Prop := (nth l i).lo ≤ t ∧ t ≤ (nth l (i + 1)).lo
def Met (l : List Span) (s : Span) (n : Nat) (t : Int) : Prop := ∃ i, i < n ∧ seg l i t ∧ hit (nth l i) (nth l (i + 1)) s t
/-- A span has all that has a property, and its ends have it. -/
def Rng (st : Option Span) (P : Int → Prop) : Prop := (st = none → ∀ t, ¬ P t) ∧ ∀ x, st = some x → P x.lo ∧ P x.hi ∧ ∀ t, P t → x.lo ≤ t ∧ t ≤ x.hi
theorem Rng.congr {st : Option Span} {P Q : Int → Prop} (h : Rng st P) (hpq : ∀ t, P t ↔ Q t) : Rng st Q := by
  have : P = Q := funext fun t => propext (hpq t)
  rw [← this]; exact h
theorem Rng.step {st : Option Span} {P : Int → Prop} {a b s : Span} {t : Int} (h : Rng st P) (hle : ∀ u, P u → u ≤ t) : Rng (stp st a b s t) (fun u => P u ∨ (u = t ∧ hit a b s u)) := by
  unfold stp
  by_cases hh : hit a b s t
  · rw [if_pos hh]
    refine ⟨(fun e => by cases e), fun x hx => ?_⟩
    cases st with
    | none =>
      cases hx
      refine ⟨.inr ⟨rfl, hh⟩, .inr ⟨rfl, hh⟩, fun u hu => ?_⟩
      rcases hu with hu | ⟨rfl, _⟩
      · exact absurd hu (h.1 rfl u)
      · exact ⟨Int.le_refl _, Int.le_refl _⟩
    | some y =>
      cases hx
      obtain ⟨h1, h2, h3⟩ := h.2 y rfl
      refine ⟨.inl h1, .inr ⟨rfl, hh⟩, fun u hu => ?_⟩
      rcases hu with hu | ⟨rfl, _⟩
      · exact ⟨(h3 u hu).1, hle u hu⟩
      · exact ⟨hle _ h1, Int.le_refl _⟩
  · rw [if_neg hh]
    refine h.congr fun u => ⟨.inl, fun hu => ?_⟩
    rcases hu with hu | ⟨rfl, h2⟩
    · exact hu
    · exact absurd h2 hh
theorem Rng.inn {st : Option Span} {P : Int → Prop} {a b s : Span} (h : Rng st P) (hle : ∀ u, P u → u ≤ a.lo) : ∀ q, Rng (inn a b s st q) (fun u => P u ∨ ∃ r : Nat, r < q ∧ u = a.lo + r ∧ hit a b s u)
  | 0 => h.congr fun u => ⟨.inl, fun hu => hu.elim id fun ⟨r, hr, _⟩ => by omega⟩
  | q + 1 => by
    have h1 := Rng.inn (a := a) (b := b) (s := s) h hle q
    refine (Rng.step (a := a) (b := b) (s := s) (t := a.lo + q) h1 fun u hu => ?_).congr fun u => ?_
    · rcases hu with hu | ⟨r, hr, rfl, _⟩
      · have := hle u hu; omega
      · omega
    · constructor
      · rintro ((hu | ⟨r, hr, h2, h3⟩) | ⟨h2, h3⟩)
        · exact .inl hu
        · exact .inr ⟨r, by omega, h2, h3⟩
        · exact .inr ⟨q, by omega, h2, h3⟩
      · rintro (hu | ⟨r, hr, h2, h3⟩)
        · exact .inl (.inl hu)
        · by_cases e : r = q
          · subst e; exact .inr ⟨h2, h3⟩
          · exact .inl (.inr ⟨r, by omega, h2, h3⟩)
theorem tab_rise {l : List Span} (h : okTab l) {i : Nat} (hi : i + 1 < l.length) : (nth l i).lo < (nth l (i + 1)).lo := by
  have := ((h.2 (i + 1) hi).2 (by omega)).1
  rwa [Nat.add_sub_cancel] at this
theorem tab_le2 {l : List Span} (h : okTab l) {i : Nat} : ∀ {j : Nat}, i ≤ j → j < l.length → (nth l i).lo ≤ (nth l j).lo
  | 0, hij, hj => by obtain rfl : i = 0 := by omega
                     exact Int.le_refl _
  | j + 1, hij, hj => by
    by_cases e : i = j + 1
    · subst e; exact Int.le_refl _
    · have := tab_le2 h (i := i) (show i ≤ j by omega) (by omega)
      have := tab_rise h hj
      omega
theorem out_rng {l : List Span} {s : Span} (h : okTab l) : ∀ n, n + 1 ≤ l.length → Rng (out l s n) (Met l s n)
  | 0, _ => ⟨fun _ t ⟨i, hi, _⟩ => by omega, fun x hx => by simp [out] at hx⟩
  | n + 1, hn => by
    have h1 := out_rng h n (by omega) (s := s)
    have hr := tab_rise h (i := n) (by omega)
    refine (Rng.inn (a := nth l n) (b := nth l (n + 1)) (s := s) h1 (fun u ⟨i, hi, hs, _⟩ => ?_) (wid (nth l n) (nth l (n + 1)) + 1)).congr fun u => ?_
    · have := tab_le2 h (i := i + 1) (j := n) (by omega) (by omega)
      have := hs.2
      omega
    · constructor
      · rintro (⟨i, hi, h2, h3⟩ | ⟨r, hr2, rfl, h3⟩)
        · exact ⟨i, by omega, h2, h3⟩
        · refine ⟨n, by omega, ⟨by omega, ?_⟩, h3⟩
          unfold wid at hr2
          omega
      · rintro ⟨i, hi, h2, h3⟩
        by_cases e : i = n
        · subst e
          refine .inr ⟨(u - (nth l i).lo).toNat, ?_, ?_, h3⟩
          · unfold wid; have := h2.1; have := h2.2; omega
          · have := h2.1; omega
        · exact .inl ⟨i, by omega, h2, h3⟩
/-- Between two rows, with numbers that rise: it does not fall. -/
def dst (f g : Nat → Int) (i : Nat) (t : Int) : Int := g i * (f (i + 1) - t) + g (i + 1) * (t - f i)
theorem dst_lo {f g : Nat → Int} {i : Nat} {t : Int} (hg : g i ≤ g (i + 1)) (h1 : f i ≤ t) (h2 : t ≤ f (i + 1)) : g i * (f (i + 1) - f i) ≤ dst f g i t := by
  unfold dst
  have : g i * (t - f i) ≤ g (i + 1) * (t - f i) := Int.mul_le_mul_of_nonneg_right hg (by omega)
  have e : g i * (f (i + 1) - f i) = g i * (f (i + 1) - t) + g i * (t - f i) := by rw [← Int.mul_add]; congr 1; omega
  omega
theorem dst_hi {f g : Nat → Int} {i : Nat} {t : Int} (hg : g i ≤ g (i + 1)) (h1 : f i ≤ t) (h2 : t ≤ f (i + 1)) : dst f g i t ≤ g (i + 1) * (f (i + 1) - f i) := by
  unfold dst
  have : g i * (f (i + 1) - t) ≤ g (i + 1) * (f (i + 1) - t) := Int.mul_le_mul_of_nonneg_right hg (by omega)
  have e : g (i + 1) * (f (i + 1) - f i) = g (i + 1) * (f (i + 1) - t) + g (i + 1) * (t - f i) := by rw [← Int.mul_add]; congr 1; omega
  omega
theorem dst_mono {f g : Nat → Int} {N : Nat} (hf : ∀ i, i < N → f i < f (i + 1)) (hfl : ∀ i j, i ≤ j → j ≤ N → f i ≤ f j) (hg : ∀ i j, i ≤ j → j ≤ N → g i ≤ g j) {p i : Nat} (hp : p < N) (hi : i < N) {t1 t : Int}
    (h1 : f p ≤ t1 ∧ t1 ≤ f (p + 1)) (h2 : f i ≤ t ∧ t ≤ f (i + 1)) (ht : t1 ≤ t) : dst f g p t1 * (f (i + 1) - f i) ≤ dst f g i t * (f (p + 1) - f p) := by
  have li := hf i hi
  have lp := hf p hp
  have gi := hg i (i + 1) (by omega) (by omega)
  have gp := hg p (p + 1) (by omega) (by omega)
  rcases Nat.lt_trichotomy p i with h | h | h
  · have a1 := dst_hi (f := f) (g := g) gp h1.1 h1.2
    have a2 := dst_lo (f := f) (g := g) gi h2.1 h2.2
    have a3 := hg (p + 1) i (by omega) (by omega)
    have b1 := Int.mul_le_mul_of_nonneg_right a1 (show 0 ≤ f (i + 1) - f i by omega)
    have b2 := Int.mul_le_mul_of_nonneg_right a2 (show 0 ≤ f (p + 1) - f p by omega)
    have b3 : g (p + 1) * (f (p + 1) - f p) * (f (i + 1) - f i) ≤ g i * (f (i + 1) - f i) * (f (p + 1) - f p) := by
      rw [Int.mul_assoc, Int.mul_assoc, Int.mul_comm (f (i + 1) - f i)]
      exact Int.mul_le_mul_of_nonneg_right a3 (Int.mul_nonneg (by omega) (by omega))
    omega
  · subst h
    refine Int.mul_le_mul_of_nonneg_right ?_ (by omega)
    unfold dst
    have e1 : g p * (f (p + 1) - t1) = g p * (f (p + 1) - t) + g p * (t - t1) := by rw [← Int.mul_add]; congr 1; omega
    have e2 : g (p + 1) * (t - f p) = g (p + 1) * (t1 - f p) + g (p + 1) * (t - t1) := by rw [← Int.mul_add]; congr 1; omega
    have : g p * (t - t1) ≤ g (p + 1) * (t - t1) := Int.mul_le_mul_of_nonneg_right gp (by omega)
    omega
  · have a0 := hfl (i + 1) p (by omega) (by omega)
    have e1 : t1 = f p := by omega
    have e2 : t = f (i + 1) := by omega
    have e3 : f p = f (i + 1) := by omega
    have e4 : p = i + 1 := by
      rcases Nat.lt_or_ge (i + 1) p with h3 | h3
      · have := hf (i + 1) (by omega)
        have := hfl (i + 1 + 1) p (by omega) (by omega)
        omega
      · omega
    subst e4
    subst e1
    subst e2
    unfold dst
    simp only [Int.sub_self, Int.mul_zero, Int.add_zero, Int.zero_add]
    rw [Int.mul_assoc, Int.mul_assoc, Int.mul_comm (f (i + 1 + 1) - f (i + 1))]
    exact Int.le_refl _
theorem dst_neg (f g : Nat → Int) (i : Nat) (t : Int) : dst f (fun k => - g k) i t = - dst f g i t := by
  unfold dst
  rw [Int.neg_mul, Int.neg_mul]; omega
theorem le_cancel {a b c : Int} (hc : 0 < c) (h : a * c ≤ b * c) : a ≤ b := Int.le_of_mul_le_mul_right h hc
/-- From both sides. -/
theorem seg_hit {l : List Span} (h : okTab l) {s : Span} {p i q : Nat} (hp : p + 1 < l.length) (hi : i + 1 < l.length) (hq : q + 1 < l.length) {t1 t t2 : Int} (s1 : seg l p t1) (s0 : seg l i t) (s2 : seg l q t2)
    (ht1 : t1 ≤ t) (ht2 : t ≤ t2) (m1 : hit (nth l p) (nth l (p + 1)) s t1) (m2 : hit (nth l q) (nth l (q + 1)) s t2) : hit (nth l i) (nth l (i + 1)) s t := by
  have li := tab_rise h hi
  have lp := tab_rise h hp
  have lq := tab_rise h hq
  have hf : ∀ i, i < l.length - 1 → (nth l i).lo < (nth l (i + 1)).lo := fun i hi => tab_rise h (by omega)
  have hfl : ∀ i j, i ≤ j → j ≤ l.length - 1 → (nth l i).lo ≤ (nth l j).lo := fun i j h1 h2 => tab_le2 h h1 (by have := h.1; omega)
  have hd : ∀ i t, dist (nth l i) (nth l (i + 1)) t = dst (fun k => (nth l k).lo) (fun k => (nth l k).hi) i t := fun i t => rfl
  unfold hit at m1 m2 ⊢
  rw [hd] at m1 m2 ⊢
  have c1 : s.lo * ((nth l (p + 1)).lo - (nth l p).lo) * ((nth l (i + 1)).lo - (nth l i).lo) = s.lo * ((nth l (i + 1)).lo - (nth l i).lo) * ((nth l (p + 1)).lo - (nth l p).lo) := by rw [Int.mul_assoc, Int.mul_assoc, Int.mul_comm ((nth l (p + 1)).lo - _)]
  have c2 : s.lo * ((nth l (q + 1)).lo - (nth l q).lo) * ((nth l (i + 1)).lo - (nth l i).lo) = s.lo * ((nth l (i + 1)).lo - (nth l i).lo) * ((nth l (q + 1)).lo - (nth l q).lo) := by rw [Int.mul_assoc, Int.mul_assoc, Int.mul_comm ((nth l (q + 1)).lo - _)]
  have c3 : s.hi * ((nth l (p + 1)).lo - (nth l p).lo) * ((nth l (i + 1)).lo - (nth l i).lo) = s.hi * ((nth l (i + 1)).lo - (nth l i).lo) * ((nth l (p + 1)).lo - (nth l p).lo) := by rw [Int.mul_assoc, Int.mul_assoc, Int.mul_comm ((nth l (p + 1)).lo - _)]
  have c4 : s.hi * ((nth l (q + 1)).lo - (nth l q).lo) * ((nth l (i + 1)).lo - (nth l i).lo) = s.hi * ((nth l (i + 1)).lo - (nth l i).lo) * ((nth l (q + 1)).lo - (nth l q).lo) := by rw [Int.mul_assoc, Int.mul_assoc, Int.mul_comm ((nth l (q + 1)).lo - _)]
  have g1 := Int.mul_le_mul_of_nonneg_right m1.1 (show 0 ≤ (nth l (i + 1)).lo - (nth l i).lo by omega)
  have g2 := Int.mul_le_mul_of_nonneg_right m1.2 (show 0 ≤ (nth l (i + 1)).lo - (nth l i).lo by omega)
  have g3 := Int.mul_le_mul_of_nonneg_right m2.1 (show 0 ≤ (nth l (i + 1)).lo - (nth l i).lo by omega)
  have g4 := Int.mul_le_mul_of_nonneg_right m2.2 (show 0 ≤ (nth l (i + 1)).lo - (nth l i).lo by omega)
  by_cases hr : (nth l 0).hi < (nth l 1).hi
  · have hg : ∀ j i, i ≤ j → j ≤ l.length - 1 → (nth l i).hi ≤ (nth l j).hi := by
      intro j
      induction j with
      | zero => intro i h1 h2; obtain rfl : i = 0 := by omega
                exact Int.le_refl _
      | succ j ih =>
        intro i h1 h2
        by_cases e : i = j + 1
        · subst e; exact Int.le_refl _
        · have h3 := ih i (by omega) (by omega)
          have h4 := ((h.2 (j + 1) (by have := h.1; omega)).2 (by omega)).2.2.1 hr
          rw [Nat.add_sub_cancel] at h4
          omega
    have k1 := dst_mono hf hfl (fun i j h1 h2 => hg j i h1 h2) (p := p) (i := i) (by omega) (by omega) s1 s0 ht1
    have k2 := dst_mono hf hfl (fun i j h1 h2 => hg j i h1 h2) (p := i) (i := q) (by omega) (by omega) s0 s2 ht2
    exact ⟨le_cancel (c := (nth l (p + 1)).lo - (nth l p).lo) (by omega) (by omega), le_cancel (c := (nth l (q + 1)).lo - (nth l q).lo) (by omega) (by omega)⟩
  · have hg : ∀ j i, i ≤ j → j ≤ l.length - 1 → -(nth l i).hi ≤ -(nth l j).hi := by
      intro j
      induction j with
      | zero => intro i h1 h2; obtain rfl : i = 0 := by omega
                exact Int.le_refl _
      | succ j ih =>
        intro i h1 h2
        by_cases e : i = j + 1
        · subst e; exact Int.le_refl _
        · have h3 := ih i (by omega) (by omega)
          have h4 := ((h.2 (j + 1) (by have := h.1; omega)).2 (by omega)).2
          rw [Nat.add_sub_cancel] at h4
          have h5 : ¬ (nth l j).hi < (nth l (j + 1)).hi := fun h6 => hr (h4.2.2 h6)
          omega
    have k1 := dst_mono (g := fun k => -(nth l k).hi) hf hfl (fun i j h1 h2 => hg j i h1 h2) (p := p) (i := i) (by omega) (by omega) s1 s0 ht1
    have k2 := dst_mono (g := fun k => -(nth l k).hi) hf hfl (fun i j h1 h2 => hg j i h1 h2) (p := i) (i := q) (by omega) (by omega) s0 s2 ht2
    rw [dst_neg (fun k => (nth l k).lo) (fun k => (nth l k).hi), dst_neg (fun k => (nth l k).lo) (fun k => (nth l k).hi), Int.neg_mul, Int.neg_mul] at k1 k2
    exact ⟨le_cancel (c := (nth l (q + 1)).lo - (nth l q).lo) (by omega) (by omega), le_cancel (c := (nth l (p + 1)).lo - (nth l p).lo) (by omega) (by omega)⟩
theorem seg_ex {l : List Span} (h : okTab l) {t : Int} : ∀ n, n + 1 < l.length → (nth l 0).lo ≤ t → t ≤ (nth l (n + 1)).lo → ∃ i, i ≤ n ∧ seg l i t
  | 0, hn, h1, h2 => ⟨0, Nat.le_refl _, h1, h2⟩
  | n + 1, hn, h1, h2 => by
    by_cases h3 : t ≤ (nth l (n + 1)).lo
    · obtain ⟨i, h4, h5⟩ := seg_ex h n (by omega) h1 h3
      exact ⟨i, by omega, h5⟩
    · exact ⟨n + 1, Nat.le_refl _, by omega, h2⟩
/-- What Moon tells, by the times at which the distance was seen. -/
theorem moon_met {l : List Span} (h : okTab l) {s : Span} {t : Int} (h1 : (nth l 0).lo ≤ t) (h2 : t ≤ (nth l (l.length - 1)).lo) :
    Met l s (l.length - 1) t ↔ ∃ x, out l s (l.length - 1) = some x ∧ x.lo ≤ t ∧ t ≤ x.hi := by
  have hl := h.1
  have hr := out_rng h (s := s) (l.length - 1) (by omega)
  constructor
  · intro hm
    cases ho : out l s (l.length - 1) with
    | none => rw [ho] at hr; exact absurd hm (hr.1 rfl t)
    | some x => rw [ho] at hr; exact ⟨x, rfl, (hr.2 x rfl).2.2 t hm⟩
  · rintro ⟨x, hx, h3, h4⟩
    rw [hx] at hr
    obtain ⟨⟨p, hp, s1, m1⟩, ⟨q, hq, s2, m2⟩, _⟩ := hr.2 x rfl
    obtain ⟨i, hi, s0⟩ := seg_ex h (t := t) (l.length - 2) (by omega) h1 (by rw [show l.length - 2 + 1 = l.length - 1 by omega]; exact h2)
    exact ⟨i, by omega, s0, seg_hit h (by omega) (by omega) (by omega) s1 s0 s2 h3 h4 m1 m2⟩
theorem met_more {l : List Span} (h : okTab l) {s r : Span} (h1 : s.lo ≤ r.lo) (h2 : r.hi ≤ s.hi) {t : Int} (hm : Met l r (l.length - 1) t) : Met l s (l.length - 1) t := by
  obtain ⟨i, hi, s0, m⟩ := hm
  have hr := tab_rise h (i := i) (by omega)
  refine ⟨i, hi, s0, ?_⟩
  unfold hit at m ⊢
  have a1 := Int.mul_le_mul_of_nonneg_right h1 (show 0 ≤ (nth l (i + 1)).lo - (nth l i).lo by omega)
  have a2 := Int.mul_le_mul_of_nonneg_right h2 (show 0 ≤ (nth l (i + 1)).lo - (nth l i).lo by omega)
  omega
/-- With a distance that is seen more exactly. -/
theorem moon_more {l : List Span} (h : okTab l) {s r : Span} (h1 : s.lo ≤ r.lo) (h2 : r.hi ≤ s.hi) {x y : Span} (hx : out l s (l.length - 1) = some x) (hy : out l r (l.length - 1) = some y) : x.lo ≤ y.lo ∧ y.hi ≤ x.hi := by
  have hl := h.1
  have q1 := (out_rng h (s := s) (l.length - 1) (by omega)).2 x hx
  have q2 := (out_rng h (s := r) (l.length - 1) (by omega)).2 y hy
  exact ⟨(q1.2.2 _ (met_more h h1 h2 q2.1)).1, (q1.2.2 _ (met_more h h1 h2 q2.2.1)).2⟩
end Go.Oct.Cry.Fx
