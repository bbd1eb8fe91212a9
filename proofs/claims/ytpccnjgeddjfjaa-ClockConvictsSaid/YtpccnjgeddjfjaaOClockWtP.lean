/- Watches, plain: the bounds on the errors of three clocks; whether they can be kept. -/
import Derived.Test.YtpccnjgeddjfjaaOClockBF
set_option maxRecDepth 100000
set_option maxHeartbeats 1000000
set_option linter.unusedVariables false
set_option linter.unusedSimpArgs false
namespace Go.Oct.Clock
open Go.Oct
/-- A watch: both comparisons, by how much they may be wrong, the rates. -/
structure Wt where
  F : List Int
  S : List Int
  wr : Int
  r0 : Span
  r1 : Span
  r2 : Span
def Wt.rt (w : Wt) (k : Nat) : Span := if k = 0 then w.r0 else if k = 1 then w.r1 else w.r2
def rtOK (s : Span) : Prop := -100000 ≤ s.lo ∧ s.lo ≤ s.hi ∧ s.hi ≤ 100000
def inB (n : Int) : Prop := -1000000000 ≤ n ∧ n ≤ 1000000000
instance (s : Span) : Decidable (rtOK s) := by unfold rtOK; infer_instance
instance (n : Int) : Decidable (inB n) := by unfold inB; infer_instance
def okWt (w : Wt) : Prop := ((2 ≤ (w.F.length : Int) ∧ (w.F.length : Int) ≤ 20) ∧ (w.S.length : Int) = w.F.length ∧ 0 ≤ w.wr ∧ w.wr ≤ 1000) ∧ (∀ i, i < w.F.length → inB (nth w.F i) ∧ inB (nth w.S i)) ∧ rtOK w.r0 ∧ rtOK w.r1 ∧ rtOK w.r2
instance (w : Wt) : Decidable (okWt w) := by unfold okWt; infer_instance
def jmp (J k : Nat) : Bool := decide (J / 2 ^ k % 2 = 1)
/-- Two errors differ by a number in a span. -/
def wi (a b : Nat) (lo hi : Int) : List Cn := [⟨a, b, hi⟩, ⟨b, a, -lo⟩]
/-- The bounds of the clocks' rates, of so many clocks. -/
def ratesL (ν : Nat → Nat → Nat) (w : Wt) (J d : Nat) : Nat → List Cn
  | 0 => []
  | k + 1 => ratesL ν w J d k ++ if d = 0 ∨ jmp J k = true then [] else wi (ν k d) (ν k (d - 1)) (w.rt k).lo (w.rt k).hi
def dayL (ν : Nat → Nat → Nat) (w : Wt) (J d : Nat) : List Cn := (wi (ν 0 d) (ν 1 d) (nth w.F d - w.wr) (nth w.F d + w.wr) ++ wi (ν 1 d) (ν 2 d) (nth w.S d - w.wr) (nth w.S d + w.wr)) ++ ratesL ν w J d 3
def daysL (ν : Nat → Nat → Nat) (w : Wt) (J : Nat) : Nat → List Cn
  | 0 => []
  | n + 1 => daysL ν w J n ++ dayL ν w J n
/-- Errors that keep all bounds. -/
structure Kept (w : Wt) (J n : Nat) (z : Nat → Nat → Int) : Prop where
  first : ∀ d, d < n → nth w.F d - w.wr ≤ z 0 d - z 1 d ∧ z 0 d - z 1 d ≤ nth w.F d + w.wr
  second : ∀ d, d < n → nth w.S d - w.wr ≤ z 1 d - z 2 d ∧ z 1 d - z 2 d ≤ nth w.S d + w.wr
  rate : ∀ d k, 0 < d → d < n → k < 3 → jmp J k = false → (w.rt k).lo ≤ z k d - z k (d - 1) ∧ z k d - z k (d - 1) ≤ (w.rt k).hi
def canBe (w : Wt) (J n : Nat) : Prop := ∃ z, Kept w J n z
theorem sat_app {A B : List Cn} {y : Nat → Int} : sat (A ++ B) y ↔ sat A y ∧ sat B y :=
  ⟨fun h => ⟨fun c hc => h c (List.mem_append_left _ hc), fun c hc => h c (List.mem_append_right _ hc)⟩, fun h c hc => (List.mem_append.1 hc).elim (h.1 c) (h.2 c)⟩
theorem sat_wi {a b : Nat} {lo hi : Int} {y : Nat → Int} : sat (wi a b lo hi) y ↔ lo ≤ y a - y b ∧ y a - y b ≤ hi := by
  constructor
  · intro h
    have h1 := h ⟨a, b, hi⟩ (by simp [wi])
    have h2 := h ⟨b, a, -lo⟩ (by simp [wi])
    simp only at h1 h2
    omega
  · rintro ⟨h1, h2⟩ c hc
    simp only [wi, List.mem_cons, List.not_mem_nil, or_false] at hc
    rcases hc with rfl | rfl
    · show y a ≤ y b + hi; omega
    · show y b ≤ y a + -lo; omega
theorem sat_rates {ν : Nat → Nat → Nat} {w : Wt} {J d : Nat} {y : Nat → Int} : ∀ n, sat (ratesL ν w J d n) y ↔ ∀ k, k < n → 0 < d → jmp J k = false → (w.rt k).lo ≤ y (ν k d) - y (ν k (d - 1)) ∧ y (ν k d) - y (ν k (d - 1)) ≤ (w.rt k).hi
  | 0 => ⟨fun _ k hk => by omega, fun _ c hc => by cases hc⟩
  | n + 1 => by
    simp only [ratesL]
    rw [sat_app, sat_rates n]
    constructor
    · rintro ⟨h1, h2⟩ k hk hd hj
      by_cases e : k = n
      · subst e
        rw [if_neg (by rw [hj]; simp; omega)] at h2
        exact sat_wi.1 h2
      · exact h1 k (by omega) hd hj
    · intro h
      refine ⟨fun k hk => h k (by omega), ?_⟩
      split
      · intro c hc; cases hc
      · rename_i hn
        have hd : 0 < d := by omega
        have hj : jmp J n = false := by
          cases hjj : jmp J n with
          | false => rfl
          | true => exact absurd (.inr hjj) hn
        exact sat_wi.2 (h n (by omega) hd hj)
theorem sat_days {ν : Nat → Nat → Nat} {w : Wt} {J : Nat} {y : Nat → Int} : ∀ n, sat (daysL ν w J n) y ↔ Kept w J n fun k d => y (ν k d)
  | 0 => ⟨fun _ => ⟨fun d hd => by omega, fun d hd => by omega, fun d k _ hd => by omega⟩, fun _ c hc => by cases hc⟩
  | n + 1 => by
    simp only [daysL, dayL]
    rw [sat_app, sat_app, sat_app, sat_days n, sat_wi, sat_wi, sat_rates]
    constructor
    · rintro ⟨h1, ⟨h2, h3⟩, h4⟩
      refine ⟨fun d hd => ?_, fun d hd => ?_, fun d k h0 hd hk hj => ?_⟩
      · by_cases e : d = n
        · subst e; exact h2
        · exact h1.first d (by omega)
      · by_cases e : d = n
        · subst e; exact h3
        · exact h1.second d (by omega)
      · by_cases e : d = n
        · subst e; exact h4 k hk h0 hj
        · exact h1.rate d k h0 (by omega) hk hj
    · intro h
      exact ⟨⟨fun d hd => h.first d (by omega), fun d hd => h.second d (by omega), fun d k h0 hd hk hj => h.rate d k h0 (by omega) hk hj⟩, ⟨h.first n (by omega), h.second n (by omega)⟩, fun k hk h0 hj => h.rate n k h0 (by omega) hk hj⟩
theorem Kept.congr {w : Wt} {J n : Nat} {z z' : Nat → Nat → Int} (h : Kept w J n z) (he : ∀ k d, k < 3 → d < n → z' k d = z k d) : Kept w J n z' := by
  refine ⟨fun d hd => ?_, fun d hd => ?_, fun d k h0 hd hk hj => ?_⟩
  · rw [he 0 d (by omega) hd, he 1 d (by omega) hd]; exact h.first d hd
  · rw [he 1 d (by omega) hd, he 2 d (by omega) hd]; exact h.second d hd
  · rw [he k d hk hd, he k (d - 1) hk (by omega)]; exact h.rate d k h0 hd hk hj
def νS (k d : Nat) : Nat := 3 * d + k
def νP (k d : Nat) : Nat := k * 20 + d
theorem canS {w : Wt} {J n : Nat} : (∃ y, sat (daysL νS w J n) y) ↔ canBe w J n := by
  constructor
  · rintro ⟨y, h⟩
    exact ⟨_, (sat_days n).1 h⟩
  · rintro ⟨z, h⟩
    refine ⟨fun v => z (v % 3) (v / 3), (sat_days n).2 (h.congr fun k d hk hd => ?_)⟩
    show z (νS k d % 3) (νS k d / 3) = z k d
    unfold νS
    rw [show (3 * d + k) % 3 = k by omega, show (3 * d + k) / 3 = d by omega]
theorem canP {w : Wt} {J n : Nat} (hn : n ≤ 20) : (∃ y, sat (daysL νP w J n) y) ↔ canBe w J n := by
  constructor
  · rintro ⟨y, h⟩
    exact ⟨_, (sat_days n).1 h⟩
  · rintro ⟨z, h⟩
    refine ⟨fun v => z (v / 20) (v % 20), (sat_days n).2 (h.congr fun k d hk hd => ?_)⟩
    show z (νP k d / 20) (νP k d % 20) = z k d
    unfold νP
    rw [show (k * 20 + d) / 20 = k by omega, show (k * 20 + d) % 20 = d by omega]
/-! ### How many bounds, between which numbers, how great -/
theorem rates_len (ν : Nat → Nat → Nat) (w : Wt) (J d : Nat) : ∀ n, (ratesL ν w J d n).length ≤ 2 * n
  | 0 => Nat.le_refl _
  | n + 1 => by
    have := rates_len ν w J d n
    simp only [ratesL, List.length_append]
    split
    · simp; omega
    · simp [wi]; omega
theorem day_len (ν : Nat → Nat → Nat) (w : Wt) (J d : Nat) : (dayL ν w J d).length ≤ 10 := by
  have := rates_len ν w J d 3
  unfold dayL
  simp only [List.length_append, wi, List.length_cons, List.length_nil]
  omega
theorem days_len (ν : Nat → Nat → Nat) (w : Wt) (J : Nat) : ∀ n, (daysL ν w J n).length ≤ 10 * n
  | 0 => Nat.le_refl _
  | n + 1 => by
    have := days_len ν w J n
    have := day_len ν w J n
    simp only [daysL, List.length_append]
    omega
theorem rt_ok {w : Wt} (h : okWt w) (k : Nat) : rtOK (w.rt k) := by
  unfold Wt.rt
  split
  · exact h.2.2.1
  · split
    · exact h.2.2.2.1
    · exact h.2.2.2.2
def goodC (V : Nat) (c : Cn) : Prop := c.to < V ∧ c.fr < V ∧ -1000001000 ≤ c.more ∧ c.more ≤ 1000001000
theorem wi_good {V a b : Nat} {lo hi : Int} (ha : a < V) (hb : b < V) (h1 : -1000001000 ≤ lo) (h2 : lo ≤ 1000001000) (h3 : -1000001000 ≤ hi) (h4 : hi ≤ 1000001000) : ∀ c ∈ wi a b lo hi, goodC V c := fun c hc => by
  simp only [wi, List.mem_cons, List.not_mem_nil, or_false] at hc
  rcases hc with rfl | rfl
  · exact ⟨ha, hb, h3, h4⟩
  · exact ⟨hb, ha, by show -1000001000 ≤ -lo; omega, by show -lo ≤ 1000001000; omega⟩
theorem rates_good {ν : Nat → Nat → Nat} {w : Wt} {J d V : Nat} (hw : okWt w) (hν : ∀ k e, k < 3 → e ≤ d → ν k e < V) : ∀ n, n ≤ 3 → ∀ c ∈ ratesL ν w J d n, goodC V c
  | 0, _ => fun c hc => by cases hc
  | n + 1, hn => fun c hc => by
    simp only [ratesL] at hc
    rcases List.mem_append.1 hc with hc | hc
    · exact rates_good hw hν n (by omega) c hc
    · have hr := rt_ok hw n
      unfold rtOK at hr
      split at hc
      · cases hc
      · exact wi_good (hν n d (by omega) (Nat.le_refl _)) (hν n (d - 1) (by omega) (by omega)) (by omega) (by omega) (by omega) (by omega) c hc
theorem days_good {ν : Nat → Nat → Nat} {w : Wt} {J V : Nat} (hw : okWt w) : ∀ n, n ≤ w.F.length → (∀ k e, k < 3 → e < n → ν k e < V) → ∀ c ∈ daysL ν w J n, goodC V c
  | 0, _, _ => fun c hc => by cases hc
  | n + 1, hn, hν => fun c hc => by
    simp only [daysL, dayL] at hc
    obtain ⟨hF, hS⟩ := hw.2.1 n (by omega)
    unfold inB at hF hS
    have hwr := hw.1.2.2
    rcases List.mem_append.1 hc with hc | hc
    · exact days_good hw n (by omega) (fun k e hk he => hν k e hk (by omega)) c hc
    · rcases List.mem_append.1 hc with hc | hc
      · rcases List.mem_append.1 hc with hc | hc
        · exact wi_good (hν 0 n (by omega) (by omega)) (hν 1 n (by omega) (by omega)) (by omega) (by omega) (by omega) (by omega) c hc
        · exact wi_good (hν 1 n (by omega) (by omega)) (hν 2 n (by omega) (by omega)) (by omega) (by omega) (by omega) (by omega) c hc
      · exact rates_good hw (fun k e hk he => hν k e hk (by omega)) 3 (by omega) c hc
/-! ### How low they fall -/
theorem rel_lb {b : Nat → Int} {c : Cn} {m : Int} (h : ∀ v, m ≤ b v) (hc : -1000001000 ≤ c.more) (v : Nat) : m - 1000001000 ≤ rel b c v := by
  unfold rel
  have := h c.to
  have := h c.fr
  have := h v
  split <;> omega
def partR (C : List Cn) (b : Nat → Int) (q : Nat) : Nat → Int := round (C.take q) b
theorem partR_succ {C : List Cn} {b : Nat → Int} {q : Nat} (h : q < C.length) : partR C b (q + 1) = rel (partR C b q) (nth C q) := by
  unfold partR
  rw [take_succ_nth h, round_app]
  rfl
theorem partR_lb {C : List Cn} {V : Nat} {b : Nat → Int} {m : Int} (hC : ∀ c ∈ C, goodC V c) (h : ∀ v, m ≤ b v) : ∀ q, q ≤ C.length → ∀ v, m - 1000001000 * (q : Int) ≤ partR C b q v
  | 0, _, v => by
    have := h v
    show m - 1000001000 * ((0 : Nat) : Int) ≤ b v
    omega
  | q + 1, hq, v => by
    have h1 := partR_lb hC h q (by omega)
    have h2 := (hC _ (nth_mem (show q < C.length by omega))).2.2.1
    rw [partR_succ (by omega)]
    have := rel_lb h1 h2 v
    push_cast
    omega
theorem bk_lb {C : List Cn} {V : Nat} (hC : ∀ c ∈ C, goodC V c) (hl : C.length ≤ 200) : ∀ (r v : Nat), -(1000001000 * 200 * (r : Int)) ≤ bk C r v
  | 0, v => by show _ ≤ (0 : Int); omega
  | r + 1, v => by
    have h1 := bk_lb hC hl r
    have h2 := partR_lb hC h1 C.length (Nat.le_refl _) v
    unfold partR at h2
    rw [List.take_length] at h2
    show _ ≤ round C (bk C r) v
    push_cast
    omega
theorem partR_le (C : List Cn) (b : Nat → Int) (q v : Nat) : partR C b q v ≤ b v := round_le _ _ _
end Go.Oct.Clock
