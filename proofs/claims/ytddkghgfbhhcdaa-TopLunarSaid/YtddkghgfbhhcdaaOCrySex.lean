/- Sextants: when they are valid, and what Read answers (type numbers: 187 what adds the same everywhere, 189 a table). -/
import Derived.Test.YtddkghgfbhhcdaaOCryB0
import Derived.Test.YtddkghgfbhhcdaaOT4
set_option maxRecDepth 100000
set_option maxHeartbeats 4000000
set_option linter.unusedVariables false
set_option linter.unusedSimpArgs false
namespace Go.Oct.Cry.Sx
open Go.Oct
/-- A sextant. -/
structure Sext where
  step : Int
  il : Int
  ih : Int
  w : Int
  tab : List Span
  sh : List Span
abbrev eSx (nT nS : Bool) (s : Sext) : AV := .agg [.int .i64 s.step, vl eSpan nT s.tab, .int .i64 s.il, .int .i64 s.ih, .int .i64 s.w, vl eSpan nS s.sh]
@[simp] theorem within_ok (n l h : Int) : ans prog O 88 [.int .i64 n, .int .i64 l, .int .i64 h] = some (.bool (decide (l ≤ n ∧ n ≤ h))) := by
  refine fn_of' pl get88 (oo (by decide)) rfl rfl ?_
  simp +contextual (disch := omega) []
@[simp] theorem spanned_ok (lo hi l h : Int) : ans prog O 90 [.agg [.int .i64 lo, .int .i64 hi], .int .i64 l, .int .i64 h] = some (.bool (decide (l ≤ lo ∧ lo ≤ hi ∧ hi ≤ h))) := by
  refine fn_of' pl get90 (oo (by decide)) rfl rfl ?_
  simp +contextual (disch := omega) [Bool.and_assoc]
theorem IndexFuncS_ok (nl : Bool) (xs : List Span) (hx : xs.length < 2 ^ 62) (g : Nat) (cs ds : List AV) (hg : pl.contains g = false) (hc : cs.all (closed 7) = true) (hd : ds.all (closed 7) = true) (hc8 : cs.all (closed 8) = true) (hd8 : ds.all (closed 8) = true) (P : Span → Bool)
    (h : ∀ j, j < xs.length → ans prog O g (cs ++ eSpan (nth xs j) :: ds) = some (.bool (P (nth xs j)))) :
    ∃ n : Int, ans prog O 148 [vl eSpan nl xs, .func (.func g) cs ds] = some (.int .i64 n) ∧ (0 ≤ n ↔ ∃ j, j < xs.length ∧ P (nth xs j) = true) ∧ -1 ≤ n := by
  have key : ∀ n : Int, (n = -1 ∧ (∀ j, j < xs.length → P (nth xs j) = false) ∨ (∃ i, n = (i : Nat) ∧ i < xs.length ∧ P (nth xs i) = true ∧ ∀ j, j < i → P (nth xs j) = false)) →
      ans prog O 148 [vl eSpan nl xs, .func (.func g) cs ds] = some (.int .i64 n) := by
    intro n hn
    refine fn_of' pl get148 (oo (by decide)) (by simp [hc, hd]) rfl ?_
    simp +contextual (disch := omega) []
    refine lp_count pl xs.length (fun j => [(0, vl eSpan nl xs), (1, .func (.func g) cs ds), (7, .int .i64 xs.length), (8, .int .i64 j)]) (fun _ => ⟨0, 0, .leaf⟩) (fun j => ∀ i, i < j → P (nth xs i) = false) (by simp) ?_
    intro j hj hi
    have hg' := hg
    simp at hg'
    simp only [eSpan] at h
    simp +contextual (disch := omega) [Und, hg', hc8, hd8, h]
    refine ⟨fun hjl => ⟨fun hp => ?_, fun hp i h1 => ?_⟩, fun hjl => ?_⟩
    · rcases hn with ⟨_, h2⟩ | ⟨i, h1, h2, h3, h4⟩
      · rw [h2 j hjl] at hp; cases hp
      · have : i = j := by
          rcases Nat.lt_trichotomy i j with h5 | h5 | h5
          · rw [hi i h5] at h3; cases h3
          · exact h5
          · rw [h4 j h5] at hp; cases hp
        omega
    · by_cases e : i = j
      · rw [e]; exact hp
      · exact hi i (by omega)
    · rcases hn with ⟨h1, _⟩ | ⟨i, h1, h2, h3, h4⟩
      · omega
      · rw [hi i (by omega)] at h3; cases h3
  by_cases hex : ∃ j, j < xs.length ∧ P (nth xs j) = true
  · have hmin : ∀ m j, j ≤ m → j < xs.length → P (nth xs j) = true → ∃ i, i < xs.length ∧ P (nth xs i) = true ∧ ∀ j, j < i → P (nth xs j) = false := by
      intro m
      induction m with
      | zero => intro j h1 h2 h3; exact ⟨j, h2, h3, fun i hi => by omega⟩
      | succ m ih =>
        intro j h1 h2 h3
        by_cases hb : ∃ i, i < j ∧ P (nth xs i) = true
        · obtain ⟨i, h4, h5⟩ := hb
          exact ih i (by omega) (by omega) h5
        · refine ⟨j, h2, h3, fun i hi => ?_⟩
          cases hq : P (nth xs i) with
          | false => rfl
          | true => exact absurd ⟨i, hi, hq⟩ hb
    obtain ⟨j, h1, h2⟩ := hex
    obtain ⟨i, h3, h4, h5⟩ := hmin j j (Nat.le_refl _) h1 h2
    exact ⟨i, key _ (.inr ⟨i, rfl, h3, h4, h5⟩), ⟨fun _ => ⟨j, h1, h2⟩, fun _ => by omega⟩, by omega⟩
  · refine ⟨-1, key _ (.inl ⟨rfl, fun j hj => ?_⟩), ⟨fun h => by omega, fun h => absurd h hex⟩, by omega⟩
    cases hq : P (nth xs j) with
    | false => rfl
    | true => exact absurd ⟨j, hj, hq⟩ hex
theorem ContainsFuncS_ok (nl : Bool) (xs : List Span) (hx : xs.length < 2 ^ 62) (g : Nat) (cs ds : List AV) (hg : pl.contains g = false) (hc : cs.all (closed 7) = true) (hd : ds.all (closed 7) = true) (hc8 : cs.all (closed 8) = true) (hd8 : ds.all (closed 8) = true) (P : Span → Bool)
    (h : ∀ j, j < xs.length → ans prog O g (cs ++ eSpan (nth xs j) :: ds) = some (.bool (P (nth xs j)))) :
    ans prog O 129 [vl eSpan nl xs, .func (.func g) cs ds] = some (.bool (decide (∃ j, j < xs.length ∧ P (nth xs j) = true))) := by
  obtain ⟨n, h1, h2, h3⟩ := IndexFuncS_ok nl xs hx g cs ds hg hc hd hc8 hd8 P h
  refine fn_of' pl get129 (oo (by decide)) (by simp [hc, hd]) rfl ?_
  simp +contextual (disch := omega) [h1, hc, hd, h2]
def inM (m : Int) (s : Span) : Prop := -m ≤ s.lo ∧ s.lo ≤ s.hi ∧ s.hi ≤ m
instance (m : Int) (s : Span) : Decidable (inM m s) := by unfold inM; infer_instance
theorem all1_ok (s : Span) (m : Int) (hm : 0 ≤ m ∧ m ≤ 1000000) : ans prog O 130 [eSpan s, .vptr [.int .i64 m] 0] = some (.bool (!decide (inM m s))) := by
  refine fn_of' pl get130 (oo (by decide)) rfl rfl ?_
  simp +contextual (disch := omega) [Und, inM, eSpan]
  by_cases x1 : -m ≤ s.lo <;> by_cases x2 : s.lo ≤ s.hi <;> by_cases x3 : s.hi ≤ m <;> simp [x1, x2, x3]
def allM (m : Int) (l : List Span) : Prop := ∀ j, j < l.length → inM m (nth l j)
instance (m : Int) (l : List Span) : Decidable (allM m l) := by unfold allM; infer_instance
@[simp] theorem allSpanned_ok (nl : Bool) (l : List Span) (m : Int) (hl : l.length < 2 ^ 62) (hm : 0 ≤ m) (hm2 : m ≤ 1000000) : ans prog O 89 [vl eSpan nl l, .int .i64 m] = some (.bool (decide (allM m l))) := by
  have hcf := ContainsFuncS_ok nl l hl 130 [] [.vptr [.int .i64 m] 0] (by decide) rfl rfl rfl rfl (fun s => !decide (inM m s)) (fun j hj => all1_ok (nth l j) m ⟨hm, hm2⟩)
  refine fn_of' pl get89 (oo (by decide)) rfl rfl ?_
  simp (disch := omega) [-Bool.exists_bool]
  have hsn : Snap ((⟨0, 0, .leaf⟩ : AH).push (.cells [.int .i64 m])) (.func (.func 130) [] [.ptr (some (0, 0))]) [0] (.func (.func 130) [] [.vptr [.int .i64 m] 0]) :=
    (SnapK.func (k := 7) .nil (.cons (SnapK.ptr (k := 6) (by simp) (.cons (SnapK.int _ _ _ _) .nil)) .nil)).snap
  refine pc_scal (.cons (Snap.vl _ _ _ _) (.cons hsn .nil)) (fun h => by cases h) (by simp) (oo (args := []) (by decide)).1 hcf rfl ?_
  simp (disch := omega) [-Bool.exists_bool]
  rw [← decide_not]
  apply decide_eq_decide.2
  constructor
  · rintro ⟨j, h1, h2⟩ h3
    exact h2 (h3 j h1)
  · intro h
    apply Classical.byContradiction
    intro h2
    exact h fun j hj => Classical.byContradiction fun h3 => h2 ⟨j, hj, h3⟩
/-- When a sextant is valid. -/
structure okS (s : Sext) : Prop where
  step : 1 ≤ s.step ∧ s.step ≤ 72000
  len : 2 ≤ s.tab.length ∧ s.tab.length ≤ 12
  tab : allM 600 s.tab
  long : s.step * ((s.tab.length : Int) - 1) ≤ 504000
  idx : -1800 ≤ s.il ∧ s.il ≤ s.ih ∧ s.ih ≤ 1800
  wrong : 0 ≤ s.w ∧ s.w ≤ 60
  shl : s.sh.length ≤ 6
  sh : allM 120 s.sh
theorem okS_iff (s : Sext) : okS s ↔ ((((1 ≤ s.step ∧ s.step ≤ 72000) ∧ (2 ≤ (s.tab.length : Int) ∧ (s.tab.length : Int) ≤ 12)) ∧ allM 600 s.tab) ∧ s.step * ((s.tab.length : Int) - 1) ≤ 504000 ∧ (-1800 ≤ s.il ∧ s.il ≤ s.ih ∧ s.ih ≤ 1800)) ∧ (0 ≤ s.w ∧ s.w ≤ 60) ∧ ¬ (6 < (s.sh.length : Int)) ∧ allM 120 s.sh := by
  constructor
  · rintro ⟨a, b, c, d, e, f, g, h⟩; exact ⟨⟨⟨⟨a, by omega⟩, c⟩, d, e⟩, f, by omega, h⟩
  · rintro ⟨⟨⟨⟨a, b⟩, c⟩, d, e⟩, f, g, h⟩; exact ⟨a, by omega, c, d, e, f, by omega, h⟩
instance (s : Sext) : Decidable (okS s) := decidable_of_iff' _ (okS_iff s)
@[simp] theorem Check_ok (nT nS : Bool) (s : Sext) (hT : s.tab.length < 2 ^ 62) (hS : s.sh.length < 2 ^ 62) : ans prog O 42 [eSx nT nS s] = some (.int .i64 (if okS s then 0 else 50)) := by
  refine fn_of' pl get42 (oo (by decide)) rfl rfl ?_
  by_cases a : 1 ≤ s.step ∧ s.step ≤ 72000
  · by_cases b : 2 ≤ (s.tab.length : Int) ∧ (s.tab.length : Int) ≤ 12
    · have m1 := Int.mul_le_mul (show s.step ≤ 72000 by omega) (show (s.tab.length : Int) - 1 ≤ 11 by omega) (by omega) (by decide)
      have m2 := Int.mul_nonneg (show 0 ≤ s.step by omega) (show 0 ≤ (s.tab.length : Int) - 1 by omega)
      by_cases c : allM 600 s.tab
      · by_cases d : s.step * ((s.tab.length : Int) - 1) ≤ 504000
        · by_cases e : -1800 ≤ s.il ∧ s.il ≤ s.ih ∧ s.ih ≤ 1800
          · by_cases f : 0 ≤ s.w ∧ s.w ≤ 60
            · by_cases g : s.sh.length ≤ 6
              · have g2 : ¬ (6 : Int) < s.sh.length := by omega
                by_cases i : allM 120 s.sh
                · have h : okS s := ⟨a, by omega, c, d, e, f, g, i⟩
                  simp (disch := omega) [h, eq_true a, eq_true b, c, d, eq_true e, eq_true f, g, g2, i, Und, -Bool.exists_bool]
                · have h : ¬ okS s := fun h => i h.sh
                  simp (disch := omega) [h, eq_true a, eq_true b, c, d, eq_true e, eq_true f, g, g2, i, Und, -Bool.exists_bool]
              · have h : ¬ okS s := fun h => g h.shl
                have g' : (6 : Int) < s.sh.length := by omega
                simp (disch := omega) [h, eq_true a, eq_true b, c, d, eq_true e, eq_true f, g', Und, -Bool.exists_bool]
            · have h : ¬ okS s := fun h => f h.wrong
              simp (disch := omega) [h, eq_true a, eq_true b, c, d, eq_true e, eq_false f, Und, -Bool.exists_bool]
          · have h : ¬ okS s := fun h => e h.idx
            simp (disch := omega) [h, eq_true a, eq_true b, c, d, eq_false e, Und, -Bool.exists_bool]
        · have h : ¬ okS s := fun h => d h.long
          simp (disch := omega) [h, eq_true a, eq_true b, c, d, Und, -Bool.exists_bool]
      · have h : ¬ okS s := fun h => c h.tab
        simp (disch := omega) [h, eq_true a, eq_true b, c, Und, -Bool.exists_bool]
    · have h : ¬ okS s := fun h => b (by have := h.len; omega)
      simp (disch := omega) [h, eq_true a, eq_false b, Und, -Bool.exists_bool]
  · have h : ¬ okS s := fun h => a h.step
    have hw : ans prog O 88 [.int .i64 s.step, .int .i64 1, .int .i64 72000] = some (.bool false) := by rw [within_ok, decide_eq_false a]


    simp (maxSteps := 1000000) (disch := omega) [h, hw, Und, -Bool.exists_bool, -within_ok]
/-- What adds to an angle. -/
inductive Ad where
  | fx (s : Span)
  | tb (st : Int) (nl : Bool) (T : List Span)
instance : Inhabited Ad := ⟨.fx default⟩
def eAd : Ad → AV
  | .fx s => .iface 187 (.agg [.int .i64 s.lo, .int .i64 s.hi])
  | .tb st nl T => .iface 189 (.agg [.int .i64 st, vl eSpan nl T])
theorem encAd : Enc eAd 1 := ⟨fun x => by cases x <;> rfl, fun x => by cases x <;> rfl, fun x => by cases x <;> rfl, by decide⟩
@[simp] theorem meth_fx : prog.meth 187 "octant/sextant.span" = some 177 := by kernel_rfl
@[simp] theorem meth_tb : prog.meth 189 "octant/sextant.span" = some 178 := by kernel_rfl
@[simp] theorem fixed_ok (lo hi n : Int) : ans prog O 177 [.agg [.int .i64 lo, .int .i64 hi], .int .i64 n] = some (.agg [.int .i64 lo, .int .i64 hi]) := by
  refine fn_of' pl get177 (oo (by decide)) rfl rfl ?_
  simp +contextual (disch := omega) []
theorem floor_of {a b q : Int} (hb : 0 < b) (h1 : b * q ≤ a) (h2 : a < b * q + b) : q = a / b := by
  apply Int.le_antisymm
  · exact Int.le_ediv_of_mul_le hb (by rw [Int.mul_comm]; exact h1)
  · have := Int.ediv_lt_of_lt_mul (a := a) (b := q + 1) hb (by rw [Int.add_mul, Int.mul_comm q b]; omega)
    omega
theorem tdiv_bound {a b : Int} (hb : 0 < b) (h1 : -2000000000 ≤ a) (h2 : a ≤ 2000000000) : -2000000000 ≤ a.tdiv b ∧ a.tdiv b ≤ 2000000000 := by
  have h := Int.natAbs_tdiv_le_natAbs a b
  omega
@[simp] theorem down_ok (a b : Int) (hb : 0 < b) (hb2 : b ≤ 100000) (h1 : -1000000000 ≤ a) (h2 : a ≤ 1000000000) : ans prog O 179 [.int .i64 a, .int .i64 b] = some (.int .i64 (a / b)) := by
  refine fn_of' pl get179 (oo (by decide)) rfl rfl ?_
  simp +contextual (disch := omega) []
  have e1 := Int.mul_tdiv_add_tmod a b
  have e2 := Int.tmod_lt_of_pos a hb
  have e3 := Int.lt_tmod_of_pos a hb
  have e5 := tdiv_bound (a := a) (b := b) hb (by omega) (by omega)
  refine ⟨by omega, fun h => ?_, fun h => ?_⟩
  · rw [w64_id (a.tdiv b) (by omega) (by omega), w64_id _ (by omega) (by omega)]
    exact floor_of hb (by rw [Int.mul_sub]; omega) (by rw [Int.mul_sub]; omega)
  · rw [w64_id _ (by omega) (by omega)]
    exact floor_of hb (by omega) (by omega)
/-- What a table adds at an angle. -/
def tabV (st : Int) (T : List Span) (n : Int) : Span :=
  if n % st = 0 then nth T (n / st).toNat else
    ⟨((nth T (n / st).toNat).lo * (st - n % st) + (nth T ((n / st).toNat + 1)).lo * (n % st)) / st, ((nth T (n / st).toNat).hi * (st - n % st) + (nth T ((n / st).toNat + 1)).hi * (n % st)) / st⟩
theorem mul_bd {a b A B : Int} (h1 : -A ≤ a) (h2 : a ≤ A) (h3 : 0 ≤ b) (h4 : b ≤ B) : -(A * B) ≤ a * b ∧ a * b ≤ A * B := by
  have hA : 0 ≤ A := by omega
  have m1 := Int.mul_le_mul_of_nonneg_right h2 h3
  have m2 := Int.mul_le_mul_of_nonneg_right h1 h3
  have m3 := Int.mul_le_mul_of_nonneg_left h4 hA
  rw [Int.neg_mul] at m2
  omega
/-- The row at or before an angle. -/
theorem row_of {st n : Int} {l : Nat} (hst : 1 ≤ st) (h0 : 0 ≤ n) (h1 : n ≤ st * ((l : Int) - 1)) : (0 ≤ n / st ∧ n / st ≤ (l : Int) - 1) ∧ (0 ≤ n % st ∧ n % st < st) ∧ (n % st ≠ 0 → n / st + 1 ≤ (l : Int) - 1) := by
  have e := Int.mul_ediv_add_emod n st
  have f2 := Int.emod_lt_of_pos n (show 0 < st by omega)
  have f3 := Int.emod_nonneg n (show st ≠ 0 by omega)
  refine ⟨⟨Int.ediv_nonneg h0 (by omega), ?_⟩, ⟨f3, f2⟩, fun h => ?_⟩
  · have : n / st * st ≤ ((l : Int) - 1) * st := by rw [Int.mul_comm, Int.mul_comm ((l : Int) - 1)]; omega
    exact Int.le_of_mul_le_mul_right this (by omega)
  · have : n / st * st < ((l : Int) - 1) * st := by rw [Int.mul_comm, Int.mul_comm ((l : Int) - 1)]; omega
    have := Int.lt_of_mul_lt_mul_right this (by omega)
    omega
theorem table_ok (nl : Bool) (st : Int) (T : List Span) (n : Int) (hst : 1 ≤ st ∧ st ≤ 72000) (hl : T.length ≤ 12) (hT : allM 600 T) (h0 : 0 ≤ n) (h1 : n ≤ st * ((T.length : Int) - 1)) :
    ans prog O 178 [.agg [.int .i64 st, vl eSpan nl T], .int .i64 n] = some (.agg [.int .i64 (tabV st T n).lo, .int .i64 (tabV st T n).hi]) := by
  obtain ⟨⟨r1, r2⟩, ⟨r3, r4⟩, r5⟩ := row_of hst.1 h0 h1
  have t1 : n.tdiv st = n / st := Int.tdiv_eq_ediv_of_nonneg h0
  have t2 : n.tmod st = n % st := Int.tmod_eq_emod_of_nonneg h0
  obtain ⟨k, hk⟩ : ∃ k : Nat, n / st = k := ⟨(n / st).toNat, by omega⟩
  have ht := hT k (by omega)
  unfold inM at ht
  unfold tabV
  rw [hk, Int.toNat_natCast]
  rw [hk] at t1 r2 r5
  generalize hd : n % st = d at *
  refine fn_of' pl get178 (oo (by decide)) rfl rfl ?_
  by_cases hz : d = 0
  · rw [if_pos hz]
    have q1 : (k : Int) < T.length := by omega
    have q2 : k < T.length := by omega
    simp (disch := omega) [Und, t1, t2, hz, q1, q2, -Bool.exists_bool]
    omega
  · rw [if_neg hz]
    have r6 := r5 hz
    have ht2 := hT (k + 1) (by omega)
    unfold inM at ht2
    have m1 := mul_bd (a := (nth T k).lo) (b := st - d) (A := 600) (B := 72000) (by omega) (by omega) (by omega) (by omega)
    have m2 := mul_bd (a := (nth T k).hi) (b := st - d) (A := 600) (B := 72000) (by omega) (by omega) (by omega) (by omega)
    have m3 := mul_bd (a := (nth T (k + 1)).lo) (b := d) (A := 600) (B := 72000) (by omega) (by omega) (by omega) (by omega)
    have m4 := mul_bd (a := (nth T (k + 1)).hi) (b := d) (A := 600) (B := 72000) (by omega) (by omega) (by omega) (by omega)
    have q1 : (k : Int) < T.length := by omega
    have q2 : k < T.length := by omega
    have q3 : (k : Int) + 1 < T.length := by omega
    have q4 : k + 1 < T.length := by omega
    have q5 : ((k : Int) + 1).toNat = k + 1 := by omega
    simp (disch := omega) [Und, t1, t2, hz, q1, q2, q3, q4, q5, -Bool.exists_bool]
    omega
/-- A bit of a number. -/
def bitV (s : Int) (k : Nat) : Bool :=
  match abin .shr (.int .i64 s) (.int .i64 k) with
  | some v => match abin .and v (.int .i64 1) with
    | some (.int _ x) => decide (x = 1)
    | _ => false
  | none => false
/-- The shades that are used. -/
def shades (S : List Span) (s : Int) : Nat → List Ad
  | 0 => []
  | i + 1 => shades S s i ++ if bitV s i then [.fx (nth S i)] else []
def read0 (s : Sext) (n : Int) (i : Nat) : List Ad := .fx ⟨-s.w, s.w⟩ :: shades s.sh n i
theorem shades_len (S : List Span) (s : Int) : ∀ n, (shades S s n).length ≤ n
  | 0 => Nat.le_refl _
  | n + 1 => by
    have := shades_len S s n
    simp only [shades, List.length_append]
    split <;> simp <;> omega
theorem bit_ex (s : Int) (k : Nat) : ∃ a b, abin .shr (.int .i64 s) (.int .i64 (k : Int)) = some (.int .i64 a) ∧ abin .and (.int .i64 a) (.int .i64 1) = some (.int .i64 b) ∧ bitV s k = decide (b = 1) := by
  have h1 : abin .shr (.int .i64 s) (.int .i64 (k : Int)) = some (.int .i64 (s.fdiv (2 ^ (min ((k : Int).toNat) (IntKind.bits .i64))))) := by
    simp only [abin]
    rw [if_neg (by omega)]
  refine ⟨_, _, h1, rfl, ?_⟩
  unfold bitV
  rw [h1]
  rfl
theorem reading_call (nT nS : Bool) (s : Sext) (n : Int) (hs : okS s) {σ : AH} {K : AV → AH → Prop} (h0 : σ.lim ≤ σ.next) (hK : ∀ v σ', Whole σ.next 1 eAd σ' v (read0 s n s.sh.length) → Only [] σ σ' → K v σ') :
    Call prog O (.fn 92) [eSx nT nS s, .int .i64 n] σ K := by
  have hw := hs.wrong
  have hl := hs.shl
  refine @call_of' _ _ pl _ _ _ _ _ _ _ ⟨K⟩ get92 ((oo (by decide)).2 _) rfl ?_
  simp (disch := omega) [-Bool.exists_bool]
  refine ⟨⟨rfl, rfl⟩, ?_⟩
  refine lp_loop pl (fun k fr υ => ∃ (j : Nat) (v : AV), j + k = s.sh.length ∧ fr = ⟨[(1, .int .i64 n), (5, v), (20, vl eSpan nS s.sh), (21, .int .i64 s.sh.length), (22, .int .i64 j)], []⟩ ∧ Whole σ.next 1 eAd υ v (read0 s n j) ∧ Only [] σ υ)
    ⟨s.sh.length, 0, _, by omega, rfl, ?_, ?_⟩ ?_
  · exact ⟨σ.next + 1, .ex 1, rfl, by omega, by simp [read0, shades, rowOf, eAd]; rfl, .inr rfl⟩
  · exact (Only.push [] σ _).trans (Only.push [] _ _)
  rintro k _ υ ⟨j, v, hj, rfl, hv, ho⟩
  have l1 := ho.lim
  have l2 := ho.next
  by_cases hjl : j < s.sh.length
  · obtain ⟨a, b, b1, b2, b3⟩ := bit_ex n j
    have hln := shades_len s.sh n j
    have u1 : υ.lim ≤ υ.next := by omega
    have hX : ∀ C : AObj, Only [] υ ((υ.push (.cells [.int .i64 0, .int .i64 0])).set υ.next C) := fun C => ⟨rfl, Nat.le_succ _, fun q hq _ => by rw [AH.get_set_other _ _ _ _ (by omega), AH.get_push_old _ _ _ (by omega)]⟩
    have e0 : read0 s n (j + 1) = read0 s n j ++ if bitV n j then [.fx (nth s.sh j)] else [] := rfl
    by_cases hb : b = 1
    · subst hb
      rw [if_pos (by rw [b3]; rfl)] at e0
      simp (disch := omega) [Und, hjl, b1, b2, u1, -Bool.exists_bool]
      refine ⟨⟨rfl, rfl⟩, ?_⟩
      have h1 := hX (.cells [.int .i64 (nth s.sh j).lo, .int .i64 (nth s.sh j).hi])
      have xn : ((υ.push (.cells [.int .i64 0, .int .i64 0])).set υ.next (.cells [.int .i64 (nth s.sh j).lo, .int .i64 (nth s.sh j).hi])).next = υ.next + 1 := rfl
      generalize AH.set (AH.push υ _) υ.next _ = X at h1 xn ⊢
      rw [← xn]
      have hl1 := h1.lim
      have hn1 : (read0 s n j).length ≤ 7 := by simp only [read0, List.length_cons]; omega
      refine (hv.stay h1 fun _ _ h => by cases h).push encAd (by omega) (by omega) (.fx (nth s.sh j)) (by simp only [topBytes]; omega) rfl fun v' τ g1 g2 => ?_
      simp (disch := omega) [-Bool.exists_bool]
      exact ⟨k - 1, by omega, j + 1, by omega, v', ⟨rfl, by omega⟩, by rw [e0]; exact g1, g2.lim.trans (h1.lim.trans l1), by have := g2.next; omega, fun q hq _ => (g2.get q hq).trans ((h1.get q (by omega) (by simp)).trans (ho.get q hq (by simp)))⟩
    · rw [if_neg (by rw [b3, decide_eq_false hb]; simp), List.append_nil] at e0
      simp (disch := omega) [Und, hjl, b1, b2, hb, u1, -Bool.exists_bool]
      exact ⟨k - 1, by omega, j + 1, by omega, v, ⟨rfl, by omega⟩, by rw [e0]; exact hv.stay (hX _) (fun _ _ h => by cases h), ho.trans (hX _)⟩
  · obtain rfl : j = s.sh.length := by omega
    simp (disch := omega) [Und, -Bool.exists_bool]
    exact hK _ _ hv ho
/-- Spans, added. -/
def totS (l : List Span) : Nat → Span
  | 0 => ⟨0, 0⟩
  | j + 1 => ⟨(totS l j).lo + (nth l j).lo, (totS l j).hi + (nth l j).hi⟩
def bdS (x : Span) : Prop := (-1000000 ≤ x.lo ∧ x.lo ≤ 1000000) ∧ -1000000 ≤ x.hi ∧ x.hi ≤ 1000000
theorem totS_bd {l : List Span} (h : ∀ j, j < l.length → bdS (nth l j)) : ∀ j, j ≤ l.length → (-(1000000 * (j : Int)) ≤ (totS l j).lo ∧ (totS l j).lo ≤ 1000000 * j) ∧ -(1000000 * (j : Int)) ≤ (totS l j).hi ∧ (totS l j).hi ≤ 1000000 * j
  | 0, _ => by simp [totS]
  | j + 1, hj => by
    have h1 := totS_bd h j (by omega)
    have h2 := h j (by omega)
    unfold bdS at h2
    simp only [totS]
    omega
theorem sum_ok (nl : Bool) (l : List Span) (hl : l.length ≤ 100) (h : ∀ j, j < l.length → bdS (nth l j)) : ans prog O 122 [vl eSpan nl l] = some (eSpan (totS l l.length)) := by
  refine fn_of' pl get122 (oo (by decide)) rfl rfl ?_
  simp (disch := omega) [-Bool.exists_bool]
  refine lp_loop pl (fun k fr υ => ∃ j : Nat, j + k = l.length ∧ fr = ⟨[(2, .ptr (some (0, 0))), (3, .ptr (some (1, 0))), (6, vl eSpan nl l), (7, .int .i64 l.length), (8, .int .i64 j)], []⟩ ∧ υ.lim = 0 ∧ 2 ≤ υ.next ∧ υ.get 0 = some (.cells [.int .i64 0, .int .i64 0]) ∧ υ.get 1 = some (.cells [.int .i64 (totS l j).lo, .int .i64 (totS l j).hi]))
    ⟨l.length, 0, by omega, rfl, by simp, by simp, by simp, by simp [totS]⟩ ?_
  rintro k _ υ ⟨j, hj, rfl, u0, u1, g0, g1⟩
  by_cases hjl : j < l.length
  · have hb := h j hjl
    have ht := totS_bd h j (by omega)
    unfold bdS at hb
    have n0 : 0 < υ.next := by omega
    have n1 : 1 < υ.next := by omega
    have n2 : ¬ 1 = υ.next := by omega
    have n3 : ¬ 0 = υ.next := by omega
    have n4 : 1 < υ.next + 1 := by omega
    have n5 : ¬ υ.next = 1 := by omega
    have n6 : ¬ υ.next = 0 := by omega
    simp (disch := omega) [Und, hjl, u0, g0, g1, n0, n1, n2, n3, n4, n5, n6, -Bool.exists_bool]
    exact ⟨k - 1, by omega, j + 1, by omega, by omega, by omega, rfl, rfl⟩
  · obtain rfl : j = l.length := by omega
    have n0 : 0 < υ.next := by omega
    have n1 : 1 < υ.next := by omega
    simp (disch := omega) [Und, u0, g0, g1, n0, n1, -Bool.exists_bool]
    rfl
/-- What a thing adds at an angle. -/
def adV (n : Int) : Ad → Span
  | .fx s => s
  | .tb st _ T => tabV st T n
def okAd (n : Int) : Ad → Prop
  | .fx s => bdS s
  | .tb st _ T => (1 ≤ st ∧ st ≤ 72000) ∧ T.length ≤ 12 ∧ allM 600 T ∧ 0 ≤ n ∧ n ≤ st * ((T.length : Int) - 1)
/-- A mean of two numbers lies between their bounds. -/
theorem mean_bd {x y d st A : Int} (hst : 1 ≤ st) (hd : 0 ≤ d ∧ d < st) (hx : -A ≤ x ∧ x ≤ A) (hy : -A ≤ y ∧ y ≤ A) : -A ≤ (x * (st - d) + y * d) / st ∧ (x * (st - d) + y * d) / st ≤ A := by
  have e1 := Int.mul_le_mul_of_nonneg_right hx.1 (show 0 ≤ st - d by omega)
  have e2 := Int.mul_le_mul_of_nonneg_right hx.2 (show 0 ≤ st - d by omega)
  have e3 := Int.mul_le_mul_of_nonneg_right hy.1 hd.1
  have e4 := Int.mul_le_mul_of_nonneg_right hy.2 hd.1
  have e5 : A * (st - d) + A * d = A * st := by rw [← Int.mul_add]; congr 1; omega
  have e6 : -A * (st - d) + -A * d = -A * st := by rw [← Int.mul_add]; congr 1; omega
  constructor
  · exact (Int.le_ediv_iff_mul_le (by omega)).2 (by omega)
  · have : (x * (st - d) + y * d) / st < A + 1 := (Int.ediv_lt_iff_lt_mul (show 0 < st by omega)).2 (by rw [Int.add_mul, Int.neg_mul] at *; omega)
    omega
theorem tab_bd {st n : Int} {T : List Span} (hst : 1 ≤ st ∧ st ≤ 72000) (hT : allM 600 T) (h0 : 0 ≤ n) (h1 : n ≤ st * ((T.length : Int) - 1)) : bdS (tabV st T n) := by
  obtain ⟨⟨r1, r2⟩, ⟨r3, r4⟩, r5⟩ := row_of hst.1 h0 h1
  have ht := hT (n / st).toNat (by omega)
  unfold inM at ht
  unfold tabV bdS
  by_cases hz : n % st = 0
  · rw [if_pos hz]; omega
  · have ht2 := hT ((n / st).toNat + 1) (by have := r5 hz; omega)
    unfold inM at ht2
    rw [if_neg hz]
    have m1 := mean_bd (x := (nth T (n / st).toNat).lo) (y := (nth T ((n / st).toNat + 1)).lo) (d := n % st) (st := st) (A := 600) hst.1 ⟨r3, r4⟩ (by omega) (by omega)
    have m2 := mean_bd (x := (nth T (n / st).toNat).hi) (y := (nth T ((n / st).toNat + 1)).hi) (d := n % st) (st := st) (A := 600) hst.1 ⟨r3, r4⟩ (by omega) (by omega)
    simp only
    omega
theorem ad_bd {n : Int} {x : Ad} (h : okAd n x) : bdS (adV n x) := by
  cases x with
  | fx s => exact h
  | tb st nl T => exact tab_bd h.1 h.2.2.1 h.2.2.2.1 h.2.2.2.2
theorem flatSp : flatE eSpan := fun x c hc k f => by
  rw [show (eSpan x).cells = [.int .i64 x.lo, .int .i64 x.hi] from rfl] at hc
  simp only [List.mem_cons, List.not_mem_nil, or_false] at hc
  rcases hc with rfl | rfl <;> exact ⟨rfl, rfl⟩
def adds (n : Int) (xs : List Ad) : List Span := xs.map (adV n)
theorem adds_len (n : Int) (xs : List Ad) : (adds n xs).length = xs.length := by simp [adds]
theorem adds_nth {n : Int} {xs : List Ad} {j : Nat} (h : j < xs.length) : nth (adds n xs) j = adV n (nth xs j) := nth_map _ h
theorem added_call {σ : AH} {lo : Nat} {v : AV} {xs : List Ad} {n : Int} (hv : Whole lo 1 eAd σ v xs) (hl : xs.length ≤ 100) (h0 : σ.lim ≤ σ.next) (hok : ∀ j, j < xs.length → okAd n (nth xs j)) {K : AV → AH → Prop} (hK : ∀ σ', Only [] σ σ' → K (eSpan (totS (adds n xs) xs.length)) σ') :
    Call prog O (.fn 93) [.int .i64 n, v] σ K := by
  obtain ⟨o, c, rfl, ho, hg, hc⟩ := hv
  have hon := AH.get_lt hg
  have hrl := rowOf_length encAd xs
  refine @call_of' _ _ pl _ _ _ _ _ _ _ ⟨K⟩ get93 ((oo (by decide)).2 _) rfl ?_
  simp (disch := omega) [-Bool.exists_bool]
  refine lp_loop pl (fun k fr υ => ∃ (j : Nat) (w : AV), j + k = xs.length ∧ fr = ⟨[(0, .int .i64 n), (4, .ptr (some (σ.next, 0))), (5, w), (8, .slice (some (o, 0)) xs.length c), (9, .int .i64 xs.length), (10, .int .i64 j)], []⟩ ∧ Only [] σ υ ∧ σ.next < υ.next ∧ υ.get σ.next = some (.cells [.int .i64 0, .int .i64 0]) ∧ Buf (σ.next + 1) 2 eSpan υ w ((adds n xs).take j))
    ⟨xs.length, 0, .vsl true [], by omega, rfl, Only.push [] σ _, by simp, by simp, by rw [List.take_zero]; exact Buf.nil⟩ ?_
  rintro k _ υ ⟨j, w, hj, rfl, hO, hn, hz, hb⟩
  have l1 := hO.lim
  have hgo := (hO.get o hon (by simp)).trans hg
  have u1 : υ.lim ≤ υ.next := by omega
  by_cases hjl : j < xs.length
  · have hjl' : (j : Int) < xs.length := by omega
    have hr := row_at encAd (xs := xs) (j := j) hjl
    have hx := hok j hjl
    have hbx := ad_bd hx
    have hon2 : o < υ.next := by omega
    have htk : (adds n xs).take (j + 1) = (adds n xs).take j ++ [adV n (nth xs j)] := by
      rw [← adds_nth hjl, take_succ_nth (by rw [adds_len]; exact hjl)]
    have htl : ((adds n xs).take j).length = j := by rw [List.length_take, adds_len]; omega
    generalize hy : nth xs j = y at *
    have hry : (eAd y).cells = [eAd y] := by cases y <;> rfl
    have hrc := row_cell encAd (xs := xs) (j := j) (c := 0) hjl (by decide)
    rw [hy, hry, Nat.mul_one, Nat.add_zero] at hrc
    have hr2 : ∀ h : j < (rowOf eAd xs).length, (rowOf eAd xs)[j] = eAd y := fun h => (List.getElem?_eq_some_iff.1 hrc).2
    have hj1 : j + 1 ≤ xs.length := hjl
    cases y with
    | fx s =>
      simp (disch := omega) [Und, hjl, hjl', hgo, hrl, hr2, hon2, hj1, eAd, -Bool.exists_bool]
      refine hb.push encSpan (by omega) (by omega) s (by simp only [topBytes]; omega) rfl fun v' τ g1 g2 => ?_
      have gl := g2.lim
      have gn := g2.next
      simp (disch := omega) [-Bool.exists_bool]
      exact ⟨k - 1, by omega, j + 1, by omega, v', ⟨rfl, by omega⟩, ⟨by omega, by omega, fun q hq h => (g2.get q (by omega)).trans (hO.get q hq h)⟩, by omega, (g2.get _ (by omega)).trans hz, by rw [htk]; exact g1⟩
    | tb st nl T =>
      have ht := table_ok nl st T n hx.1 hx.2.1 hx.2.2.1 hx.2.2.2.1 hx.2.2.2.2
      simp (disch := omega) [Und, hjl, hjl', hgo, hrl, hr2, hon2, hj1, eAd, ht, -Bool.exists_bool]
      refine hb.push encSpan (by omega) (by omega) (tabV st T n) (by simp only [topBytes]; omega) rfl fun v' τ g1 g2 => ?_
      have gl := g2.lim
      have gn := g2.next
      simp (disch := omega) [-Bool.exists_bool]
      exact ⟨k - 1, by omega, j + 1, by omega, v', ⟨rfl, by omega⟩, ⟨by omega, by omega, fun q hq h => (g2.get q (by omega)).trans (hO.get q hq h)⟩, by omega, (g2.get _ (by omega)).trans hz, by rw [htk]; exact g1⟩
  · obtain rfl : j = xs.length := by omega
    simp (disch := omega) [Und, -Bool.exists_bool]
    rw [List.take_of_length_le (by rw [adds_len]; exact Nat.le_refl _)] at hb
    have hsu := sum_ok (adds n xs).isEmpty (adds n xs) (by rw [adds_len]; omega) (fun j hj => by rw [adds_len] at hj; rw [adds_nth hj]; exact ad_bd (hok j hj))
    rw [adds_len] at hsu
    refine hb.call encSpan flatSp (by omega) (oo (args := []) (by decide)).1 hsu fun τ hτ => ?_
    have t1 := hτ.lim
    have t2 := hτ.next
    have t3 : τ.get σ.next = some (.cells [.int .i64 0, .int .i64 0]) := (hτ.get _ hn fun h => by have := (hb.obj_lt _ h).1; omega).trans hz
    have t4 : σ.next < τ.next := by omega
    have t5 : τ.lim ≤ σ.next := by omega
    simp (disch := omega) [Und, t3, t4, t5, eSpan, -Bool.exists_bool]
    exact hK _ ⟨by show τ.lim = σ.lim; omega, by show σ.next ≤ τ.next; omega, fun q hq h => by
      rw [AH.get_set_other _ _ _ _ (by omega)]
      exact (hτ.get q (by omega) fun h => by have := (hb.obj_lt _ h).1; omega).trans (hO.get q hq h)⟩
/-- What Read adds up. -/
def readL (s : Sext) (nT : Bool) (n sh : Int) : List Ad := read0 s sh s.sh.length ++ [.fx ⟨s.il, s.ih⟩, .tb s.step nT s.tab, .fx ⟨n, n⟩]
def readV (s : Sext) (nT : Bool) (n sh : Int) : Span := totS (adds n (readL s nT n sh)) (readL s nT n sh).length
/-- When a reading is one. -/
def isRd (s : Sext) (n sh : Int) : Prop := (0 ≤ n ∧ n ≤ s.step * ((s.tab.length : Int) - 1)) ∧ 0 ≤ sh ∧ sh ≤ ((2 ^ s.sh.length : Nat) : Int) - 1
instance (s : Sext) (n sh : Int) : Decidable (isRd s n sh) := by unfold isRd; infer_instance
theorem shades_ok {S : List Span} (hS : allM 120 S) (hl : S.length ≤ 6) (n s : Int) : ∀ i, i ≤ S.length → ∀ x ∈ shades S s i, okAd n x
  | 0, _, x, hx => by cases hx
  | i + 1, hi, x, hx => by
    simp only [shades, List.mem_append] at hx
    rcases hx with hx | hx
    · exact shades_ok hS hl n s i (by omega) x hx
    · split at hx
      · obtain rfl := List.mem_singleton.1 hx
        have := hS i (by omega)
        unfold inM at this
        show bdS _
        unfold bdS
        omega
      · cases hx
theorem readL_len (s : Sext) (nT : Bool) (n sh : Int) (hs : okS s) : (readL s nT n sh).length ≤ 10 := by
  have := shades_len s.sh sh s.sh.length
  have := hs.shl
  simp only [readL, read0, List.length_append, List.length_cons, List.length_nil]
  omega
theorem read0_ok {s : Sext} (hs : okS s) (n sh : Int) : ∀ x ∈ read0 s sh s.sh.length, okAd n x := fun x hx => by
  rcases List.mem_cons.1 hx with rfl | hx
  · have := hs.wrong
    show bdS _
    unfold bdS
    simp only
    omega
  · exact shades_ok hs.sh hs.shl n sh _ (Nat.le_refl _) x hx
theorem readL_ok {s : Sext} {nT : Bool} {n sh : Int} (hs : okS s) (hr : isRd s n sh) : ∀ x ∈ readL s nT n sh, okAd n x := fun x hx => by
  have h1 := hr.1
  have h2 := hs.long
  have h3 := hs.idx
  rcases List.mem_append.1 hx with hx | hx
  · exact read0_ok hs n sh x hx
  · simp only [List.mem_cons, List.not_mem_nil, or_false] at hx
    rcases hx with rfl | rfl | rfl
    · show bdS _
      unfold bdS
      simp only
      omega
    · exact ⟨hs.step, hs.len.2, hs.tab, h1.1, h1.2⟩
    · show bdS _
      unfold bdS
      simp only
      omega
theorem truth_ok (nT nS : Bool) (s : Sext) (n sh : Int) (hs : okS s) (hr : isRd s n sh) : ans prog O 44 [eSx nT nS s, .agg [.int .i64 n, .int .i64 sh]] = some (eSpan (readV s nT n sh)) := by
  have hl := readL_len s nT n sh hs
  have hok := readL_ok (nT := nT) hs hr
  refine fn_of' pl get44 (oo (by decide)) rfl rfl ?_
  simp (disch := omega) [-Bool.exists_bool]
  refine reading_call nT nS s sh hs (by simp) fun v σ1 g1 g2 => ?_
  have n2 := g2.next
  have l2 := g2.lim
  have c0 := g2.get 0 (by simp) (by simp)
  have c1 := g2.get 1 (by simp) (by simp)
  have c2 := g2.get 2 (by simp) (by simp)
  simp at n2 l2 c0 c1 c2
  simp (disch := omega) [c0, c1, c2, l2, n2, -Bool.exists_bool]
  refine ⟨⟨rfl, rfl⟩, ⟨rfl, rfl, Nat.le_of_ble_eq_true rfl⟩, ⟨rfl, rfl, Nat.le_of_ble_eq_true rfl⟩, ?_⟩
  have h6 := shades_len s.sh sh s.sh.length
  have h7 := hs.shl
  have hX : Whole 3 1 eAd ((σ1.under 0).push (.cells [eAd (.fx ⟨s.il, s.ih⟩), eAd (.tb s.step nT s.tab), eAd (.fx ⟨n, n⟩)])) v (read0 s sh s.sh.length) := by
    obtain ⟨i, c, rfl, i1, i2, i3⟩ := g1
    have := AH.get_lt i2
    exact ⟨i, c, rfl, i1, by rw [AH.get_push_old _ _ _ (by show i ≠ σ1.next; omega)]; exact i2, i3⟩
  refine hX.app (ys := [.fx ⟨s.il, s.ih⟩, .tb s.step nT s.tab, .fx ⟨n, n⟩]) encAd (by simp) (by show 3 ≤ σ1.next + 1; omega) rfl ?_ ?_ fun v' τ g3 g4 => ?_
  · simp [srcOf, cellsAt, rowOf, eAd]
    rfl
  · simp only [read0, List.length_cons, List.length_nil, topBytes]; omega
  have n4 := g4.next
  have l4 := g4.lim
  simp at n4 l4
  have old : ∀ q, q < 3 → τ.get q = σ1.get q := fun q hq => by rw [g4.get q hq, AH.get_push_old _ _ _ (by show q ≠ σ1.next; omega)]; rfl
  have d1 := (old 1 (by omega)).trans c1
  have d2 := (old 2 (by omega)).trans c2
  simp (disch := omega) [d1, d2, l4, n4, -Bool.exists_bool]
  refine added_call g3 (by show (readL s nT n sh).length ≤ 100; omega) (by omega) (fun j hj => hok _ (nth_mem hj)) fun ω hω => ?_
  have w1 := hω.lim
  have w2 := hω.next
  have w3 := (hω.get 2 (by omega) (by simp)).trans d2
  have w4 : 2 < ω.next := by omega
  have eV : readV s nT n sh = totS (adds n (read0 s sh s.sh.length ++ [.fx ⟨s.il, s.ih⟩, .tb s.step nT s.tab, .fx ⟨n, n⟩])) ((read0 s sh s.sh.length).length + 3) := by unfold readV readL; simp
  simp (disch := omega) [w1, w2, w3, w4, l4, eSpan, ← eV, -Bool.exists_bool]
@[simp] theorem last_ok (nT nS : Bool) (s : Sext) (hs : okS s) : ans prog O 91 [eSx nT nS s] = some (.int .i64 (s.step * ((s.tab.length : Int) - 1))) := by
  have h1 := hs.step
  have h2 := hs.len
  have h3 := hs.long
  have h4 := Int.mul_nonneg (show 0 ≤ s.step by omega) (show 0 ≤ (s.tab.length : Int) - 1 by omega)
  refine fn_of' pl get91 (oo (by decide)) rfl rfl ?_
  simp (disch := omega) [Und, -Bool.exists_bool]
theorem abin_shl1 (n : Nat) (h : n ≤ 62) : abin .shl (.int .i64 1) (.int .i64 (n : Int)) = some (.int .i64 ((2 ^ n : Nat) : Int)) := by
  have e : min ((n : Int).toNat) (IntKind.bits .i64) = n := by rw [Int.toNat_natCast]; exact Nat.min_eq_left (by show n ≤ 64; omega)
  have h2 : (2 : Nat) ^ n ≤ 2 ^ 62 := Nat.pow_le_pow_right (by decide) h
  have e2 : wr .i64 (1 * 2 ^ n) = ((2 ^ n : Nat) : Int) := by
    have e3 : (1 : Int) * 2 ^ n = ((2 ^ n : Nat) : Int) := by simp
    rw [e3]
    have h3 : (((2 ^ n : Nat) : Int)) ≤ ((2 ^ 62 : Nat) : Int) := Int.ofNat_le.2 h2
    have h4 : (0 : Int) ≤ ((2 ^ n : Nat) : Int) := Int.natCast_nonneg _
    generalize ((2 ^ n : Nat) : Int) = p at h3 h4 ⊢
    unfold wr
    simp only
    rw [if_pos (by omega)]
  simp only [abin, e]
  rw [if_neg (by omega), e2]
@[simp] theorem isReading_ok (nT nS : Bool) (s : Sext) (n sh : Int) (hs : okS s) : ans prog O 43 [eSx nT nS s, .agg [.int .i64 n, .int .i64 sh]] = some (.bool (decide (isRd s n sh))) := by
  have h7 := hs.shl
  have hp := abin_shl1 s.sh.length (by omega)
  obtain ⟨p, hpp, p1, p2⟩ : ∃ p : Nat, p = 2 ^ s.sh.length ∧ 1 ≤ p ∧ p ≤ 2 ^ 6 := ⟨_, rfl, Nat.one_le_two_pow, Nat.pow_le_pow_right (by decide) h7⟩
  rw [← hpp] at hp
  have hla := last_ok nT nS s hs
  generalize hL : s.step * ((s.tab.length : Int) - 1) = L at *
  refine fn_of' pl get43 (oo (by decide)) rfl rfl ?_
  have hd : isRd s n sh ↔ (0 ≤ n ∧ n ≤ L) ∧ 0 ≤ sh ∧ sh ≤ (p : Int) - 1 := by unfold isRd; rw [hL, hpp]
  by_cases c1 : 0 ≤ n ∧ n ≤ L
  · by_cases c2 : 0 ≤ sh ∧ sh ≤ (p : Int) - 1
    · rw [decide_eq_true (hd.2 ⟨c1, c2⟩)]
      simp (disch := omega) [Und, hla, hp, eq_true c1, eq_true c2, -Bool.exists_bool]
    · rw [decide_eq_false fun h => c2 (hd.1 h).2]
      simp (disch := omega) [Und, hla, hp, eq_true c1, eq_false c2, -Bool.exists_bool]
  · rw [decide_eq_false fun h => c1 (hd.1 h).1]
    simp (disch := omega) [Und, hla, hp, eq_false c1, -Bool.exists_bool]
/-- What Read answers. -/
inductive ReadV (s : Sext) (nT : Bool) (n sh : Int) : AV → Prop
  | bad (e : Int) : e ≠ 0 → ReadV s nT n sh (.tuple [.agg [.int .i64 0, .int .i64 0], .int .i64 e])
  | ok : okS s → isRd s n sh → ReadV s nT n sh (.tuple [.agg [.int .i64 (readV s nT n sh).lo, .int .i64 (readV s nT n sh).hi], .int .i64 0])
theorem Read_ok (nT nS : Bool) (s : Sext) (n sh : Int) (hT : s.tab.length < 2 ^ 62) (hS : s.sh.length < 2 ^ 62) : ∃ v, ReadV s nT n sh v ∧ ans prog O 14 [eSx nT nS s, .agg [.int .i64 n, .int .i64 sh]] = some v := by
  have hck := Check_ok nT nS s hT hS
  by_cases hs : okS s
  · rw [if_pos hs] at hck
    have hi := isReading_ok nT nS s n sh hs
    by_cases hr : isRd s n sh
    · rw [decide_eq_true hr] at hi
      have ht := truth_ok nT nS s n sh hs hr
      refine ⟨_, .ok hs hr, ?_⟩
      refine fn_of' pl get14 (oo (by decide)) rfl rfl ?_
      simp (disch := omega) [Und, hck, hi, ht, eSpan, -Bool.exists_bool, -Check_ok]
    · rw [decide_eq_false hr] at hi
      refine ⟨_, .bad 51 (by decide), ?_⟩
      refine fn_of' pl get14 (oo (by decide)) rfl rfl ?_
      simp (disch := omega) [Und, hck, hi, -Bool.exists_bool, -Check_ok]
  · rw [if_neg hs] at hck
    refine ⟨_, .bad 50 (by decide), ?_⟩
    refine fn_of' pl get14 (oo (by decide)) rfl rfl ?_
    simp (disch := omega) [Und, hck, -Bool.exists_bool, -Check_ok]
end Go.Oct.Cry.Sx
