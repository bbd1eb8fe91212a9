/- FixBest: the sight that should be taken next, as the program finds it. -/
import Derived.Test.YtddclpecmjibkaaDoorOFixWorW
set_option maxRecDepth 100000
set_option maxHeartbeats 8000000
set_option linter.unusedVariables false
set_option linter.unusedSimpArgs false
namespace Go.Oct.Fix
open Go.Oct
@[simp] theorem aidx_ask {nl : Bool} {xs : List Ask} (q : IntKind) (i : Int) : aidx 3 (vl eAsk nl xs) (.int q i) = if 0 ≤ i ∧ i < (xs.length : Int) then some (.vptr [.int .i64 (nth xs i.toNat).a, .int .i64 (nth xs i.toNat).b, .int .i64 (nth xs i.toNat).w] 0) else none :=
  aidx_vl (e := eAsk) (fun _ => rfl) q i
theorem IndexFuncN_ok (nl : Bool) (xs : List Ask) (hx : xs.length < 2 ^ 62) (g : Nat) (cs ds : List AV) (hg : pl.contains g = false) (hc : cs.all (closed 7) = true) (hd : ds.all (closed 7) = true) (hc8 : cs.all (closed 8) = true) (hd8 : ds.all (closed 8) = true) (P : Ask → Bool)
    (h : ∀ j, j < xs.length → ans prog O g (cs ++ eAsk (nth xs j) :: ds) = some (.bool (P (nth xs j)))) :
    ∃ n : Int, ans prog O 100 [vl eAsk nl xs, .func (.func g) cs ds] = some (.int .i64 n) ∧ (0 ≤ n ↔ ∃ j, j < xs.length ∧ P (nth xs j) = true) ∧ -1 ≤ n := by
  have key : ∀ n : Int, (n = -1 ∧ (∀ j, j < xs.length → P (nth xs j) = false) ∨ (∃ i, n = (i : Nat) ∧ i < xs.length ∧ P (nth xs i) = true ∧ ∀ j, j < i → P (nth xs j) = false)) →
      ans prog O 100 [vl eAsk nl xs, .func (.func g) cs ds] = some (.int .i64 n) := by
    intro n hn
    refine fn_of' pl get100 (oo (by decide)) (by simp [hc, hd]) rfl ?_
    simp +contextual (disch := omega) []
    refine lp_count pl xs.length (fun j => [(0, vl eAsk nl xs), (1, .func (.func g) cs ds), (7, .int .i64 xs.length), (8, .int .i64 j)]) (fun _ => ⟨0, 0, .leaf⟩) (fun j => ∀ i, i < j → P (nth xs i) = false) (by simp) ?_
    intro j hj hi
    have hg' := hg
    simp at hg'
    simp only [eAsk] at h
    simp +contextual (disch := omega) [Und, hg', hc8, hd8, h]
    refine ⟨fun hjl => ⟨fun hp => ?_, fun hp i h1 => ?_⟩, fun hjl => ?_⟩
    · rcases hn with ⟨_, h2⟩ | ⟨i, h1, h2, h3, h4⟩
      · rw [h2 j hjl] at hp; cases hp
      · have : i = j := by
          rcases Nat.lt_trichotomy i j with h5 | h5 | h5
          · rw [hi i h5] at h3; cases h3
          · exact h5
          · rw [h4 j h5] at hp; cases hp
        omega
    · by_cases e : i = j
      · rw [e]; exact hp
      · exact hi i (by omega)
    · rcases hn with ⟨h1, _⟩ | ⟨i, h1, h2, h3, h4⟩
      · omega
      · rw [hi i (by omega)] at h3; cases h3
  by_cases hex : ∃ j, j < xs.length ∧ P (nth xs j) = true
  · have hmin : ∀ m j, j ≤ m → j < xs.length → P (nth xs j) = true → ∃ i, i < xs.length ∧ P (nth xs i) = true ∧ ∀ j, j < i → P (nth xs j) = false := by
      intro m
      induction m with
      | zero => intro j h1 h2 h3; exact ⟨j, h2, h3, fun i hi => by omega⟩
      | succ m ih =>
        intro j h1 h2 h3
        by_cases hb : ∃ i, i < j ∧ P (nth xs i) = true
        · obtain ⟨i, h4, h5⟩ := hb
          exact ih i (by omega) (by omega) h5
        · refine ⟨j, h2, h3, fun i hi => ?_⟩
          cases hq : P (nth xs i) with
          | false => rfl
          | true => exact absurd ⟨i, hi, hq⟩ hb
    obtain ⟨j, h1, h2⟩ := hex
    obtain ⟨i, h3, h4, h5⟩ := hmin j j (Nat.le_refl _) h1 h2
    exact ⟨i, key _ (.inr ⟨i, rfl, h3, h4, h5⟩), ⟨fun _ => ⟨j, h1, h2⟩, fun _ => by omega⟩, by omega⟩
  · refine ⟨-1, key _ (.inl ⟨rfl, fun j hj => ?_⟩), ⟨fun h => by omega, fun h => absurd h hex⟩, by omega⟩
    cases hq : P (nth xs j) with
    | false => rfl
    | true => exact absurd ⟨j, hj, hq⟩ hex
theorem ContainsFuncN_ok (nl : Bool) (xs : List Ask) (hx : xs.length < 2 ^ 62) (g : Nat) (cs ds : List AV) (hg : pl.contains g = false) (hc : cs.all (closed 7) = true) (hd : ds.all (closed 7) = true) (hc8 : cs.all (closed 8) = true) (hd8 : ds.all (closed 8) = true) (P : Ask → Bool)
    (h : ∀ j, j < xs.length → ans prog O g (cs ++ eAsk (nth xs j) :: ds) = some (.bool (P (nth xs j)))) :
    ans prog O 77 [vl eAsk nl xs, .func (.func g) cs ds] = some (.bool (decide (∃ j, j < xs.length ∧ P (nth xs j) = true))) := by
  obtain ⟨n, h1, h2, h3⟩ := IndexFuncN_ok nl xs hx g cs ds hg hc hd hc8 hd8 P h
  refine fn_of' pl get77 (oo (by decide)) (by simp [hc, hd]) rfl ?_
  simp +contextual (disch := omega) [h1, hc, hd, h2]
instance (x : Ask) : Decidable (okAsk x) := by unfold okAsk; infer_instance
theorem Next1_ok (x : Ask) : ans prog O 78 [eAsk x] = some (.bool (!decide (okAsk x))) := by
  have hl := isLine_ok x.a x.b
  refine fn_of' pl get78 (oo (by decide)) rfl rfl ?_
  by_cases h1 : okLine x.a x.b
  · rw [decide_eq_true h1] at hl
    by_cases h2 : 0 ≤ x.w ∧ x.w ≤ 1000
    · have h : okAsk x := ⟨h1, h2⟩
      simp (disch := omega) [eAsk, hl, eq_true h2, h, Und, -Bool.exists_bool]
    · have h : ¬ okAsk x := fun h => h2 h.2
      simp (disch := omega) [eAsk, hl, eq_false h2, h, Und, -Bool.exists_bool]
  · rw [decide_eq_false h1] at hl
    have h : ¬ okAsk x := fun h => h1 h.1
    simp (disch := omega) [eAsk, hl, h, Und, -Bool.exists_bool]
/-- How many points a sight leaves at most. -/
def worA (V : List Span) (x : Ask) : Nat := mostW (V.map (valA x)) (2 * x.w) (V.map (valA x))
/-- The best of the first sights. -/
def bestA (V : List Span) (A : List Ask) : Nat → Nat × Nat
  | 0 => (0, 0)
  | i + 1 => if i = 0 ∨ worA V (nth A i) < (bestA V A i).2 then (i, worA V (nth A i)) else bestA V A i
def okAsks (A : List Ask) : Prop := (1 ≤ A.length ∧ A.length ≤ 8) ∧ ∀ j, j < A.length → okAsk (nth A j)
open Classical in
noncomputable def nextV (E N : Span) (S : List Stp) (A : List Ask) : AV :=
  if okLog E N S then (if okAsks A then (if ptsL (canR E N S) = [] then .tuple [.int .i64 0, .int .i64 0, .int .i64 4] else .tuple [.int .i64 (bestA (ptsL (canR E N S)) A A.length).1, .int .i64 (bestA (ptsL (canR E N S)) A A.length).2, .int .i64 0]) else .tuple [.int .i64 0, .int .i64 0, .int .i64 81]) else .tuple [.int .i64 0, .int .i64 0, .int .i64 80]
theorem Next_ok (E N : Span) (nS : Bool) (S : List Stp) (nA : Bool) (A : List Ask) (hz : szLog S) (hA : A.length < 2 ^ 62) : ans prog O 29 [eLog E N nS S, vl eAsk nA A] = some (nextV E N S A) := by
  have hcf := ContainsFuncN_ok nA A hA 78 [] [] (by decide) rfl rfl rfl rfl (fun x => !decide (okAsk x)) (fun j hj => Next1_ok (nth A j))
  refine fn_of' pl get29 (oo (by decide)) rfl rfl ?_
  by_cases hok : okLog E N S
  · obtain ⟨v, rfl, hlog⟩ := logOf_ok E N nS S hz hok
    unfold nextV
    rw [if_pos hok]
    unfold eLog at hlog
    by_cases hl : 1 ≤ A.length ∧ A.length ≤ 8
    · have hl' : 1 ≤ (A.length : Int) ∧ (A.length : Int) ≤ 8 := by omega
      by_cases ha : ∀ j, j < A.length → okAsk (nth A j)
      · have hcf2 : ¬ ∃ j, j < A.length ∧ (!decide (okAsk (nth A j))) = true := fun ⟨j, h1, h2⟩ => by
          rw [decide_eq_true (ha j h1)] at h2; cases h2
        rw [decide_eq_false hcf2] at hcf
        rw [if_pos (show okAsks A from ⟨hl, ha⟩)]
        simp (disch := omega) [eLog, hlog, eq_true hl', hcf, Und, -Bool.exists_bool]
        refine last_call hok.2.2.1 fun σ' ho => ?_
        have ol := ho.lim
        cases hs : sameSea (canR E N S) fun _ => false
        · have hne := ptsL_ne hs
          rw [if_neg hne]
          have hs' : sameSea (can E N (rns S) (sgs S S.length) (rns S).length) (fun _ => false) = false := hs
          simp (disch := omega) [hs', ol, Und, -Bool.exists_bool]
          obtain ⟨V, hV⟩ : ∃ V, V = ptsL (canR E N S) := ⟨_, rfl⟩
          rw [← hV]
          refine lp_loop pl (fun k fr σ => ∃ i : Nat, i + k = A.length ∧ fr = ⟨[(4, .int .i64 (bestA V A i).1), (5, .int .i64 (bestA V A i).2), (10, .func (.func 80) [eSea (can E N (rns S) (sgs S S.length) (rns S).length)] []), (39, vl eAsk nA A), (40, .int .i64 A.length), (41, .int .i64 i)], []⟩ ∧ σ.lim = 0)
            ⟨A.length, 0, by omega, rfl, ol⟩ ?_
          rintro k _ σ ⟨i, hi, rfl, s0⟩
          by_cases hiA : i < A.length
          · have hiA' : (i : Int) < A.length := by omega
            simp (disch := omega) [Und, eqf1, eqf2, s0, hiA, hiA', ltT, -Bool.exists_bool]
            refine worst_call (can E N (rns S) (sgs S S.length) (rns S).length) (nth A i) (ha i hiA) (by exact s0) fun τ o2 => ?_
            rw [← hV]
            have hwo : mostW (V.map (valA (nth A i))) (2 * (nth A i).w) (V.map (valA (nth A i))) = worA V (nth A i) := rfl
            rw [hwo]
            have t0 : τ.lim = 0 := o2.lim.trans s0
            by_cases h1 : i = 0
            · subst h1
              simp (disch := omega) [Und, t0, -Bool.exists_bool]
              exact ⟨k - 1, by omega, 1, by omega, by simp [bestA], by simp [bestA], by omega⟩
            · have h1' : ¬ (i : Int) = 0 := by omega
              by_cases h2 : worA V (nth A i) < (bestA V A i).2
              · have h2' : (worA V (nth A i) : Int) < (bestA V A i).2 := by omega
                simp (disch := omega) [Und, t0, h1, h1', h2, h2', -Bool.exists_bool]
                have hb : bestA V A (i + 1) = (i, worA V (nth A i)) := by simp only [bestA]; rw [if_pos (.inr h2)]
                exact ⟨k - 1, by omega, i + 1, by omega, by rw [hb], by rw [hb], by omega⟩
              · have h2' : ¬ (worA V (nth A i) : Int) < (bestA V A i).2 := by omega
                simp (disch := omega) [Und, t0, h1, h1', h2, h2', -Bool.exists_bool]
                have hb : bestA V A (i + 1) = bestA V A i := by simp only [bestA]; rw [if_neg (by omega)]
                exact ⟨k - 1, by omega, i + 1, by omega, by rw [hb], by rw [hb], by omega⟩
          · obtain rfl : i = A.length := by omega
            simp (disch := omega) [Und, s0, -Bool.exists_bool]
        · have hs' : sameSea (can E N (rns S) (sgs S S.length) (rns S).length) (fun _ => false) = true := hs
          rw [if_pos (ptsL_nil hs)]
          simp (disch := omega) [hs', ol, Und, -Bool.exists_bool]
      · have hcf2 : ∃ j, j < A.length ∧ (!decide (okAsk (nth A j))) = true := by
          obtain ⟨j, h⟩ := Classical.not_forall.1 ha
          obtain ⟨h1, h2⟩ := Classical.not_imp.1 h
          exact ⟨j, h1, by rw [decide_eq_false h2]; rfl⟩
        rw [decide_eq_true hcf2] at hcf
        rw [if_neg (fun h : okAsks A => ha h.2)]
        simp (disch := omega) [eLog, hlog, eq_true hl', hcf, Und, -Bool.exists_bool]
    · have hl' : ¬ (1 ≤ (A.length : Int) ∧ (A.length : Int) ≤ 8) := by omega
      rw [if_neg (fun h : okAsks A => hl h.1)]
      simp (disch := omega) [eLog, hlog, eq_false hl', Und, -Bool.exists_bool]
  · have h1 := logOf_bad E N nS S hz hok
    unfold nextV
    rw [if_neg hok]
    unfold eLog at h1
    simp (disch := omega) [eLog, h1, Und, -Bool.exists_bool]
end Go.Oct.Fix
