/- The references of the screws: Asked, Truth, Spans, Suspects; and what compares them. -/
import Derived.Test.YtcbiofokeadddaaOScrewCmpP
set_option maxRecDepth 100000
set_option maxHeartbeats 4000000
set_option linter.unusedVariables false
set_option linter.unusedSimpArgs false
namespace Go.Oct.Screw
open Go.Oct
@[simp] theorem AskedR_ok (nT nl : Bool) (T : List Int) (M : Int) (l : List Rd) (hT : T.length < 2 ^ 62) (hl : l.length < 2 ^ 62) : ans prog O 75 [eSet nT T M, vl eRd nl l] = some (.int .i64 (askE T M l)) := by
  refine fn_of' pl get75 (oo (by decide)) rfl rfl ?_
  simp (disch := omega) [Und, -Bool.exists_bool]
  refine lp_loop pl (fun k fr σ => ∃ (i : Nat) (ok : Bool), i + k = T.length ∧ fr = ⟨[(1, vl eRd nl l), (2, .ptr (some (0, 0))), (5, .bool ok), (6, .int .i64 i)], []⟩ ∧ σ.lim = 0 ∧ σ.next = 1 ∧ σ.get 0 = some (.cells [vs nT T, .int .i64 M]) ∧
      (ok = true → ((1 ≤ (T.length : Int) ∧ (T.length : Int) ≤ 4) ∧ 0 ≤ M ∧ M ≤ 100000) ∧ ∀ j, j < i → 1 ≤ nth T j ∧ nth T j ≤ 8) ∧ (ok = false → ¬ okSet T M))
    ⟨T.length, 0, _, by omega, rfl, rfl, rfl, by simp, fun h => ⟨by simpa using h, fun j hj => by omega⟩, fun h hs => by have := hs.1; simp at h; omega⟩ ?_
  rintro k _ σ ⟨i, ok, hk, rfl, hlim, hnx, hg, h1, h0⟩
  cases ok with
  | false =>
    have hns := h0 rfl
    have e : askE T M l = 23 := by unfold askE; rw [if_neg hns]
    simp (disch := omega) [Und, hlim, hnx, hg, e]
  | true =>
    obtain ⟨h2, h3⟩ := h1 rfl
    by_cases hi : i < T.length
    · have hi2 : (i : Int) < T.length := by omega
      simp (disch := omega) [Und, hlim, hnx, hg, hi, hi2, -Bool.exists_bool]
      refine ⟨k - 1, by omega, i + 1, by omega, _, ⟨rfl, by omega⟩, fun h => ⟨h2, fun j hj => ?_⟩, fun h hs => ?_⟩
      · by_cases e : j = i
        · subst e; simpa using h
        · exact h3 j (by omega)
      · have := hs.2 i hi
        simp at h
        omega
    · obtain rfl : i = T.length := by omega
      have hs : okSet T M := ⟨h2, h3⟩
      simp (disch := omega) [Und, hlim, hnx, hg, -Bool.exists_bool]
      refine lp_loop pl (fun k fr σ => ∃ (i : Nat) (ok : Bool), i + k = l.length ∧ fr = ⟨[(1, vl eRd nl l), (2, .ptr (some (0, 0))), (5, .bool ok), (7, .int .i64 i)], []⟩ ∧ σ.lim = 0 ∧ 1 ≤ σ.next ∧ σ.get 0 = some (.cells [vs nT T, .int .i64 M]) ∧
          (ok = true → (l.length : Int) ≤ 24 ∧ ∀ j, j < i → okRd T (nth l j)) ∧ (ok = false → ¬ ((l.length : Int) ≤ 24 ∧ okRds T l)))
        ⟨l.length, 0, _, by omega, rfl, by simp [hlim], by simp [hnx], by simp [hg], fun h => ⟨by simpa using h, fun j hj => by omega⟩, fun h hs => by have := hs.1; simp at h; omega⟩ ?_
      rintro k2 _ σ2 ⟨i, ok, hk2, rfl, hlim2, hnx2, hg2, h1', h0'⟩
      cases ok with
      | false =>
        have e : askE T M l = 24 := by unfold askE; rw [if_pos hs, if_neg (h0' rfl)]
        simp (disch := omega) [Und, e]
      | true =>
        obtain ⟨h5, h6⟩ := h1' rfl
        by_cases hi : i < l.length
        · have hi2 : (i : Int) < l.length := by omega
          have hne : (0 = σ2.next) = False := by simp; omega
          simp (disch := omega) [Und, hlim2, hg2, hi, hi2, hne, -Bool.exists_bool]
          refine ⟨by intros; omega, by intros; omega, k2 - 1, by omega, i + 1, by omega, _, ⟨rfl, by omega⟩, fun h => ⟨h5, fun j hj => ?_⟩, fun h _ hs => ?_⟩
          · by_cases e : j = i
            · subst e
              simp at h
              unfold okRd
              omega
            · exact h6 j (by omega)
          · have hri := hs i hi
            unfold okRd at hri
            simp at h
            omega
        · obtain rfl : i = l.length := by omega
          have e : askE T M l = 0 := by unfold askE; rw [if_pos hs, if_pos ⟨h5, h6⟩]
          simp (disch := omega) [Und, e]
theorem row_in (M n : Int) : (decide (-M ≤ n) && decide (n ≤ M)) = decide (-M ≤ n ∧ n ≤ M) := by rw [Bool.eq_iff_iff]; simp
theorem TruthR_ok (nT nl nE : Bool) (T : List Int) (M : Int) (l : List Rd) (E : Rows) (hT : T.length < 2 ^ 62) (hl : l.length < 2 ^ 62) (hE : List.length E < 2 ^ 62) (hEr : ∀ i, i < List.length E → (nth E i).2.length < 2 ^ 62) :
    ans prog O 26 [eSet nT T M, vl eRd nl l, vl eRow nE E] = some (truthV T M l E) := by
  by_cases ha : askE T M l = 0
  · obtain ⟨hs, hl24, hr⟩ := okay_ask ha
    have hM := hs.1.2
    have hv : truthV T M l E = .tuple [.bool (decide (truthP T M l E)), .int .i64 0] := by unfold truthV; rw [ha]; simp
    rw [hv]
    refine fn_of' pl get26 (oo (by decide)) rfl rfl ?_
    simp (disch := omega) [Und, ha, -Bool.exists_bool]
    refine lp_loop pl (fun k fr σ => ∃ (i : Nat) (ok : Bool), i + k = List.length E ∧ fr = ⟨[(1, vl eRd nl l), (2, vl eRow nE E), (3, .ptr (some (0, 0))), (9, .bool ok), (10, .int .i64 i)], []⟩ ∧ σ.lim = 0 ∧ σ.next = 1 ∧ σ.get 0 = some (.cells [vs nT T, .int .i64 M]) ∧
        (ok = true → List.length E = T.length ∧ ∀ j, j < i → rowOK M (nth T j) (nth E j).2) ∧ (ok = false → ¬ shapeOK T M E))
      ⟨List.length E, 0, _, by omega, rfl, rfl, rfl, by simp, fun h => ⟨by simp at h; omega, fun j hj => by omega⟩, fun h hs => by have := hs.1; simp at h; omega⟩ ?_
    rintro k _ σ ⟨i, ok, hk, rfl, hlim, hnx, hg, h1, h0⟩
    cases ok with
    | false =>
      have hns := h0 rfl
      have e : decide (truthP T M l E) = false := by rw [decide_eq_false]; exact fun h => hns h.1
      simp (disch := omega) [Und, e, -Bool.exists_bool]
      refine lp_loop pl (fun k fr σ => fr = ⟨[(1, vl eRd nl l), (2, vl eRow nE E), (9, .bool false), (12, .int .i64 0)], []⟩) ⟨0, rfl⟩ ?_
      rintro k2 _ σ2 rfl
      simp (disch := omega) [Und, e, -Bool.exists_bool]
    | true =>
      obtain ⟨h2, h3⟩ := h1 rfl
      by_cases hi : i < List.length E
      · have hi2 : (i : Int) < List.length E := by omega
        have hi3 : (i : Int) < T.length := by omega
        have hti := hs.2 i (by omega)
        have hri := hEr i hi
        simp (disch := omega) [Und, hlim, hnx, hg, hi, hi2, hi3, -Bool.exists_bool]
        refine ⟨by intros; omega, ?_⟩
        refine lp_loop pl (fun k fr σ' => ∃ (m : Nat) (ok : Bool), m + k = (nth E i).2.length ∧ fr = ⟨[(1, vl eRd nl l), (2, vl eRow nE E), (3, .ptr (some (0, 0))), (9, .bool ok), (10, .int .i64 i), (11, .int .i64 m)], []⟩ ∧ σ' = σ ∧
            (ok = true → (((nth E i).2.length : Int) = nth T i + 1 ∧ nth (nth E i).2 0 = 0) ∧ ∀ j, j < m → -M ≤ nth (nth E i).2 j ∧ nth (nth E i).2 j ≤ M) ∧ (ok = false → ¬ rowOK M (nth T i) (nth E i).2))
          ⟨(nth E i).2.length, 0, _, by omega, rfl, rfl, fun h => ⟨by simpa using h, fun j hj => by omega⟩, fun h hr => by have := hr.1; have := hr.2.1; simp at h; omega⟩ ?_
        rintro k2 _ _ ⟨m, ok, hk2, rfl, rfl, g1, g0⟩
        cases ok with
        | false =>
          have hnr := g0 rfl
          simp (disch := omega) [Und, hlim, hnx, hg, hi, hi2, hi3, -Bool.exists_bool]
          exact ⟨k - 1, by omega, i + 1, by omega, _, ⟨rfl, by omega⟩, fun h => by simp at h, fun _ hsh => hnr (hsh.2 i hi)⟩
        | true =>
          obtain ⟨g2, g3⟩ := g1 rfl
          by_cases hm : m < (nth E i).2.length
          · have hm2 : (m : Int) < (nth E i).2.length := by omega
            simp (disch := omega) [Und, hlim, hnx, hg, hi, hi2, hi3, hm, hm2, -Bool.exists_bool]
            refine ⟨k2 - 1, by omega, m + 1, by omega, _, ⟨rfl, by omega⟩, fun h => ⟨g2, fun j hj => ?_⟩, fun h hr => ?_⟩
            · by_cases e : j = m
              · subst e; simpa using h
              · exact g3 j (by omega)
            · have := hr.2.2 m hm
              simp at h
              omega
          · obtain rfl : m = (nth E i).2.length := by omega
            simp (disch := omega) [Und, hlim, hnx, hg, hi, hi2, hi3, -Bool.exists_bool]
            refine ⟨k - 1, by omega, i + 1, by omega, _, ⟨rfl, by omega⟩, fun _ => ⟨h2, fun j hj => ?_⟩, fun h => by simp at h⟩
            by_cases e : j = i
            · subst e; exact ⟨g2.1, g2.2, g3⟩
            · exact h3 j (by omega)
      · obtain rfl : i = List.length E := by omega
        have hsh : shapeOK T M E := ⟨h2, h3⟩
        simp (disch := omega) [Und, -Bool.exists_bool]
        refine lp_loop pl (fun k fr σ' => ∃ (m : Nat) (ok : Bool), m + k = l.length ∧ fr = ⟨[(1, vl eRd nl l), (2, vl eRow nE E), (9, .bool ok), (12, .int .i64 m)], []⟩ ∧ σ' = σ ∧
            (ok = true → ∀ j, j < m → Agree (errs E) (nth l j)) ∧ (ok = false → ¬ truthP T M l E))
          ⟨l.length, 0, _, by omega, rfl, rfl, fun h j hj => by omega, fun h => by simp at h⟩ ?_
        rintro k2 _ _ ⟨m, ok, hk2, rfl, rfl, g1, g0⟩
        cases ok with
        | false =>
          have e : decide (truthP T M l E) = false := by rw [decide_eq_false]; exact g0 rfl
          simp (disch := omega) [Und, e, -Bool.exists_bool]
        | true =>
          have g3 := g1 rfl
          by_cases hm : m < l.length
          · have hm2 : (m : Int) < l.length := by omega
            have hrm := hr m hm
            unfold okRd at hrm
            have hta := hs.2 (nth l m).a.toNat (by omega)
            have htb := hs.2 (nth l m).b.toNat (by omega)
            have hra := h3 (nth l m).a.toNat (by omega)
            have hrb := h3 (nth l m).b.toNat (by omega)
            have ba := hra.2.2 (nth l m).i.toNat (by have := hra.1; omega)
            have bb := hrb.2.2 (nth l m).j.toNat (by have := hrb.1; omega)
            have la := hra.1
            have lb := hrb.1
            have ea := errs_at (E := E) (a := (nth l m).a.toNat) (i := (nth l m).i.toNat) (by omega)
            have eb := errs_at (E := E) (a := (nth l m).b.toNat) (i := (nth l m).j.toNat) (by omega)
            simp (disch := omega) [Und, hm, hm2, -Bool.exists_bool]
            have hag : Agree (errs E) (nth l m) ↔ max (nth (nth E (nth l m).a.toNat).2 (nth l m).i.toNat - nth (nth E (nth l m).b.toNat).2 (nth l m).j.toNat - (nth l m).v) (-(nth (nth E (nth l m).a.toNat).2 (nth l m).i.toNat - nth (nth E (nth l m).b.toNat).2 (nth l m).j.toNat - (nth l m).v)) ≤ (nth l m).w := by
              unfold Agree ndA ndB
              rw [ea, eb]
              omega
            refine ⟨by omega, by omega, by omega, by omega, by omega, k2 - 1, by omega, m + 1, by omega, _, ⟨rfl, by omega⟩, fun h j hj => ?_, fun h ht => ?_⟩
            · by_cases e : j = m
              · subst e; exact hag.2 (by simpa using h)
              · exact g3 j (by omega)
            · have := hag.1 (ht.2 m hm)
              simp only [decide_eq_false_iff_not] at h
              exact h this
          · obtain rfl : m = l.length := by omega
            have e : decide (truthP T M l E) = true := by rw [decide_eq_true_eq]; exact ⟨hsh, g3⟩
            simp (disch := omega) [Und, e, -Bool.exists_bool]
  · have hv : truthV T M l E = .tuple [.bool false, .int .i64 (askE T M l)] := by
      unfold truthV; rw [decide_eq_false]; exact fun h => ha h.1
    rw [hv]
    refine fn_of' pl get26 (oo (by decide)) rfl rfl ?_
    simp (disch := omega) [Und, ha]
theorem SameSpans2_ok (na nb : Bool) (R : List (Bool × List Span)) (hR : R.length < 2 ^ 62) (hr : ∀ i, i < R.length → (nth R i).2.length < 2 ^ 62) : ans prog O 29 [vl eSpans na R, vl eSpans nb R] = some (.bool true) := by
  refine fn_of' pl get29 (oo (by decide)) rfl rfl ?_
  simp (disch := omega) [Und, -Bool.exists_bool]
  refine lp_loop pl (fun k fr σ => ∃ (i : Nat), i + k = R.length ∧ fr = ⟨[(0, vl eSpans na R), (1, vl eSpans nb R), (5, .bool true), (6, .int .i64 i)], []⟩)
    ⟨R.length, 0, by omega, by simp⟩ ?_
  rintro k _ σ ⟨i, hk, rfl⟩
  by_cases hi : i < R.length
  · have hi2 : (i : Int) < R.length := by omega
    have := hr i hi
    simp (disch := omega) [Und, hi, hi2, -Bool.exists_bool]
    exact ⟨k - 1, by omega, i + 1, by omega, by omega⟩
  · obtain rfl : i = R.length := by omega
    simp (disch := omega) [Und, -Bool.exists_bool]
theorem rowsC_len (N : Nat) (D : Mat) : (fr0 (rowsC N D)).length = N := by rw [fr0_len]; unfold rowsC; simp
theorem rowsC_nth {N : Nat} {D : Mat} {k : Nat} (h : k < N) : nth (fr0 (rowsC N D)) k = (false, rowC N (D k)) := by
  have hl : (rowsC N D).length = N := by unfold rowsC; simp
  rw [fr0_nth (by rw [hl]; exact h)]
  congr 1
  unfold rowsC
  rw [nth_eq (by simpa using h), List.getElem_map, List.getElem_range]
theorem SpansR_good (nT nl : Bool) (T : List Int) (M : Int) (l : List Rd) (hT : T.length < 2 ^ 62) (hl : l.length < 2 ^ 62) (ha : askE T M l = 0) (N : Nat) (hN : N = pre T T.length + 1) (D : Mat)
    (hf : ans prog O 79 [eSet nT T M, vl eRd nl l, .int .i64 (-1)] = some (.tuple [vl eRow false (fr0 (rowsC N D)), .bool true])) (hb : ∀ a b, a < N → b < N → -4294967296000000 ≤ D a b ∧ D a b ≤ 500000) :
    ans prog O 28 [eSet nT T M, vl eRd nl l] = some (.tuple [vl eSpans false (fr0 (spanRows T (fun c => -D 0 (nd T c)) (fun c => D (nd T c) 0) T.length)), .int .i64 0]) := by
  obtain ⟨hs, hl24, hr⟩ := okay_ask ha
  have hT4 : T.length ≤ 4 := by have := hs.1.1; omega
  have hT1 := hs.1.1.1
  have htn : ∀ i, i < T.length → (tn T i : Int) = nth T i ∧ 1 ≤ tn T i ∧ tn T i ≤ 8 := fun i hi => by have := hs.2 i hi; unfold tn; omega
  obtain ⟨lo, hlo⟩ : ∃ lo : Nat → Int, lo = fun c => -D 0 (nd T c) := ⟨_, rfl⟩
  obtain ⟨hi, hhi⟩ : ∃ hi : Nat → Int, hi = fun c => D (nd T c) 0 := ⟨_, rfl⟩
  rw [← hlo, ← hhi]
  refine fn_of' pl get28 (oo (by decide)) rfl rfl ?_
  simp (disch := omega) [Und, ha, hf, -Bool.exists_bool]
  refine lp_loop pl (fun k fr σ => ∃ i v, i + k = T.length ∧ fr = ⟨[(2, .ptr (some (0, 0))), (7, vl eRow false (fr0 (rowsC N D))), (9, v), (10, .int .i64 i)], []⟩ ∧ σ.lim = 0 ∧ 1 ≤ σ.next ∧ σ.get 0 = some (.cells [vs nT T, .int .i64 M]) ∧ RowsB 1 2 eSpan σ v (spanRows T lo hi i))
    ⟨T.length, 0, _, by omega, rfl, rfl, Nat.le_refl _, by simp, RowsB.nil⟩ ?_
  rintro k _ σ ⟨i, v, hik, rfl, h1, h2, h3, h5⟩
  by_cases hil : i < T.length
  · have hti := htn i hil
    have hil2 : (i : Int) < T.length := by omega
    simp (disch := omega) [Und, hil, hil2, h3]
    refine lp_loop pl (fun k2 fr σ2 => ∃ (m : Nat) (w : AV), m + k2 = tn T i + 1 ∧ fr = ⟨[(2, .ptr (some (0, 0))), (7, vl eRow false (fr0 (rowsC N D))), (9, v), (10, .int .i64 i), (11, w), (12, .int .i64 m)], []⟩ ∧ Keep σ.next σ σ2 ∧ Buf σ.next 2 eSpan σ2 w (spanRow T lo hi i m))
      ⟨tn T i + 1, 0, _, by omega, rfl, Keep.refl _ _, Buf.nil⟩ ?_
    rintro k2 _ σ2 ⟨m, w, hmk, rfl, y1, y2⟩
    have z1 : σ2.get 0 = some (.cells [vs nT T, .int .i64 M]) := (y1.get 0 (by omega)).trans h3
    by_cases hml : m < tn T i + 1
    · have hmT : (m : Int) ≤ nth T i := by omega
      have hnd := node_ok nT T M hs i m (by omega) (by omega)
      simp only [Int.toNat_natCast] at hnd
      have hlt := nodeN_lt (T := T) (i := i) (k := m) hil (by omega)
      rw [← hN] at hlt
      have hn0 : 0 < N := by omega
      obtain ⟨v1, v2, v3⟩ := V_of hs (i := i) (k := m) hil (by omega)
      have hndc : nd T (9 * i + m) = nodeN T i m := by unfold nd; rw [v2, v3]
      generalize nodeN T i m = n at *
      have r0 := rowsC_nth (D := D) hn0
      have rn := rowsC_nth (D := D) hlt
      have c0 := rowC_nth (D n) hn0
      have cn := rowC_nth (D 0) hlt
      have b1 := hb 0 n hn0 hlt
      have hlt2 : (n : Int) < N := by omega
      have hn02 : (0 : Int) < N := by omega
      simp (disch := omega) [Und, hmT, z1, hil, hil2, hnd, r0, rn, c0, cn, rowsC_len, rowC_len, hlt, hlt2, hn0, hn02]
      have hrl0 : (rowsC N D).length = N := by unfold rowsC; simp
      refine ⟨by omega, by omega, ?_⟩
      have hsl : (spanRow T lo hi i m).length = m := by unfold spanRow; simp
      refine y2.push encSpan (by rw [y1.lim]; omega) y1.next ⟨-D 0 n, D n 0⟩ (by rw [hsl]; simp only [topBytes]; omega) rfl fun v' σ3 b1 b2 => ?_
      simp (disch := omega) []
      refine ⟨k2 - 1, by omega, m + 1, by omega, _, ⟨rfl, by omega⟩, y1.trans b2.toKeep, ?_⟩
      have : spanRow T lo hi i (m + 1) = spanRow T lo hi i m ++ [⟨-D 0 n, D n 0⟩] := by
        unfold spanRow
        rw [List.range_succ, List.map_append, hlo, hhi]
        simp only [List.map_cons, List.map_nil, hndc]
      rw [this]
      exact b1
    · have hmT : ¬ (m : Int) ≤ nth T i := by omega
      have hsl : (spanRow T lo hi i m).length = m := by unfold spanRow; simp
      have hw : m = tn T i + 1 := by omega
      rcases y2 with ⟨_, h⟩ | ⟨o, rfl, o1, o2, o3⟩
      · rw [h] at hsl; simp only [List.length_nil] at hsl; omega
      rw [hsl]
      simp (disch := omega) [Und, hmT, z1, hsl]
      refine ⟨hil, ?_⟩
      have hrl : (spanRows T lo hi i).length = i := by unfold spanRows; simp
      refine (h5.stay y1 (Nat.le_refl _)).push (by rw [y1.lim]; omega) (by have := y1.next; omega) (spanRow T lo hi i m) (by omega) o2 (fun hc => by have := (h5.obj_lt _ hc).2; omega) hsl.symm (.inl rfl) (by rw [hrl]; simp only [topBytes]; omega) fun v' σ3 b1 b2 => ?_
      simp (disch := omega) []
      have hold : ∀ j, j < 1 → σ3.get j = σ2.get j := fun j hj => b2.get j hj
      have hrow : spanRows T lo hi (i + 1) = spanRows T lo hi i ++ [spanRow T lo hi i m] := by
        unfold spanRows
        rw [List.range_succ, List.map_append, hw]; rfl
      have hn2 := y1.next
      have hn3 := b2.next
      refine ⟨k - 1, by omega, i + 1, by omega, _, ⟨rfl, by omega⟩, by rw [b2.lim, y1.lim]; exact h1, by omega, (hold 0 (by omega)).trans z1, ?_⟩
      rw [hrow]; exact b1
  · obtain rfl : i = T.length := by omega
    simp (disch := omega) [Und, h3]
    have hf := h5.fz encSpan flatSp 4
    have hne : (spanRows T lo hi T.length).isEmpty = false := by
      cases hq : spanRows T lo hi T.length with
      | nil => have := congrArg List.length hq; unfold spanRows at this; simp only [List.length_map, List.length_range, List.length_nil] at this; omega
      | cons => rfl
    rw [hne] at hf
    exact hf
theorem canB_false {T : List Int} {M : Int} {l : List Rd} (h : ∀ x, ¬ Feas T M (cons l) x) : canB T M l = false := by
  cases hc : canB T M l with
  | false => rfl
  | true => obtain ⟨x, hx⟩ := canB_iff.1 hc; exact absurd hx (h x)
theorem far_cases (nT nl : Bool) (T : List Int) (M : Int) (l : List Rd) (but : Int) (hT : T.length < 2 ^ 62) (ha : askE T M l = 0) :
    (∃ D : Mat, ans prog O 79 [eSet nT T M, vl eRd nl l, .int .i64 but] = some (.tuple [vl eRow false (fr0 (rowsC (pre T T.length + 1) D)), .bool true]) ∧ Great T M (cons (listBut l but)) (fun c => D (nd T c) 0) ∧ Least T M (cons (listBut l but)) (fun c => -D 0 (nd T c)) ∧
      ∀ a b, a < pre T T.length + 1 → b < pre T T.length + 1 → -4294967296000000 ≤ D a b ∧ D a b ≤ 500000) ∨
    (ans prog O 79 [eSet nT T M, vl eRd nl l, .int .i64 but] = some (.tuple [.vsl true [], .bool false]) ∧ ∀ x, ¬ Feas T M (cons (listBut l but)) x) := by
  obtain ⟨hs, hl24, hr⟩ := okay_ask ha
  obtain ⟨N, hN⟩ : ∃ N, N = pre T T.length + 1 := ⟨_, rfl⟩
  obtain ⟨D, hD⟩ : ∃ D, D = fw N N (rds T M l but l.length) := ⟨_, rfl⟩
  obtain ⟨f1, f2⟩ := far_law (but := but) hs hr N hN D hD
  by_cases h : ∀ a, a < N → 0 ≤ D a a
  · obtain ⟨g1, g2, g3⟩ := f2 h
    exact .inl ⟨D, by rw [← hN]; exact far_good nT nl T M l but hs hr hl24 hT N hN D hD _ (.inl ⟨h, rfl⟩), g1, g2, by rw [← hN]; exact g3⟩
  · have h' : ∃ a, a < N ∧ D a a < 0 := Classical.byContradiction fun hc => h fun a ha => Int.not_lt.1 fun hlt => hc ⟨a, ha, hlt⟩
    exact .inr ⟨far_good nT nl T M l but hs hr hl24 hT N hN D hD _ (.inr ⟨h', rfl⟩), f1 h'⟩
theorem far_can (nT nl : Bool) (T : List Int) (M : Int) (l : List Rd) (but : Int) (hT : T.length < 2 ^ 62) (ha : askE T M l = 0) : ∃ r, ans prog O 79 [eSet nT T M, vl eRd nl l, .int .i64 but] = some (.tuple [r, .bool (canB T M (listBut l but))]) := by
  rcases far_cases nT nl T M l but hT ha with ⟨D, h1, h2, _⟩ | ⟨h1, h2⟩
  · exact ⟨_, by rw [canB_iff.2 ⟨_, h2.1⟩]; exact h1⟩
  · exact ⟨_, by rw [canB_false h2]; exact h1⟩
theorem SpansR_same (nT nl : Bool) (T : List Int) (M : Int) (l : List Rd) (hT : T.length < 2 ^ 62) (hl : l.length < 2 ^ 62) {v : AV} (h : SpOK T M l v) : ans prog O 28 [eSet nT T M, vl eRd nl l] = some v := by
  have hlb : listBut l (-1) = l := by unfold listBut; rw [if_neg (by omega)]
  cases h with
  | bad ha =>
    refine fn_of' pl get28 (oo (by decide)) rfl rfl ?_
    simp (disch := omega) [Und, ha]
  | none ha hn =>
    rcases far_cases nT nl T M l (-1) hT ha with ⟨D, h1, h2, h3, h4⟩ | ⟨h1, h2⟩
    · rw [hlb] at h2; exact absurd h2.1 (hn _)
    · refine fn_of' pl get28 (oo (by decide)) rfl rfl ?_
      simp (disch := omega) [Und, ha, h1]
  | some lo hi ha hlo hhi =>
    rcases far_cases nT nl T M l (-1) hT ha with ⟨D, h1, h2, h3, h4⟩ | ⟨h1, h2⟩
    · rw [hlb] at h2 h3
      rw [SpansR_good nT nl T M l hT hl ha _ rfl D h1 h4]
      obtain ⟨hs, hl24, hr⟩ := okay_ask ha
      have e : spanRows T (fun c => -D 0 (nd T c)) (fun c => D (nd T c) 0) T.length = spanRows T lo hi T.length := by
        unfold spanRows
        refine List.map_congr_left fun i hi' => ?_
        have hi' := List.mem_range.1 hi'
        unfold spanRow
        refine List.map_congr_left fun k hk => ?_
        have hk := List.mem_range.1 hk
        obtain ⟨v1, _, _⟩ := V_of hs (i := i) (k := k) hi' (by omega)
        have a1 := hlo.2 _ h3.1 _ v1
        have a2 := h3.2 _ hlo.1 _ v1
        have a3 := hhi.2 _ h2.1 _ v1
        have a4 := h2.2 _ hhi.1 _ v1
        simp only at a1 a2 a3 a4
        have b1 : -D 0 (nd T (9 * i + k)) = lo (9 * i + k) := by omega
        have b2 : D (nd T (9 * i + k)) 0 = hi (9 * i + k) := by omega
        simp only [b1, b2]
      rw [e]
    · rw [hlb] at h2; exact absurd hlo.1 (h2 _)
theorem SuspectsR_ok (nT nl : Bool) (T : List Int) (M : Int) (l : List Rd) (hT : T.length < 2 ^ 62) (hl : l.length < 2 ^ 62) : ans prog O 31 [eSet nT T M, vl eRd nl l] = some (suspV T M l) := by
  have hlb : listBut l (-1) = l := by unfold listBut; rw [if_neg (by omega)]
  by_cases ha : askE T M l = 0
  · obtain ⟨hs, hl24, hr⟩ := okay_ask ha
    obtain ⟨r0, c0⟩ := far_can nT nl T M l (-1) hT ha
    rw [hlb] at c0
    by_cases hc : canB T M l = true
    · have hv : suspV T M l = .tuple [.vsl true [], .int .i64 4] := by unfold suspV; rw [if_pos ha, if_pos hc]
      rw [hv]
      refine fn_of' pl get31 (oo (by decide)) rfl rfl ?_
      simp (disch := omega) [Und, ha, c0, hc]
    · have hv : suspV T M l = .tuple [vs (susp T M l l.length).isEmpty (susp T M l l.length), .int .i64 0] := by unfold suspV; rw [if_pos ha, if_neg hc]
      rw [hv]
      have hc := Bool.eq_false_iff.2 hc
      refine fn_of' pl get31 (oo (by decide)) rfl rfl ?_
      simp (disch := omega) [Und, ha, c0, hc]
      refine lp_loop pl (fun k fr σ => ∃ (j : Nat) (v : AV), j + k = l.length ∧ fr = ⟨[(1, vl eRd nl l), (2, .ptr (some (0, 0))), (9, v), (10, .int .i64 j)], []⟩ ∧ σ.lim = 0 ∧ 1 ≤ σ.next ∧ σ.get 0 = some (.cells [vs nT T, .int .i64 M]) ∧ Buf 1 1 (AV.int .i64) σ v (susp T M l j))
        ⟨l.length, 0, _, by omega, rfl, rfl, by simp, by simp, Buf.nil⟩ ?_
      rintro k _ σ ⟨j, v, hj, rfl, s0, s1, s2, s4⟩
      by_cases hjl : j < l.length
      · obtain ⟨rj, cj⟩ := far_can nT nl T M l j hT ha
        have hlj : listBut l j = without l j := by unfold listBut; rw [if_pos (by omega), Int.toNat_natCast]
        rw [hlj] at cj
        have hss := susp_succ T M l j
        have hsl := susp_len T M l j
        have hjl2 : (j : Int) < l.length := by omega
        by_cases hcj : canB T M (without l j) = true
        · rw [if_pos hcj] at hss
          simp (disch := omega) [Und, hjl, hjl2, s2, cj, hcj]
          refine s4.push encI (by omega) s1 j (by simp only [topBytes]; omega) rfl fun v' σ' b1 b2 => ?_
          simp (disch := omega) [Und]
          refine ⟨k - 1, by omega, j + 1, by omega, _, ⟨rfl, by omega⟩, by rw [b2.lim]; exact s0, Nat.le_trans s1 b2.next, (b2.get 0 (by omega)).trans s2, ?_⟩
          rw [hss]; exact b1
        · rw [if_neg hcj] at hss
          have hcj := Bool.eq_false_iff.2 hcj
          simp (disch := omega) [Und, hjl, hjl2, s2, cj, hcj]
          exact ⟨k - 1, by omega, j + 1, by omega, _, ⟨rfl, by omega⟩, s0, s1, by rw [hss]; exact s4⟩
      · obtain rfl : j = l.length := by omega
        simp (disch := omega) [Und]
        exact s4.fzI 5
  · have hv : suspV T M l = .tuple [.vsl true [], .int .i64 (askE T M l)] := by unfold suspV; rw [if_neg ha]
    rw [hv]
    refine fn_of' pl get31 (oo (by decide)) rfl rfl ?_
    simp (disch := omega) [Und, ha]
theorem SpOK.same {T : List Int} {M : Int} {l : List Rd} {v : AV} (h : SpOK T M l v) : ∃ (n : Bool) (R : List (Bool × List Span)) (e : Int), v = .tuple [vl eSpans n R, .int .i64 e] ∧ R.length < 2 ^ 62 ∧ ∀ i, i < R.length → (nth R i).2.length < 2 ^ 62 := by
  cases h with
  | bad ha => exact ⟨true, [], _, rfl, by simp, fun i hi => by simp at hi⟩
  | none ha hn => exact ⟨true, [], _, rfl, by simp, fun i hi => by simp at hi⟩
  | some lo hi ha hlo hhi =>
    obtain ⟨hs, hl24, hr⟩ := okay_ask ha
    have hT4 : T.length ≤ 4 := by have := hs.1.1; omega
    refine ⟨false, _, _, rfl, by rw [fr0_len, spanRows_len]; omega, fun i hi' => ?_⟩
    rw [fr0_len, spanRows_len] at hi'
    rw [fr0_nth (by rw [spanRows_len]; exact hi'), spanRows_nth T lo hi hi']
    simp only [spanRow_len]
    have := hs.2 i hi'
    unfold tn; omega
theorem suspV_same (T : List Int) (M : Int) (l : List Rd) (hl : l.length < 2 ^ 62) : ∃ (n : Bool) (xs : List Int) (e : Int), suspV T M l = .tuple [vs n xs, .int .i64 e] ∧ xs.length < 2 ^ 62 := by
  unfold suspV
  split
  · split
    · exact ⟨true, [], _, rfl, by simp⟩
    · have := susp_len T M l l.length
      exact ⟨_, _, _, rfl, by omega⟩
  · exact ⟨true, [], _, rfl, by simp⟩
theorem ScrewCompares_ok (nT : Bool) (T : List Int) (M : Int) (nl : Bool) (l : List Rd) (nE : Bool) (E : Rows) {x y z : AV} (h1 : Slice (AV.int .i64) i64 x nT T) (hM : i64 M) (h2 : Slice eRd (fun _ => True) y nl l) (h3 : Slice eRow Go.Oct.rowOK z nE E) :
    ans prog O 4 [eSet nT T M, vl eRd nl l, vl eRow nE E] = some (.bool true) := by
  have hT0 := h1.len
  have hl0 := h2.len
  have hT : T.length < 2 ^ 62 := by omega
  have hl : l.length < 2 ^ 62 := by omega
  have hE := rows_len h3
  have t1 := Truth_ok nT nl nE T M l E hT hl hE.1 hE.2
  have t2 := TruthR_ok nT nl nE T M l E hT hl hE.1 hE.2
  obtain ⟨v, hv, g1⟩ := Spans_ok nT nl T M l hT h2.nil hl
  have g2 := SpansR_same nT nl T M l hT hl hv
  obtain ⟨n, R, e, rfl, hR, hRr⟩ := hv.same
  have g3 := SameSpans2_ok n n R hR hRr
  have u1 := Suspects_ok nT nl T M l hT hl
  have u2 := SuspectsR_ok nT nl T M l hT hl
  obtain ⟨n', xs, e', hs, hxs⟩ := suspV_same T M l hl
  rw [hs] at u1 u2
  unfold truthV at t1 t2
  refine fn_of' pl get4 (oo (by decide)) rfl rfl ?_
  simp (disch := omega) [Und, t1, t2, g1, g2, g3, u1, u2, hxs]
end Go.Oct.Screw
