/- TopPlates. -/
import Derived.Test.YtddkghgfbhhcdaaDoorOPlaGlaW
set_option maxRecDepth 100000
set_option maxHeartbeats 4000000
set_option linter.unusedVariables false
set_option linter.unusedSimpArgs false
namespace Go.Oct.Pla
open Go.Oct
theorem spanRow_len (T : List Int) (lo hi : Nat → Int) (i n : Nat) : (spanRow T lo hi i n).length = n := by unfold spanRow; simp
theorem spanRows_len (T : List Int) (lo hi : Nat → Int) (n : Nat) : (spanRows T lo hi n).length = n := by unfold spanRows; simp
theorem spanRows_nth (T : List Int) (lo hi : Nat → Int) {n i : Nat} (h : i < n) : nth (spanRows T lo hi n) i = spanRow T lo hi i (tn T i + 1) := by
  rw [nth_eq (by rw [spanRows_len]; exact h)]
  unfold spanRows
  rw [List.getElem_map, List.getElem_range]
theorem spanRow_nth (T : List Int) (lo hi : Nat → Int) {i n k : Nat} (h : k < n) : nth (spanRow T lo hi i n) k = ⟨lo (9 * i + k), hi (9 * i + k)⟩ := by
  rw [nth_eq (by rw [spanRow_len]; exact h)]
  unfold spanRow
  rw [List.getElem_map, List.getElem_range]
/-- The error of a screw, and what is known of it. -/
inductive ErrV : AV → Prop
  | no : ErrV (.tuple [.int .i64 0, .agg [.int .i64 0, .int .i64 0], .bool false])
  | yes (x lo hi : Int) (h1 : lo ≤ x) (h2 : x ≤ hi) (h3 : -100000 ≤ lo) (h4 : hi ≤ 100000) : ErrV (.tuple [.int .i64 x, .agg [.int .i64 lo, .int .i64 hi], .bool true])
theorem Err_ok (nT : Bool) (T : List Int) (M : Int) (nl : Bool) (l : List Rd) (nE : Bool) (E : Rows) (t : Int) (hT : T.length < 2 ^ 62) (hl : l.length < 2 ^ 62) (hn : nl = true → l = []) (hE : List.length E < 2 ^ 62) (hEr : ∀ i, i < List.length E → (nth E i).2.length < 2 ^ 62) :
    ∃ v, ErrV v ∧ ans prog O 5 [.agg [vs nT T, .int .i64 M, vl eRd nl l, vl eRow nE E], .int .i64 t] = some v := by
  obtain ⟨v, hv, hsp⟩ := Spans_ok nT nl T M l hT hn hl
  have htr := Truth_ok nT nl nE T M l E hT hl hE hEr
  cases hv with
  | bad h =>
    have hv : truthV T M l E = .tuple [.bool false, .int .i64 (askE T M l)] := by
      unfold truthV; rw [decide_eq_false]; exact fun h2 => h h2.1
    rw [hv] at htr
    refine ⟨_, .no, ?_⟩
    refine fn_of' pl get5 (oo (by decide)) rfl rfl ?_
    simp +contextual (disch := omega) [hsp, htr, h, Und]
  | none h hno =>
    have hv : truthV T M l E = .tuple [.bool false, .int .i64 0] := by
      unfold truthV; rw [decide_eq_false, h]
      exact fun h2 => hno _ ((truth_feas (okay_ask h).1).1 h2.2).2
    rw [hv] at htr
    refine ⟨_, .no, ?_⟩
    refine fn_of' pl get5 (oo (by decide)) rfl rfl ?_
    simp +contextual (disch := omega) [hsp, htr, h, Und]
  | some lo hi h hlo hhi =>
    obtain ⟨hs, hl24, hr⟩ := okay_ask h
    have hT4 : T.length ≤ 4 := (okay_of hs hr).len
    have htn : ∀ i, i < T.length → (tn T i : Int) = nth T i ∧ 1 ≤ tn T i ∧ tn T i ≤ 8 := fun i hi => by have := hs.2 i hi; unfold tn; omega
    have hv : truthV T M l E = .tuple [.bool (decide (truthP T M l E)), .int .i64 0] := by unfold truthV; rw [h]; simp
    rw [hv] at htr
    have hsl : List.length (fr0 (spanRows T lo hi T.length)) = T.length := by rw [fr0_len, spanRows_len]
    have hsn : ∀ i, i < T.length → nth (fr0 (spanRows T lo hi T.length)) i = (false, spanRow T lo hi i (tn T i + 1)) := fun i hi => by rw [fr0_nth (by rw [spanRows_len]; exact hi), spanRows_nth _ _ _ hi]
    generalize hSS : fr0 (spanRows T lo hi T.length) = SS at *
    by_cases ht : truthP T M l E
    · obtain ⟨⟨g1, g2⟩, g3⟩ := (truth_feas hs).1 ht
      have hT1 := hs.1.1.1
      have g20 := g2 0 (by omega)
      have hs0 := hsn 0 (by omega)
      have ht0 := htn 0 (by omega)
      have hr0 := spanRow_len T lo hi 0 (tn T 0 + 1)
      obtain ⟨k, hk, hk2⟩ : ∃ k : Nat, (k : Int) = t % (((tn T 0 + 1 : Nat)) : Int) ∧ k < tn T 0 + 1 := by
        have h1 := Int.emod_nonneg t (show (((tn T 0 + 1 : Nat)) : Int) ≠ 0 by omega)
        have h2 := Int.emod_lt_of_pos t (show (0 : Int) < (((tn T 0 + 1 : Nat)) : Int) by omega)
        exact ⟨(t % (((tn T 0 + 1 : Nat)) : Int)).toNat, by omega, by omega⟩
      have hsk := spanRow_nth T lo hi (i := 0) hk2
      have hV : V T (9 * 0 + k) := by
        unfold V
        rw [show (9 * 0 + k) / 9 = 0 by omega, show (9 * 0 + k) % 9 = k by omega]
        omega
      have hek := errs_at (E := E) (a := 0) (i := k) (by omega)
      have h1 := hlo.2 _ g3 _ hV
      have h2 := hhi.2 _ g3 _ hV
      have h3 := hlo.1.bnd _ hV
      have h4 := hhi.1.bnd _ hV
      have hM := hs.1.2
      rw [hek] at h1 h2
      refine ⟨_, .yes (nth (nth E 0).2 k) (lo (9 * 0 + k)) (hi (9 * 0 + k)) h1 h2 (by omega) (by omega), ?_⟩
      have hR0 : 0 < List.length E := by omega
      have hR1 : 0 < List.length SS := by omega
      generalize hrow : spanRow T lo hi 0 (tn T 0 + 1) = R at *
      generalize hm : tn T 0 + 1 = m at *
      refine fn_of' pl get5 (oo (by decide)) rfl rfl ?_
      have hE0 : ¬ E = [] := fun e => by rw [e] at hR0; exact absurd hR0 (by simp)
      have hS0 : ¬ SS = [] := fun e => by rw [e] at hR1; exact absurd hR1 (by simp)
      have hm0 : ¬ m = 0 := by omega
      simp (disch := omega) [hsp, htr, h, Und, ht, hs0, hr0, g20, hsk, ← hk, hE0, hS0, hm0, hR0, hR1, hk2]
    · refine ⟨_, .no, ?_⟩
      refine fn_of' pl get5 (oo (by decide)) rfl rfl ?_
      simp +contextual (disch := omega) [hsp, htr, h, Und, ht]
@[simp] theorem span_ok (a b : Int) : ans prog O 7 [.int .i64 a, .int .i64 b] = some (.agg [.int .i64 a, .int .i64 b]) := by
  refine fn_of' pl get7 (oo (by decide)) rfl rfl ?_
  simp +contextual (disch := omega) [Und]
theorem flatFr : flatE eFr := fun x c hc k f => by
  simp only [cells_eFr, List.mem_cons, List.not_mem_nil, or_false] at hc
  rcases hc with rfl | rfl | rfl | rfl | rfl <;> exact ⟨rfl, rfl⟩
theorem TopPlates_law (nT : Bool) (T : List Int) (M : Int) (nl : Bool) (l : List Rd) (nE : Bool) (E : Rows) (a b c : Int) (hT : T.length < 2 ^ 62) (hl : l.length < 2 ^ 62) (hn : nl = true → l = []) (hE : List.length E < 2 ^ 62) (hEr : ∀ i, i < List.length E → (nth E i).2.length < 2 ^ 62) :
    ans prog O 3 [.agg [vs nT T, .int .i64 M, vl eRd nl l, vl eRow nE E], .agg [.int .i64 a, .int .i64 b, .int .i64 c]] = some (.bool true) := by
  obtain ⟨v, hv, he⟩ := Err_ok nT T M nl l nE E a hT hl hn hE hEr
  obtain ⟨P, hP, hP1, hP2⟩ : ∃ P, P = b % 400 - 200 ∧ -200 ≤ P ∧ P ≤ 199 := ⟨_, rfl, by omega, by omega⟩
  obtain ⟨S, hS, hS1, hS2⟩ : ∃ S, S = c % 400 - 200 ∧ -200 ≤ S ∧ S ≤ 199 := ⟨_, rfl, by omega, by omega⟩
  refine fn_of' pl get3 (oo (by decide)) rfl rfl ?_
  cases hv with
  | no =>
    simp (disch := omega) [he, Und, ← hP, ← hS]
  | yes x lo hi h1 h2 h3 h4 =>
    by_cases hsp : -1000 ≤ P + x - hi ∧ P + x - hi ≤ P + x - lo ∧ P + x - lo ≤ 1000
    · have hok : okFr ⟨P + x - hi, P + x - lo, max (S - P) (-(S - P))⟩ := by unfold okFr; simp only; omega
      have hsu := Surf_ok _ hok
      have hlen := stA_len ⟨P + x - hi, P + x - lo, max (S - P) (-(S - P))⟩ 2001
      obtain ⟨f1, f2, f3⟩ := stA_fin hok
      have hin : inA ⟨P + x - hi, P + x - lo, max (S - P) (-(S - P))⟩ S := by unfold inA; simp only; omega
      have f4 := f3 _ hin
      simp only at f2
      obtain ⟨R, hR, hR1, hR2⟩ : ∃ R : Int, R = max (S - P) (-(S - P)) ∧ 0 ≤ R ∧ R ≤ 399 := ⟨_, rfl, by omega, by omega⟩
      rw [← hR] at hsu hlen f1 f2 f4
      generalize hL : stA ⟨P + x - hi, P + x - lo, R⟩ 2001 = L at *
      have hsu2 : ans prog O 12 [.vsl false [.agg [.int .i64 (P + x - hi), .int .i64 (P + x - lo), .int .i64 R, .int .i64 R, .int .i64 0]]] = some (.tuple [vl eSpan false L, .int .i64 0]) := hsu
      have hL0 : ¬ L = [] := fun e => by rw [e] at f1; exact absurd f1 (by simp)
      simp (disch := omega) [he, Und, ← hP, ← hS, ← hR, hsp, hsu2, hL0]
      have hsn : ∀ ω : AH, ω.get 4 = some (.cells [.int .i64 (P + x - hi), .int .i64 (P + x - lo), .int .i64 R, .int .i64 R, .int .i64 0]) → Snap ω (.slice (some (4, 0)) 1 (.ex 1)) [4] (vl eFr false [⟨P + x - hi, P + x - lo, R⟩]) := fun ω hω => by
        have hv : View 0 5 eFr ω (.slice (some (4, 0)) 1 (.ex 1)) [⟨P + x - hi, P + x - lo, R⟩] := ⟨4, .ex 1, [], [], rfl, by omega, AH.cel_get hω, .inr ⟨1, rfl, by simp, by simp⟩, by simp⟩
        exact hv.snap encFr flatFr
      refine pc_kill (.cons (hsn _ (by simp)) .nil) (fun h => by cases h) (by simp) (oo (args := []) (by decide)).1 (fun i hi => by simp at hi; simp [hi]) hsu fun σ' hσ' => ?_
      have q2 : σ'.get 2 = some (.cells [.int .i64 lo, .int .i64 hi]) := by rw [hσ'.get 2 (by simp) (by simp)]; simp
      have q0 : σ'.lim = 0 := by rw [hσ'.lim]; simp
      have q3 := AH.get_lt q2
      simp (disch := omega) [he, Und, hL0, q0, q2, q3]
      refine ⟨by omega, fun _ => ?_⟩
      refine lp_loop pl (fun k fr ω => ∃ (i : Nat) (u : Bool), i + k = L.length ∧ fr = ⟨[(6, .ptr (some (2, 0))), (9, .int .i64 S), (12, .int .i64 R), (13, vl eSpan false L), (15, .bool u), (16, .int .i64 i)], []⟩ ∧ ω = σ' ∧ ((∃ j, j < i ∧ (nth L j).lo ≤ S ∧ S ≤ (nth L j).hi) → u = true))
        ⟨L.length, 0, false, by omega, rfl, rfl, fun ⟨j, hj, _⟩ => by omega⟩ ?_
      rintro k _ ω ⟨i, u, hik, rfl, rfl, hu⟩
      by_cases hi2 : i < L.length
      · obtain ⟨f5, f6, f7⟩ := f2 _ (nth_mem hi2)
        cases u with
        | true =>
          simp (disch := omega) [Und, q0, q2, q3, hi2, -Bool.exists_bool]
          refine ⟨by omega, fun _ => ⟨k - 1, by omega, i + 1, by omega, true, ⟨rfl, by omega⟩, fun _ _ _ _ => rfl⟩⟩
        | false =>
          by_cases hc : (nth L i).lo ≤ S ∧ S ≤ (nth L i).hi
          · simp (disch := omega) [Und, q0, q2, q3, hi2, eq_true hc, -Bool.exists_bool]
            refine ⟨by omega, fun _ => ⟨k - 1, by omega, i + 1, by omega, true, ⟨rfl, by omega⟩, fun _ _ _ _ => rfl⟩⟩
          · simp (disch := omega) [Und, q0, q2, q3, hi2, eq_false hc, -Bool.exists_bool]
            refine ⟨by omega, fun _ => ⟨k - 1, by omega, i + 1, by omega, false, ⟨rfl, by omega⟩, fun j hj g1 g2 => ?_⟩⟩
            by_cases e : j = i
            · rw [e] at g1 g2; exact absurd ⟨g1, g2⟩ hc
            · exact hu ⟨j, by omega, g1, g2⟩
      · obtain rfl : i = L.length := by omega
        obtain ⟨s0, hs0, hs1⟩ := f4
        obtain ⟨j, hj, rfl⟩ := mem_nth.1 hs0
        obtain rfl := hu ⟨j, hj, hs1⟩
        simp (disch := omega) [Und, q0, q2, q3, -Bool.exists_bool]
    · have y1 : (decide (P + x - hi ≤ P)) = true := decide_eq_true (by omega)
      have y2 : (decide (P ≤ P + x - lo)) = true := decide_eq_true (by omega)
      simp (disch := omega) [he, Und, ← hP, ← hS]
      refine ⟨fun _ => ?_, fun q1 q2 q3 => absurd ⟨q1, by omega, q3⟩ hsp⟩
      rw [y1, y2, decide_eq_true h1, decide_eq_true h2]
theorem inv_reads {x : AV} (h : CellIs (.sl true [.int .i64, .int .i64, .int .i64, .int .i64, .int .i64, .int .i64]) x) : ∃ nl xs, Slice eRd (fun _ => True) x nl xs := by
  refine h.inv_sl fun cs hc => ?_
  obtain ⟨c1, _, rfl, h1, hc⟩ := hc.uncons
  obtain ⟨c2, _, rfl, h2, hc⟩ := hc.uncons
  obtain ⟨c3, _, rfl, h3, hc⟩ := hc.uncons
  obtain ⟨c4, _, rfl, h4, hc⟩ := hc.uncons
  obtain ⟨c5, _, rfl, h5, hc⟩ := hc.uncons
  obtain ⟨c6, rfl, h6⟩ := hc.one
  obtain ⟨n1, rfl, _⟩ := h1.inv_int
  obtain ⟨n2, rfl, _⟩ := h2.inv_int
  obtain ⟨n3, rfl, _⟩ := h3.inv_int
  obtain ⟨n4, rfl, _⟩ := h4.inv_int
  obtain ⟨n5, rfl, _⟩ := h5.inv_int
  obtain ⟨n6, rfl, _⟩ := h6.inv_int
  exact ⟨⟨n1, n2, n3, n4, n5, n6⟩, rfl, trivial⟩
theorem rows_len {x : AV} {nE : Bool} {E : Rows} (h : Slice eRow Go.Oct.rowOK x nE E) : List.length E < 2 ^ 62 ∧ ∀ i, i < List.length E → (nth E i).2.length < 2 ^ 62 := by
  have := h.len
  refine ⟨by omega, fun i hi => ?_⟩
  have := (h.good (nth E i) (nth_mem hi)).2.1
  omega
theorem TopPlates_ok (nT : Bool) (T : List Int) (M : Int) (nl : Bool) (l : List Rd) (nE : Bool) (E : Rows) (a b c : Int) {x y z : AV} (h1 : Slice (AV.int .i64) i64 x nT T) (h2 : Slice eRd (fun _ => True) y nl l) (h3 : Slice eRow Go.Oct.rowOK z nE E) :
    ans prog O 3 [.agg [vs nT T, .int .i64 M, vl eRd nl l, vl eRow nE E], .agg [.int .i64 a, .int .i64 b, .int .i64 c]] = some (.bool true) := by
  have := h1.len
  have := h2.len
  exact TopPlates_law nT T M nl l nE E a b c (by omega) (by omega) h2.nil (rows_len h3).1 (rows_len h3).2
end Go.Oct.Pla
